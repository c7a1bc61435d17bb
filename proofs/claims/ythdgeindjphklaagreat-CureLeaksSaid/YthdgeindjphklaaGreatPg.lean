/- Part g of the lemmas and walks. -/
import Derived.Test.YthdgeindjphklaaGreatPf

namespace Go.Proofs.YthdgeindjphklaaGreat
open Go.RowKit

def meetE (a b c d : Rat) : Rat × Rat × Int := if cmpR (hiQ a c) (loQ b d) > 0 then (0, 0, 5) else (hiQ a c, loQ b d, 0)
def RetMtP (r : Rat × Rat × Int) (w : World) (e : Ending) (w' : World) : Prop := RetRngE r.1 r.2.1 r.2.2 w e w'
def RetMtQ (r : Rat × Rat × Int) (w : World) (e : Ending) (w' : World) : Prop := RetRngQE r.1 r.2.1 r.2.2 w e w'
theorem fld_ratio_Range_1 (x0 : R3) (x1 : R3) (w : World) : (Instr.field 36 (.agg #[.bool x0.b, .slice x0.a x0.n x0.c, .slice x0.d x0.m x0.e, .bool x1.b, .slice x1.a x1.n x1.c, .slice x1.d x1.m x1.e]) 1).run Tryz.prog w = .ok (x1.val) w := by kernel_rfl
theorem fld_ratio_Range_0 (x0 : R3) (x1 : R3) (w : World) : (Instr.field 36 (.agg #[.bool x0.b, .slice x0.a x0.n x0.c, .slice x0.d x0.m x0.e, .bool x1.b, .slice x1.a x1.n x1.c, .slice x1.d x1.m x1.e]) 0).run Tryz.prog w = .ok (x0.val) w := by kernel_rfl
theorem qint0_any (w : World) : Calls Tryz.prog 77 #[.int .i64 0] w (RetR 0 w) := qint_any 0 w (by omega) (by omega)
set_option maxRecDepth 100000 in
set_option maxHeartbeats 4000000 in
theorem rmeet_any (a b c d : Rat) (vx vy : Value) (w : World) (hx : IsRng w vx a b) (hy : IsRng w vy c d) (sa : szR a 1000000000) (sb : szR b 1000000000) (sc : szR c 1000000000) (sd : szR d 1000000000) :
    Calls Tryz.prog 70 #[vx, vy] w (RetMtP (meetE a b c d) w) := by
  obtain ⟨x1, x2, rfl, h1, h2⟩ := hx
  obtain ⟨y1, y2, rfl, h3, h4⟩ := hy
  have HS := Lib.hid (((((Sx.init w).addP h1).addP h2).addP h3).addP h4)
  have Sa := Lib.hid sa
  have Sb := Lib.hid sb
  have Sc := Lib.hid sc
  have Sd := Lib.hid sd
  clear h1 h2 h3 h4 sa sb sc sd
  go_enter Tryz.func70, Tryz.ntmps70
  go_wp2_with fail
  generalize hW1 : (((w).alloc (.cells _ _)).alloc (.cells _ _)).alloc (.cells _ _) = W1 at *
  replace HS : Hid (Sx w W1 [(w.heap.size + 2, #[.bool false, .slice none 0 0, .slice none 0 0, .bool false, .slice none 0 0, .slice none 0 0], 36), (w.heap.size + 1, arr6 y1 y2, 36), (w.heap.size, arr6 x1 x2, 36)] [(true, y2.val, d), (true, y1.val, c), (true, x2.val, b), (true, x1.val, a)]) := by subst hW1; exact (((HS.out).alloc (B := w.heap.size) rfl (by rfl)).alloc (B := w.heap.size + 1) (by simp) (by rfl)).alloc (B := w.heap.size + 2) (by simp) (by rfl)
  clear hW1
  refine wp_region_held_drew (S := (fun w' => Sx w w' [(w.heap.size + 2, #[.bool false, .slice none 0 0, .slice none 0 0, .bool false, .slice none 0 0, .slice none 0 0], 36), (w.heap.size + 1, arr6 y1 y2, 36), (w.heap.size, arr6 x1 x2, 36)] [])) (by kernel_rfl) ((HS.out.drew).bare) (fun hh => ?_)
  replace HS := Lib.hid HS.out.drew
  have HSW := Lib.hid HS.out.bel.size
  refine tkA (i := 0) (v := ?vpr2_0_k4) rfl (Or.inl ⟨by first | rfl | kernel_rfl, ?hypr2_0_k4⟩) (by assumption) ?repr2_0_k4
  case hypr2_0_k4 => (intro u hSu; (first | (go_simp; done) | (go_simp; with_reducible rfl)))
  try simp only [nb1, nb2, nb3, Act.put, nb4, nb5, nb6]
  refine tkA (i := 1) (v := ?vpr2_1_k6) rfl (Or.inl ⟨by first | rfl | kernel_rfl, ?hypr2_1_k6⟩) (by assumption) ?repr2_1_k6
  case hypr2_1_k6 => (intro u hSu; (try dsimp only at hSu); obtain ⟨qb0c0, qb0c1, qb0c2, qb0c3, qb0c4, qb0c5, _⟩ := fac6 (x := x1) (y := x2) (hSu.at 2 _ _ _ rfl); clear hSu; (first | (go_simp; done) | (go_simp; with_reducible rfl)))
  try simp only [nb1, nb2, nb3, Act.put, nb4, nb5, nb6]
  refine tkA (i := 2) (v := ?vpr2_2_k8) rfl (Or.inl ⟨by first | rfl | kernel_rfl, ?hypr2_2_k8⟩) (by assumption) ?repr2_2_k8
  case hypr2_2_k8 => (intro u hSu; (first | (go_simp; done) | (go_simp; with_reducible rfl)))
  try simp only [nb1, nb2, nb3, Act.put, nb4, nb5, nb6]
  refine tkA (i := 3) (v := ?vpr2_3_k10) rfl (Or.inl ⟨by first | rfl | kernel_rfl, ?hypr2_3_k10⟩) (by assumption) ?repr2_3_k10
  case hypr2_3_k10 => (intro u hSu; (try dsimp only at hSu); obtain ⟨qb1c0, qb1c1, qb1c2, qb1c3, qb1c4, qb1c5, _⟩ := fac6 (x := y1) (y := y2) (hSu.at 1 _ _ _ rfl); clear hSu; (first | (go_simp; done) | (go_simp; with_reducible rfl)))
  try simp only [nb1, nb2, nb3, Act.put, nb4, nb5, nb6]
  refine tkA (i := 7) (v := ?vpr2_7_k12) rfl (Or.inl ⟨by first | rfl | kernel_rfl, ?hypr2_7_k12⟩) (by assumption) ?repr2_7_k12
  case hypr2_7_k12 => (intro u hSu; (first | (go_simp; done) | (go_simp; with_reducible rfl)))
  try simp only [nb1, nb2, nb3, Act.put, nb4, nb5, nb6]
  refine tkA (i := 8) (v := ?vpr2_8_k14) rfl (Or.inl ⟨by first | rfl | kernel_rfl, ?hypr2_8_k14⟩) (by assumption) ?repr2_8_k14
  case hypr2_8_k14 => (intro u hSu; (try dsimp only at hSu); obtain ⟨qb0c0, qb0c1, qb0c2, qb0c3, qb0c4, qb0c5, _⟩ := fac6 (x := x1) (y := x2) (hSu.at 2 _ _ _ rfl); clear hSu; (first | (go_simp; done) | (go_simp; with_reducible rfl)))
  try simp only [nb1, nb2, nb3, Act.put, nb4, nb5, nb6]
  refine tkA (i := 9) (v := ?vpr2_9_k16) rfl (Or.inl ⟨by first | rfl | kernel_rfl, ?hypr2_9_k16⟩) (by assumption) ?repr2_9_k16
  case hypr2_9_k16 => (intro u hSu; (first | (go_simp; done) | (go_simp; with_reducible rfl)))
  try simp only [nb1, nb2, nb3, Act.put, nb4, nb5, nb6]
  refine tkA (i := 10) (v := ?vpr2_10_k18) rfl (Or.inl ⟨by first | rfl | kernel_rfl, ?hypr2_10_k18⟩) (by assumption) ?repr2_10_k18
  case hypr2_10_k18 => (intro u hSu; (try dsimp only at hSu); obtain ⟨qb1c0, qb1c1, qb1c2, qb1c3, qb1c4, qb1c5, _⟩ := fac6 (x := y1) (y := y2) (hSu.at 1 _ _ _ rfl); clear hSu; (first | (go_simp; done) | (go_simp; with_reducible rfl)))
  try simp only [nb1, nb2, nb3, Act.put, nb4, nb5, nb6]
  refine wpAnyH_modular [4, 5, 6, 11, 12, 13, 14, 15] [4, 5, 11, 12, 14, 15] [6, 13] [12, 13, 14, 19, 20, 21, 6, 7] #[true, true, true, true, true, true, true, true, true, true, true, true, true, true, true, true, false, false] 2 [(4, 12), (5, 13), (6, 14), (11, 19), (12, 20), (13, 21), (14, 6), (15, 7)] [(4, []), (5, [4]), (6, [5]), (11, []), (12, [11, 5]), (13, [12]), (14, []), (15, [])] [14, 15] [(4, fun v w => ∃ (Br2_4 : Nat), v = .slice (some ⟨Br2_4, 0, none⟩) 2 2 ∧ W1.drew.heap.size ≤ Br2_4 ∧ w.heap[Br2_4]? = some (.cells #[.bool x1.b, .slice x1.a x1.n x1.c, .slice x1.d x1.m x1.e, .bool y1.b, .slice y1.a y1.n y1.c, .slice y1.d y1.m y1.e] 34 (0, 0))), (5, fun v w => ∃ z19a z19b : R3, v = .agg #[.bool z19a.b, .slice z19a.a z19a.n z19a.c, .slice z19a.d z19a.m z19a.e, .bool z19b.b, .slice z19b.a z19b.n z19b.c, .slice z19b.d z19b.m z19b.e] ∧ Fr true w z19a.val (loQ a c) ∧ Fr true w z19b.val (hiQ a c)), (6, fun v w => ∃ z19bq6 : R3, v = z19bq6.val ∧ Fr true w z19bq6.val (hiQ a c)), (11, fun v w => ∃ (Br2_11 : Nat), v = .slice (some ⟨Br2_11, 0, none⟩) 2 2 ∧ W1.drew.heap.size ≤ Br2_11 ∧ w.heap[Br2_11]? = some (.cells #[.bool x2.b, .slice x2.a x2.n x2.c, .slice x2.d x2.m x2.e, .bool y2.b, .slice y2.a y2.n y2.c, .slice y2.d y2.m y2.e] 34 (0, 0))), (12, fun v w => ∃ z20a z20b : R3, v = .agg #[.bool z20a.b, .slice z20a.a z20a.n z20a.c, .slice z20a.d z20a.m z20a.e, .bool z20b.b, .slice z20b.a z20b.n z20b.c, .slice z20b.d z20b.m z20b.e] ∧ Fr true w z20a.val (loQ b d) ∧ Fr true w z20b.val (hiQ b d)), (13, fun v w => ∃ z20aq13 : R3, v = z20aq13.val ∧ Fr true w z20aq13.val (loQ b d)), (14, fun v w => ∃ Br2_14 : Nat, v = .pointer (some ⟨Br2_14, 0, none⟩) ∧ W1.drew.heap.size ≤ Br2_14 ∧ w.heap[Br2_14]? = some (.cells #[.bool false, .slice none 0 0, .slice none 0 0] 34 (0, 0))), (15, fun v w => ∃ Br2_15 : Nat, v = .pointer (some ⟨Br2_15, 0, none⟩) ∧ W1.drew.heap.size ≤ Br2_15 ∧ w.heap[Br2_15]? = some (.cells #[.bool false, .slice none 0 0, .slice none 0 0] 34 (0, 0)))]
    rfl (by kernel_rfl) (by decide) rfl ⟨(fun v w w' hb ⟨B, e, g, k⟩ => ⟨B, e, g, blk_keep k hb (blk_lt k)⟩), ⟨(fun v w w' hb ⟨z0, z1, e, h0, h1⟩ => ⟨z0, z1, e, Fr.below h0 hb, Fr.below h1 hb⟩), ⟨(fun v w w' hb ⟨z0, e, h0⟩ => ⟨z0, e, Fr.below h0 hb⟩), ⟨(fun v w w' hb ⟨B, e, g, k⟩ => ⟨B, e, g, blk_keep k hb (blk_lt k)⟩), ⟨(fun v w w' hb ⟨z0, z1, e, h0, h1⟩ => ⟨z0, z1, e, Fr.below h0 hb, Fr.below h1 hb⟩), ⟨(fun v w w' hb ⟨z0, e, h0⟩ => ⟨z0, e, Fr.below h0 hb⟩), ⟨(fun v w w' hb ⟨B, e, g, k⟩ => ⟨B, e, g, blk_keep k hb (blk_lt k)⟩), ⟨(fun v w w' hb ⟨B, e, g, k⟩ => ⟨B, e, g, blk_keep k hb (blk_lt k)⟩), trivial⟩⟩⟩⟩⟩⟩⟩⟩ ⟨fun v w ⟨B, e, g, k⟩ => ⟨B, e, blk_lt k⟩, ⟨fun v w ⟨B, e, g, k⟩ => ⟨B, e, blk_lt k⟩, trivial⟩⟩ (fun w' hb => Sx.below hh hb) ⟨?_, ?_, ?_, ?_, ?_, ?_, trivial⟩ ⟨?_, ?_, trivial⟩ (by decide) ?_
  ·
    refine StepM.of rfl (fun f w' hb hp K hK => ?_)
    have HSB := HS
    replace HS := Lib.hid (HS.out.below hb)
    simp only [fillA, fillT, List.foldl_cons, List.foldl_nil, Act.put, nb4, nb5, nb6]
    go_simp
    exact hK.out _ _ (.slice (some ⟨w'.heap.size, 0, none⟩) 2 2) (by simp only [fillA, fillT, List.foldl_cons, List.foldl_nil, Act.put, nb4, nb5, nb6, nb1, nb2, nb3]) ⟨_, rfl, hb.size, blk_new _ _ _⟩ (fun h => absurd h (by decide)) (below1 w' _)
  ·
    refine StepM.of rfl (fun f w' hb hp K hK => ?_)
    obtain ⟨Br2_4, e4, g4, k4⟩ : ∃ (Br2_4 : Nat), f 12 = .slice (some ⟨Br2_4, 0, none⟩) 2 2 ∧ W1.drew.heap.size ≤ Br2_4 ∧ w'.heap[Br2_4]? = some (.cells #[.bool x1.b, .slice x1.a x1.n x1.c, .slice x1.d x1.m x1.e, .bool y1.b, .slice y1.a y1.n y1.c, .slice y1.d y1.m y1.e] 34 (0, 0)) := hp 4 (by decide)
    have HSB := HS
    replace HS := Lib.hid (HS.out.below hb)
    replace HS := Lib.hid (HS.out.addBox k4 (Nat.le_trans HSW.out g4) (by rfl) (fun b hb2 => by have := HSB.out.lt b hb2; have := g4; omega))
    simp only [fillA, fillT, List.foldl_cons, List.foldl_nil, Act.put, nb4, nb5, nb6, e4]
    have a21 := HS.out.p 3 _ _ rfl
    have a22 := HS.out.p 1 _ _ rfl
    go_simp
    go_wp2_with (go_at_call 116; (with_reducible refine (around2_any a c _ _ (fracs2 (HS.out.at 0 _ _ _ rfl) a21 a22) (szR_mono Sa.out (by omega)) (szR_mono Sc.out (by omega))).mono ?_); rintro e w19 ⟨v19, rfl, ⟨z19a, z19b, rfl, hv19, hw19⟩, hb19⟩)
    exact hK.out _ _ (.agg #[.bool z19a.b, .slice z19a.a z19a.n z19a.c, .slice z19a.d z19a.m z19a.e, .bool z19b.b, .slice z19b.a z19b.n z19b.c, .slice z19b.d z19b.m z19b.e]) (by simp only [fillA, fillT, List.foldl_cons, List.foldl_nil, Act.put, nb4, nb5, nb6, nb1, nb2, nb3, e4]) ⟨z19a, z19b, rfl, hv19, hw19⟩ (fun h => absurd h (by decide)) hb19
  ·
    refine StepM.of rfl (fun f w' hb hp K hK => ?_)
    have HSB := HS
    replace HS := Lib.hid (HS.out.below hb)
    simp only [fillA, fillT, List.foldl_cons, List.foldl_nil, Act.put, nb4, nb5, nb6]
    go_simp
    exact hK.out _ _ (.slice (some ⟨w'.heap.size, 0, none⟩) 2 2) (by simp only [fillA, fillT, List.foldl_cons, List.foldl_nil, Act.put, nb4, nb5, nb6, nb1, nb2, nb3]) ⟨_, rfl, hb.size, blk_new _ _ _⟩ (fun h => absurd h (by decide)) (below1 w' _)
  ·
    refine StepM.of rfl (fun f w' hb hp K hK => ?_)
    obtain ⟨Br2_11, e11, g11, k11⟩ : ∃ (Br2_11 : Nat), f 19 = .slice (some ⟨Br2_11, 0, none⟩) 2 2 ∧ W1.drew.heap.size ≤ Br2_11 ∧ w'.heap[Br2_11]? = some (.cells #[.bool x2.b, .slice x2.a x2.n x2.c, .slice x2.d x2.m x2.e, .bool y2.b, .slice y2.a y2.n y2.c, .slice y2.d y2.m y2.e] 34 (0, 0)) := hp 11 (by decide)
    have HSB := HS
    replace HS := Lib.hid (HS.out.below hb)
    replace HS := Lib.hid (HS.out.addBox k11 (Nat.le_trans HSW.out g11) (by rfl) (fun b hb2 => by have := HSB.out.lt b hb2; have := g11; omega))
    simp only [fillA, fillT, List.foldl_cons, List.foldl_nil, Act.put, nb4, nb5, nb6, e11]
    have a23 := HS.out.p 2 _ _ rfl
    have a24 := HS.out.p 0 _ _ rfl
    go_simp
    go_wp2_with (go_at_call 116; (with_reducible refine (around2_any b d _ _ (fracs2 (HS.out.at 0 _ _ _ rfl) a23 a24) (szR_mono Sb.out (by omega)) (szR_mono Sd.out (by omega))).mono ?_); rintro e w20 ⟨v20, rfl, ⟨z20a, z20b, rfl, hv20, hw20⟩, hb20⟩)
    exact hK.out _ _ (.agg #[.bool z20a.b, .slice z20a.a z20a.n z20a.c, .slice z20a.d z20a.m z20a.e, .bool z20b.b, .slice z20b.a z20b.n z20b.c, .slice z20b.d z20b.m z20b.e]) (by simp only [fillA, fillT, List.foldl_cons, List.foldl_nil, Act.put, nb4, nb5, nb6, nb1, nb2, nb3, e11]) ⟨z20a, z20b, rfl, hv20, hw20⟩ (fun h => absurd h (by decide)) hb20
  ·
    refine StepM.of rfl (fun f w' hb hp K hK => ?_)
    have HSB := HS
    replace HS := Lib.hid (HS.out.below hb)
    simp only [fillA, fillT, List.foldl_cons, List.foldl_nil, Act.put, nb4, nb5, nb6]
    go_simp
    exact hK.out _ _ (.pointer (some ⟨w'.heap.size, 0, none⟩)) (by simp only [fillA, fillT, List.foldl_cons, List.foldl_nil, Act.put, nb4, nb5, nb6, nb1, nb2, nb3]) ⟨_, rfl, hb.size, blk_new _ _ _⟩ (fun _ => rfl) (below1 w' _)
  ·
    refine StepM.of rfl (fun f w' hb hp K hK => ?_)
    have HSB := HS
    replace HS := Lib.hid (HS.out.below hb)
    simp only [fillA, fillT, List.foldl_cons, List.foldl_nil, Act.put, nb4, nb5, nb6]
    go_simp
    exact hK.out _ _ (.pointer (some ⟨w'.heap.size, 0, none⟩)) (by simp only [fillA, fillT, List.foldl_cons, List.foldl_nil, Act.put, nb4, nb5, nb6, nb1, nb2, nb3]) ⟨_, rfl, hb.size, blk_new _ _ _⟩ (fun _ => rfl) (below1 w' _)
  ·
    refine EagerM.of rfl (fun f w' hb hp => ?_)
    obtain ⟨z19a, z19b, e5, h5_0, h5_1⟩ : ∃ z19a z19b : R3, f 13 = .agg #[.bool z19a.b, .slice z19a.a z19a.n z19a.c, .slice z19a.d z19a.m z19a.e, .bool z19b.b, .slice z19b.a z19b.n z19b.c, .slice z19b.d z19b.m z19b.e] ∧ Fr true w' z19a.val (loQ a c) ∧ Fr true w' z19b.val (hiQ a c) := hp 5 (by decide)
    refine ⟨z19b.val, ⟨z19b, rfl, h5_1⟩, by first | rfl | kernel_rfl, fun u => ?_⟩
    simp only [fillA, fillT, List.foldl_cons, List.foldl_nil, Act.put, nb4, nb5, nb6, e5]
    try simp only [rngV]
    have fq := fld_ratio_Range_1 z19a z19b
    first | (go_simp; done) | (go_simp; with_reducible rfl)
  ·
    refine EagerM.of rfl (fun f w' hb hp => ?_)
    obtain ⟨z20a, z20b, e12, h12_0, h12_1⟩ : ∃ z20a z20b : R3, f 20 = .agg #[.bool z20a.b, .slice z20a.a z20a.n z20a.c, .slice z20a.d z20a.m z20a.e, .bool z20b.b, .slice z20b.a z20b.n z20b.c, .slice z20b.d z20b.m z20b.e] ∧ Fr true w' z20a.val (loQ b d) ∧ Fr true w' z20b.val (hiQ b d) := hp 12 (by decide)
    refine ⟨z20a.val, ⟨z20a, rfl, h12_0⟩, by first | rfl | kernel_rfl, fun u => ?_⟩
    simp only [fillA, fillT, List.foldl_cons, List.foldl_nil, Act.put, nb4, nb5, nb6, e12]
    try simp only [rngV]
    have fq := fld_ratio_Range_0 z20a z20b
    first | (go_simp; done) | (go_simp; with_reducible rfl)
  ·
    intro f wr2 hb hp hd
    obtain ⟨Br2_4, e4, g4, k4⟩ : ∃ (Br2_4 : Nat), f 12 = .slice (some ⟨Br2_4, 0, none⟩) 2 2 ∧ W1.drew.heap.size ≤ Br2_4 ∧ wr2.heap[Br2_4]? = some (.cells #[.bool x1.b, .slice x1.a x1.n x1.c, .slice x1.d x1.m x1.e, .bool y1.b, .slice y1.a y1.n y1.c, .slice y1.d y1.m y1.e] 34 (0, 0)) := hp 4 (by decide)
    obtain ⟨z19a, z19b, e5, h5_0, h5_1⟩ : ∃ z19a z19b : R3, f 13 = .agg #[.bool z19a.b, .slice z19a.a z19a.n z19a.c, .slice z19a.d z19a.m z19a.e, .bool z19b.b, .slice z19b.a z19b.n z19b.c, .slice z19b.d z19b.m z19b.e] ∧ Fr true wr2 z19a.val (loQ a c) ∧ Fr true wr2 z19b.val (hiQ a c) := hp 5 (by decide)
    obtain ⟨z19bq6, e6, h6_0⟩ : ∃ z19bq6 : R3, f 14 = z19bq6.val ∧ Fr true wr2 z19bq6.val (hiQ a c) := hp 6 (by decide)
    obtain ⟨Br2_11, e11, g11, k11⟩ : ∃ (Br2_11 : Nat), f 19 = .slice (some ⟨Br2_11, 0, none⟩) 2 2 ∧ W1.drew.heap.size ≤ Br2_11 ∧ wr2.heap[Br2_11]? = some (.cells #[.bool x2.b, .slice x2.a x2.n x2.c, .slice x2.d x2.m x2.e, .bool y2.b, .slice y2.a y2.n y2.c, .slice y2.d y2.m y2.e] 34 (0, 0)) := hp 11 (by decide)
    obtain ⟨z20a, z20b, e12, h12_0, h12_1⟩ : ∃ z20a z20b : R3, f 20 = .agg #[.bool z20a.b, .slice z20a.a z20a.n z20a.c, .slice z20a.d z20a.m z20a.e, .bool z20b.b, .slice z20b.a z20b.n z20b.c, .slice z20b.d z20b.m z20b.e] ∧ Fr true wr2 z20a.val (loQ b d) ∧ Fr true wr2 z20b.val (hiQ b d) := hp 12 (by decide)
    obtain ⟨z20aq13, e13, h13_0⟩ : ∃ z20aq13 : R3, f 21 = z20aq13.val ∧ Fr true wr2 z20aq13.val (loQ b d) := hp 13 (by decide)
    obtain ⟨Br2_14, e14, g14, k14⟩ : ∃ Br2_14 : Nat, f 6 = .pointer (some ⟨Br2_14, 0, none⟩) ∧ W1.drew.heap.size ≤ Br2_14 ∧ wr2.heap[Br2_14]? = some (.cells #[.bool false, .slice none 0 0, .slice none 0 0] 34 (0, 0)) := hp 14 (by decide)
    obtain ⟨Br2_15, e15, g15, k15⟩ : ∃ Br2_15 : Nat, f 7 = .pointer (some ⟨Br2_15, 0, none⟩) ∧ W1.drew.heap.size ≤ Br2_15 ∧ wr2.heap[Br2_15]? = some (.cells #[.bool false, .slice none 0 0, .slice none 0 0] 34 (0, 0)) := hp 15 (by decide)
    have hd14_15 : Br2_14 ≠ Br2_15 := fun h => hd 14 15 (by decide) (by decide) (by decide) (by decide) (by decide) (by show f 6 = f 7; rw [e14, e15, h])
    replace hh := Sx.below hh hb
    have hlt := HS.out.lt
    replace HS := Lib.hid (HS.out.below hb)
    replace HS := Lib.hid (HS.out.addP h5_0)
    replace HS := Lib.hid (HS.out.addP h5_1)
    replace HS := Lib.hid (HS.out.addP h6_0)
    replace HS := Lib.hid (HS.out.addP h12_0)
    replace HS := Lib.hid (HS.out.addP h12_1)
    replace HS := Lib.hid (HS.out.addP h13_0)
    have hge14 : w.heap.size ≤ Br2_14 := Nat.le_trans HSW.out g14
    have hne14 : ∀ b, b ∈ [(w.heap.size + 2, #[.bool false, .slice none 0 0, .slice none 0 0, .bool false, .slice none 0 0, .slice none 0 0], 36), (w.heap.size + 1, arr6 y1 y2, 36), (w.heap.size, arr6 x1 x2, 36)] → b.1 ≠ Br2_14 := by
      intro b hb
      simp only [List.mem_cons, List.not_mem_nil, or_false] at hb
      rcases hb with rfl | rfl | rfl
      · have := hlt _ (List.mem_iff_getElem?.2 ⟨0, rfl⟩); dsimp only at this ⊢; omega
      · have := hlt _ (List.mem_iff_getElem?.2 ⟨1, rfl⟩); dsimp only at this ⊢; omega
      · have := hlt _ (List.mem_iff_getElem?.2 ⟨2, rfl⟩); dsimp only at this ⊢; omega
    replace HS := Lib.hid (HS.out.addBox k14 hge14 (by rfl) hne14)
    have hge15 : w.heap.size ≤ Br2_15 := Nat.le_trans HSW.out g15
    have hne15 : ∀ b, b ∈ [(Br2_14, #[.bool false, .slice none 0 0, .slice none 0 0], 34), (w.heap.size + 2, #[.bool false, .slice none 0 0, .slice none 0 0, .bool false, .slice none 0 0, .slice none 0 0], 36), (w.heap.size + 1, arr6 y1 y2, 36), (w.heap.size, arr6 x1 x2, 36)] → b.1 ≠ Br2_15 := by
      intro b hb
      simp only [List.mem_cons, List.not_mem_nil, or_false] at hb
      rcases hb with rfl | rfl | rfl | rfl
      · exact hd14_15
      · have := hlt _ (List.mem_iff_getElem?.2 ⟨0, rfl⟩); dsimp only at this ⊢; omega
      · have := hlt _ (List.mem_iff_getElem?.2 ⟨1, rfl⟩); dsimp only at this ⊢; omega
      · have := hlt _ (List.mem_iff_getElem?.2 ⟨2, rfl⟩); dsimp only at this ⊢; omega
    replace HS := Lib.hid (HS.out.addBox k15 hge15 (by rfl) hne15)
    simp only [fillA, fillT, List.foldl_cons, List.foldl_nil, Act.put, nb4, nb5, nb6, e4, e5, e6, e11, e12, e13, e14, e15]
    clear hp hd hb hlt e4 e5 e6 e11 e12 e13 e14 e15
    refine rdA (i := 16) rfl (fun K hK => ?_)
    have b3e := (HS.out.at 1 _ _ _ rfl)
    have b3c0 := blk_cell b3e 0 (.bool false) rfl
    have b3c1 := blk_cell b3e 1 (.slice none 0 0) rfl
    have b3c2 := blk_cell b3e 2 (.slice none 0 0) rfl
    have b3f0 := blk_frozen b3e 0
    have b3f1 := blk_frozen b3e 1
    have b3f2 := blk_frozen b3e 2
    have b3l := blk_lt b3e
    clear b3e
    go_simp
    refine hK.out _ _ ((((((HS.out).st_R 1 r30 z19bq6 rfl)).erase 1)).erase 0) (fun hh => ?_)
    clear hK K b3c0 b3c1 b3c2 b3f0 b3f1 b3f2 b3l
    try simp only [nb1, nb2, nb3, Act.put, nb4, nb5, nb6]
    generalize hW25 : (((wr2).setCell _ _).setCell _ _).setCell _ _ = W25 at *
    replace HS : Hid (Sx w W25 [(Br2_15, #[.bool false, .slice none 0 0, .slice none 0 0], 34), (Br2_14, z19bq6.arr, 34), (w.heap.size + 2, #[.bool false, .slice none 0 0, .slice none 0 0, .bool false, .slice none 0 0, .slice none 0 0], 36), (w.heap.size + 1, arr6 y1 y2, 36), (w.heap.size, arr6 x1 x2, 36)] [(true, z20aq13.val, (loQ b d)), (true, z20b.val, (hiQ b d)), (true, z20a.val, (loQ b d)), (true, z19bq6.val, (hiQ a c)), (true, z19b.val, (hiQ a c)), (true, z19a.val, (loQ a c)), (true, y2.val, d), (true, y1.val, c), (true, x2.val, b), (true, x1.val, a)]) := by subst hW25; exact (HS.out).st_R 1 r30 z19bq6 rfl
    clear hW25
    refine rdA (i := 17) rfl (fun K hK => ?_)
    have b4e := (HS.out.at 0 _ _ _ rfl)
    have b4c0 := blk_cell b4e 0 (.bool false) rfl
    have b4c1 := blk_cell b4e 1 (.slice none 0 0) rfl
    have b4c2 := blk_cell b4e 2 (.slice none 0 0) rfl
    have b4f0 := blk_frozen b4e 0
    have b4f1 := blk_frozen b4e 1
    have b4f2 := blk_frozen b4e 2
    have b4l := blk_lt b4e
    clear b4e
    go_simp
    refine hK.out _ _ ((((((HS.out).st_R 0 r30 z20aq13 rfl)).erase 1)).erase 0) (fun hh => ?_)
    clear hK K b4c0 b4c1 b4c2 b4f0 b4f1 b4f2 b4l
    try simp only [nb1, nb2, nb3, Act.put, nb4, nb5, nb6]
    generalize hW26 : (((W25).setCell _ _).setCell _ _).setCell _ _ = W26 at *
    replace HS : Hid (Sx w W26 [(Br2_15, z20aq13.arr, 34), (Br2_14, z19bq6.arr, 34), (w.heap.size + 2, #[.bool false, .slice none 0 0, .slice none 0 0, .bool false, .slice none 0 0, .slice none 0 0], 36), (w.heap.size + 1, arr6 y1 y2, 36), (w.heap.size, arr6 x1 x2, 36)] [(true, z20aq13.val, (loQ b d)), (true, z20b.val, (hiQ b d)), (true, z20a.val, (loQ b d)), (true, z19bq6.val, (hiQ a c)), (true, z19b.val, (hiQ a c)), (true, z19a.val, (loQ a c)), (true, y2.val, d), (true, y1.val, c), (true, x2.val, b), (true, x1.val, a)]) := by subst hW26; exact (HS.out).st_R 0 r30 z20aq13 rfl
    clear hW26
    refine wpAnyH_done (by kernel_rfl) ?_ _
    obtain ⟨b3c0, b3c1, b3c2, b3f0, b3f1, b3f2⟩ := fac3 (x := z19bq6) (HS.out.at 1 _ _ _ rfl)
    have b3l := blk_lt (HS.out.at 1 _ _ _ rfl)
    obtain ⟨b4c0, b4c1, b4c2, b4f0, b4f1, b4f2⟩ := fac3 (x := z20aq13) (HS.out.at 0 _ _ _ rfl)
    have b4l := blk_lt (HS.out.at 0 _ _ _ rfl)
    have bn3_4 := HS.out.ne 1 0 rfl rfl (by decide)
    go_wp2_with fail
    clear b3c0 b3c1 b3c2 b3f0 b3f1 b3f2 b3l b4c0 b4c1 b4c2 b4f0 b4f1 b4f2 b4l bn3_4
    obtain ⟨c27, hc27⟩ : ∃ κ, κ = cmpR (hiQ a c) (loQ b d) := ⟨_, rfl⟩
    have HC27 := Lib.hid hc27
    clear hc27
    refine (cmpRat_any (hiQ a c) (loQ b d) _ _ _ (HS.out.p 3 _ _ rfl) (HS.out.p 0 _ _ rfl) (szR_mono (hiN_sz Sa.out Sc.out) (by omega)) (szR_mono (loN_sz Sb.out Sd.out) (by omega))).mono ?_
    rw [← HC27.out]
    rintro e w27 ⟨rfl, hb27⟩
    replace HS := Lib.hid (HS.out.below hb27)
    clear hb27
    by_cases t28p : c27 > 0
    ·
      have t28 : decide (c27 > 0) = true := decide_eq_true t28p
      have T28 := Lib.hid t28p
      clear t28p
      have b2e := (HS.out.at 2 _ _ _ rfl)
      have b2c0 := blk_cell b2e 0 (.bool false) rfl
      have b2c1 := blk_cell b2e 1 (.slice none 0 0) rfl
      have b2c2 := blk_cell b2e 2 (.slice none 0 0) rfl
      have b2c3 := blk_cell b2e 3 (.bool false) rfl
      have b2c4 := blk_cell b2e 4 (.slice none 0 0) rfl
      have b2c5 := blk_cell b2e 5 (.slice none 0 0) rfl
      have b2f0 := blk_frozen b2e 0
      have b2f1 := blk_frozen b2e 1
      have b2f2 := blk_frozen b2e 2
      have b2f3 := blk_frozen b2e 3
      have b2f4 := blk_frozen b2e 4
      have b2f5 := blk_frozen b2e 5
      have b2l := blk_lt b2e
      clear b2e
      go_wp2_with fail
      clear b2c0 b2c1 b2c2 b2c3 b2c4 b2c5 b2f0 b2f1 b2f2 b2f3 b2f4 b2f5 b2l
      generalize hW29 : ((((((w27).setCell _ _).setCell _ _).setCell _ _).setCell _ _).setCell _ _).setCell _ _ = W29 at *
      replace HS : Hid (Sx w W29 [(Br2_15, z20aq13.arr, 34), (Br2_14, z19bq6.arr, 34), (w.heap.size + 2, #[.bool false, .slice none 0 0, .slice none 0 0, .bool false, .slice none 0 0, .slice none 0 0], 36), (w.heap.size + 1, arr6 y1 y2, 36), (w.heap.size, arr6 x1 x2, 36)] [(true, z20aq13.val, (loQ b d)), (true, z20b.val, (hiQ b d)), (true, z20a.val, (loQ b d)), (true, z19bq6.val, (hiQ a c)), (true, z19b.val, (hiQ a c)), (true, z19a.val, (loQ a c)), (true, y2.val, d), (true, y1.val, c), (true, x2.val, b), (true, x1.val, a)]) := by subst hW29; exact (HS.out).st_RR 2 r30 r30 r30 r30 rfl
      clear hW29
      have HR : Hid (meetE a b c d = (0, 0, 5)) := by show _ = _; unfold meetE; rw [← HC27.out, if_pos (by have := T28.out; omega)]
      have b2e := (HS.out.at 2 _ _ _ rfl)
      have b2c0 := blk_cell b2e 0 (.bool false) rfl
      have b2c1 := blk_cell b2e 1 (.slice none 0 0) rfl
      have b2c2 := blk_cell b2e 2 (.slice none 0 0) rfl
      have b2c3 := blk_cell b2e 3 (.bool false) rfl
      have b2c4 := blk_cell b2e 4 (.slice none 0 0) rfl
      have b2c5 := blk_cell b2e 5 (.slice none 0 0) rfl
      clear b2e
      refine bodyPost_ret (v := .tuple #[.agg #[.bool false, .slice none 0 0, .slice none 0 0, .bool false, .slice none 0 0, .slice none 0 0], .int .i64 5]) (by simp [results, Tryz.results70, go_sem, b2c0, b2c1, b2c2, b2c3, b2c4, b2c5]) rfl (by rw [HR.out]; exact ⟨_, rfl, (rngP (isRat_r30 _) (isRat_r30 _)), HS.out.bel⟩)
    ·
      have t28 : decide (c27 > 0) = false := decide_eq_false t28p
      have T28 := Lib.hid t28p
      clear t28p
      obtain ⟨b3c0, b3c1, b3c2, b3f0, b3f1, b3f2⟩ := fac3 (x := z19bq6) (HS.out.at 1 _ _ _ rfl)
      have b3l := blk_lt (HS.out.at 1 _ _ _ rfl)
      obtain ⟨b4c0, b4c1, b4c2, b4f0, b4f1, b4f2⟩ := fac3 (x := z20aq13) (HS.out.at 0 _ _ _ rfl)
      have b4l := blk_lt (HS.out.at 0 _ _ _ rfl)
      have b2e := (HS.out.at 2 _ _ _ rfl)
      have b2c0 := blk_cell b2e 0 (.bool false) rfl
      have b2c1 := blk_cell b2e 1 (.slice none 0 0) rfl
      have b2c2 := blk_cell b2e 2 (.slice none 0 0) rfl
      have b2c3 := blk_cell b2e 3 (.bool false) rfl
      have b2c4 := blk_cell b2e 4 (.slice none 0 0) rfl
      have b2c5 := blk_cell b2e 5 (.slice none 0 0) rfl
      have b2f0 := blk_frozen b2e 0
      have b2f1 := blk_frozen b2e 1
      have b2f2 := blk_frozen b2e 2
      have b2f3 := blk_frozen b2e 3
      have b2f4 := blk_frozen b2e 4
      have b2f5 := blk_frozen b2e 5
      have b2l := blk_lt b2e
      clear b2e
      have bn3_4 := HS.out.ne 1 0 rfl rfl (by decide)
      have bn3_2 := HS.out.ne 1 2 rfl rfl (by decide)
      have bn4_2 := HS.out.ne 0 2 rfl rfl (by decide)
      go_wp2_with fail
      clear b3c0 b3c1 b3c2 b3f0 b3f1 b3f2 b3l b4c0 b4c1 b4c2 b4f0 b4f1 b4f2 b4l b2c0 b2c1 b2c2 b2c3 b2c4 b2c5 b2f0 b2f1 b2f2 b2f3 b2f4 b2f5 b2l bn3_4 bn3_2 bn4_2
      generalize hW30 : ((((((w27).setCell _ _).setCell _ _).setCell _ _).setCell _ _).setCell _ _).setCell _ _ = W30 at *
      replace HS : Hid (Sx w W30 [(Br2_15, z20aq13.arr, 34), (Br2_14, z19bq6.arr, 34), (w.heap.size + 2, arr6 z19bq6 z20aq13, 36), (w.heap.size + 1, arr6 y1 y2, 36), (w.heap.size, arr6 x1 x2, 36)] [(true, z20aq13.val, (loQ b d)), (true, z20b.val, (hiQ b d)), (true, z20a.val, (loQ b d)), (true, z19bq6.val, (hiQ a c)), (true, z19b.val, (hiQ a c)), (true, z19a.val, (loQ a c)), (true, y2.val, d), (true, y1.val, c), (true, x2.val, b), (true, x1.val, a)]) := by subst hW30; exact (HS.out).st_RR 2 r30 r30 z19bq6 z20aq13 rfl
      clear hW30
      have HR : Hid (meetE a b c d = ((hiQ a c), (loQ b d), 0)) := by show _ = _; unfold meetE; rw [← HC27.out, if_neg (by have := T28.out; omega)]
      obtain ⟨b2c0, b2c1, b2c2, b2c3, b2c4, b2c5, _⟩ := fac6 (x := z19bq6) (y := z20aq13) (HS.out.at 2 _ _ _ rfl)
      refine bodyPost_ret (v := .tuple #[.agg #[.bool z19bq6.b, .slice z19bq6.a z19bq6.n z19bq6.c, .slice z19bq6.d z19bq6.m z19bq6.e, .bool z20aq13.b, .slice z20aq13.a z20aq13.n z20aq13.c, .slice z20aq13.d z20aq13.m z20aq13.e], .int .i64 0]) (by simp [results, Tryz.results70, go_sem, b2c0, b2c1, b2c2, b2c3, b2c4, b2c5]) rfl (by rw [HR.out]; exact ⟨_, rfl, (rngP (HS.out.p 3 _ _ rfl) (HS.out.p 0 _ _ rfl)), HS.out.bel⟩)
set_option maxRecDepth 100000 in
set_option maxHeartbeats 4000000 in
theorem qmeet_any (a b c d : Rat) (vx vy : Value) (w : World) (hx : IsRngQ w vx a b) (hy : IsRngQ w vy c d) (sa : szR a 1000000000) (sb : szR b 1000000000) (sc : szR c 1000000000) (sd : szR d 1000000000) :
    Calls Tryz.prog 76 #[vx, vy] w (RetMtQ (meetE a b c d) w) := by
  obtain ⟨x1, x2, rfl, h1, h2⟩ := hx
  obtain ⟨y1, y2, rfl, h3, h4⟩ := hy
  have HS := Lib.hid (((((Sx.init w).addQ h1).addQ h2).addQ h3).addQ h4)
  have Sa := Lib.hid sa
  have Sb := Lib.hid sb
  have Sc := Lib.hid sc
  have Sd := Lib.hid sd
  clear h1 h2 h3 h4 sa sb sc sd
  go_enter Tryz.func76, Tryz.ntmps76
  go_wp2_with fail
  generalize hW1 : (((w).alloc (.cells _ _)).alloc (.cells _ _)).alloc (.cells _ _) = W1 at *
  replace HS : Hid (Sx w W1 [(w.heap.size + 2, #[.bool false, .slice none 0 0, .slice none 0 0, .bool false, .slice none 0 0, .slice none 0 0], 42), (w.heap.size + 1, arr6 y1 y2, 42), (w.heap.size, arr6 x1 x2, 42)] [(false, y2.val, d), (false, y1.val, c), (false, x2.val, b), (false, x1.val, a)]) := by subst hW1; exact (((HS.out).alloc (B := w.heap.size) rfl (by rfl)).alloc (B := w.heap.size + 1) (by simp) (by rfl)).alloc (B := w.heap.size + 2) (by simp) (by rfl)
  clear hW1
  refine wp_region_held_drew (S := (fun w' => Sx w w' [(w.heap.size + 2, #[.bool false, .slice none 0 0, .slice none 0 0, .bool false, .slice none 0 0, .slice none 0 0], 42), (w.heap.size + 1, arr6 y1 y2, 42), (w.heap.size, arr6 x1 x2, 42)] [])) (by kernel_rfl) ((HS.out.drew).bare) (fun hh => ?_)
  replace HS := Lib.hid HS.out.drew
  have HSW := Lib.hid HS.out.bel.size
  refine tkA (i := 0) (v := ?vpr2_0_k4) rfl (Or.inl ⟨by first | rfl | kernel_rfl, ?hypr2_0_k4⟩) (by assumption) ?repr2_0_k4
  case hypr2_0_k4 => (intro u hSu; (first | (go_simp; done) | (go_simp; with_reducible rfl)))
  try simp only [nb1, nb2, nb3, Act.put, nb4, nb5, nb6]
  refine tkA (i := 1) (v := ?vpr2_1_k6) rfl (Or.inl ⟨by first | rfl | kernel_rfl, ?hypr2_1_k6⟩) (by assumption) ?repr2_1_k6
  case hypr2_1_k6 => (intro u hSu; (try dsimp only at hSu); obtain ⟨qb0c0, qb0c1, qb0c2, qb0c3, qb0c4, qb0c5, _⟩ := fac6 (x := x1) (y := x2) (hSu.at 2 _ _ _ rfl); clear hSu; (first | (go_simp; done) | (go_simp; with_reducible rfl)))
  try simp only [nb1, nb2, nb3, Act.put, nb4, nb5, nb6]
  refine tkA (i := 2) (v := ?vpr2_2_k8) rfl (Or.inl ⟨by first | rfl | kernel_rfl, ?hypr2_2_k8⟩) (by assumption) ?repr2_2_k8
  case hypr2_2_k8 => (intro u hSu; (first | (go_simp; done) | (go_simp; with_reducible rfl)))
  try simp only [nb1, nb2, nb3, Act.put, nb4, nb5, nb6]
  refine tkA (i := 3) (v := ?vpr2_3_k10) rfl (Or.inl ⟨by first | rfl | kernel_rfl, ?hypr2_3_k10⟩) (by assumption) ?repr2_3_k10
  case hypr2_3_k10 => (intro u hSu; (try dsimp only at hSu); obtain ⟨qb1c0, qb1c1, qb1c2, qb1c3, qb1c4, qb1c5, _⟩ := fac6 (x := y1) (y := y2) (hSu.at 1 _ _ _ rfl); clear hSu; (first | (go_simp; done) | (go_simp; with_reducible rfl)))
  try simp only [nb1, nb2, nb3, Act.put, nb4, nb5, nb6]
  refine tkA (i := 5) (v := ?vpr2_5_k12) rfl (Or.inl ⟨by first | rfl | kernel_rfl, ?hypr2_5_k12⟩) (by assumption) ?repr2_5_k12
  case hypr2_5_k12 => (intro u hSu; (first | (go_simp; done) | (go_simp; with_reducible rfl)))
  try simp only [nb1, nb2, nb3, Act.put, nb4, nb5, nb6]
  refine tkA (i := 6) (v := ?vpr2_6_k14) rfl (Or.inl ⟨by first | rfl | kernel_rfl, ?hypr2_6_k14⟩) (by assumption) ?repr2_6_k14
  case hypr2_6_k14 => (intro u hSu; (try dsimp only at hSu); obtain ⟨qb0c0, qb0c1, qb0c2, qb0c3, qb0c4, qb0c5, _⟩ := fac6 (x := x1) (y := x2) (hSu.at 2 _ _ _ rfl); clear hSu; (first | (go_simp; done) | (go_simp; with_reducible rfl)))
  try simp only [nb1, nb2, nb3, Act.put, nb4, nb5, nb6]
  refine tkA (i := 7) (v := ?vpr2_7_k16) rfl (Or.inl ⟨by first | rfl | kernel_rfl, ?hypr2_7_k16⟩) (by assumption) ?repr2_7_k16
  case hypr2_7_k16 => (intro u hSu; (first | (go_simp; done) | (go_simp; with_reducible rfl)))
  try simp only [nb1, nb2, nb3, Act.put, nb4, nb5, nb6]
  refine tkA (i := 8) (v := ?vpr2_8_k18) rfl (Or.inl ⟨by first | rfl | kernel_rfl, ?hypr2_8_k18⟩) (by assumption) ?repr2_8_k18
  case hypr2_8_k18 => (intro u hSu; (try dsimp only at hSu); obtain ⟨qb1c0, qb1c1, qb1c2, qb1c3, qb1c4, qb1c5, _⟩ := fac6 (x := y1) (y := y2) (hSu.at 1 _ _ _ rfl); clear hSu; (first | (go_simp; done) | (go_simp; with_reducible rfl)))
  try simp only [nb1, nb2, nb3, Act.put, nb4, nb5, nb6]
  refine wpAnyH_modular [4, 9, 10, 11] [4, 9, 10, 11] [] [12, 17, 6, 7] #[true, true, true, true, true, true, true, true, true, true, true, true, false, false] 2 [(4, 12), (9, 17), (10, 6), (11, 7)] [(4, []), (9, [4]), (10, []), (11, [])] [10, 11] [(4, fun v w => ∃ z19 : R3, v = z19.val ∧ Fr false w z19.val (hiQ a c)), (9, fun v w => ∃ z20 : R3, v = z20.val ∧ Fr false w z20.val (loQ b d)), (10, fun v w => ∃ Br2_10 : Nat, v = .pointer (some ⟨Br2_10, 0, none⟩) ∧ W1.drew.heap.size ≤ Br2_10 ∧ w.heap[Br2_10]? = some (.cells #[.bool false, .slice none 0 0, .slice none 0 0] 40 (0, 0))), (11, fun v w => ∃ Br2_11 : Nat, v = .pointer (some ⟨Br2_11, 0, none⟩) ∧ W1.drew.heap.size ≤ Br2_11 ∧ w.heap[Br2_11]? = some (.cells #[.bool false, .slice none 0 0, .slice none 0 0] 40 (0, 0)))]
    rfl (by kernel_rfl) (by decide) rfl ⟨(fun v w w' hb ⟨z0, e, h0⟩ => ⟨z0, e, Fr.below h0 hb⟩), ⟨(fun v w w' hb ⟨z0, e, h0⟩ => ⟨z0, e, Fr.below h0 hb⟩), ⟨(fun v w w' hb ⟨B, e, g, k⟩ => ⟨B, e, g, blk_keep k hb (blk_lt k)⟩), ⟨(fun v w w' hb ⟨B, e, g, k⟩ => ⟨B, e, g, blk_keep k hb (blk_lt k)⟩), trivial⟩⟩⟩⟩ ⟨fun v w ⟨B, e, g, k⟩ => ⟨B, e, blk_lt k⟩, ⟨fun v w ⟨B, e, g, k⟩ => ⟨B, e, blk_lt k⟩, trivial⟩⟩ (fun w' hb => Sx.below hh hb) ⟨?_, ?_, ?_, ?_, trivial⟩ trivial (by decide) ?_
  ·
    refine StepM.of rfl (fun f w' hb hp K hK => ?_)
    have HSB := HS
    replace HS := Lib.hid (HS.out.below hb)
    simp only [fillA, fillT, List.foldl_cons, List.foldl_nil, Act.put, nb4, nb5, nb6]
    have a21 := HS.out.q 3 _ _ rfl
    have a22 := HS.out.q 1 _ _ rfl
    go_simp
    go_wp2_with (go_at_call 130; (with_reducible refine (qmost_any a c _ _ _ a21 a22 (szQ_mono (szQ_of Sa.out) (by omega)) (szQ_mono (szQ_of Sc.out) (by omega))).mono ?_); rintro e w19 ⟨v19, rfl, hv19, hb19⟩; obtain ⟨z19, rfl⟩ := hv19.open3)
    exact hK.out _ _ (z19.val) (by simp only [fillA, fillT, List.foldl_cons, List.foldl_nil, Act.put, nb4, nb5, nb6, nb1, nb2, nb3]) ⟨z19, rfl, hv19⟩ (fun h => absurd h (by decide)) hb19
  ·
    refine StepM.of rfl (fun f w' hb hp K hK => ?_)
    have HSB := HS
    replace HS := Lib.hid (HS.out.below hb)
    simp only [fillA, fillT, List.foldl_cons, List.foldl_nil, Act.put, nb4, nb5, nb6]
    have a23 := HS.out.q 2 _ _ rfl
    have a24 := HS.out.q 0 _ _ rfl
    go_simp
    go_wp2_with (go_at_call 129; (with_reducible refine (qleast_any b d _ _ _ a23 a24 (szQ_mono (szQ_of Sb.out) (by omega)) (szQ_mono (szQ_of Sd.out) (by omega))).mono ?_); rintro e w20 ⟨v20, rfl, hv20, hb20⟩; obtain ⟨z20, rfl⟩ := hv20.open3)
    exact hK.out _ _ (z20.val) (by simp only [fillA, fillT, List.foldl_cons, List.foldl_nil, Act.put, nb4, nb5, nb6, nb1, nb2, nb3]) ⟨z20, rfl, hv20⟩ (fun h => absurd h (by decide)) hb20
  ·
    refine StepM.of rfl (fun f w' hb hp K hK => ?_)
    have HSB := HS
    replace HS := Lib.hid (HS.out.below hb)
    simp only [fillA, fillT, List.foldl_cons, List.foldl_nil, Act.put, nb4, nb5, nb6]
    go_simp
    exact hK.out _ _ (.pointer (some ⟨w'.heap.size, 0, none⟩)) (by simp only [fillA, fillT, List.foldl_cons, List.foldl_nil, Act.put, nb4, nb5, nb6, nb1, nb2, nb3]) ⟨_, rfl, hb.size, blk_new _ _ _⟩ (fun _ => rfl) (below1 w' _)
  ·
    refine StepM.of rfl (fun f w' hb hp K hK => ?_)
    have HSB := HS
    replace HS := Lib.hid (HS.out.below hb)
    simp only [fillA, fillT, List.foldl_cons, List.foldl_nil, Act.put, nb4, nb5, nb6]
    go_simp
    exact hK.out _ _ (.pointer (some ⟨w'.heap.size, 0, none⟩)) (by simp only [fillA, fillT, List.foldl_cons, List.foldl_nil, Act.put, nb4, nb5, nb6, nb1, nb2, nb3]) ⟨_, rfl, hb.size, blk_new _ _ _⟩ (fun _ => rfl) (below1 w' _)
  ·
    intro f wr2 hb hp hd
    obtain ⟨z19, e4, h4_0⟩ : ∃ z19 : R3, f 12 = z19.val ∧ Fr false wr2 z19.val (hiQ a c) := hp 4 (by decide)
    obtain ⟨z20, e9, h9_0⟩ : ∃ z20 : R3, f 17 = z20.val ∧ Fr false wr2 z20.val (loQ b d) := hp 9 (by decide)
    obtain ⟨Br2_10, e10, g10, k10⟩ : ∃ Br2_10 : Nat, f 6 = .pointer (some ⟨Br2_10, 0, none⟩) ∧ W1.drew.heap.size ≤ Br2_10 ∧ wr2.heap[Br2_10]? = some (.cells #[.bool false, .slice none 0 0, .slice none 0 0] 40 (0, 0)) := hp 10 (by decide)
    obtain ⟨Br2_11, e11, g11, k11⟩ : ∃ Br2_11 : Nat, f 7 = .pointer (some ⟨Br2_11, 0, none⟩) ∧ W1.drew.heap.size ≤ Br2_11 ∧ wr2.heap[Br2_11]? = some (.cells #[.bool false, .slice none 0 0, .slice none 0 0] 40 (0, 0)) := hp 11 (by decide)
    have hd10_11 : Br2_10 ≠ Br2_11 := fun h => hd 10 11 (by decide) (by decide) (by decide) (by decide) (by decide) (by show f 6 = f 7; rw [e10, e11, h])
    replace hh := Sx.below hh hb
    have hlt := HS.out.lt
    replace HS := Lib.hid (HS.out.below hb)
    replace HS := Lib.hid (HS.out.addQ h4_0)
    replace HS := Lib.hid (HS.out.addQ h9_0)
    have hge10 : w.heap.size ≤ Br2_10 := Nat.le_trans HSW.out g10
    have hne10 : ∀ b, b ∈ [(w.heap.size + 2, #[.bool false, .slice none 0 0, .slice none 0 0, .bool false, .slice none 0 0, .slice none 0 0], 42), (w.heap.size + 1, arr6 y1 y2, 42), (w.heap.size, arr6 x1 x2, 42)] → b.1 ≠ Br2_10 := by
      intro b hb
      simp only [List.mem_cons, List.not_mem_nil, or_false] at hb
      rcases hb with rfl | rfl | rfl
      · have := hlt _ (List.mem_iff_getElem?.2 ⟨0, rfl⟩); dsimp only at this ⊢; omega
      · have := hlt _ (List.mem_iff_getElem?.2 ⟨1, rfl⟩); dsimp only at this ⊢; omega
      · have := hlt _ (List.mem_iff_getElem?.2 ⟨2, rfl⟩); dsimp only at this ⊢; omega
    replace HS := Lib.hid (HS.out.addBox k10 hge10 (by rfl) hne10)
    have hge11 : w.heap.size ≤ Br2_11 := Nat.le_trans HSW.out g11
    have hne11 : ∀ b, b ∈ [(Br2_10, #[.bool false, .slice none 0 0, .slice none 0 0], 40), (w.heap.size + 2, #[.bool false, .slice none 0 0, .slice none 0 0, .bool false, .slice none 0 0, .slice none 0 0], 42), (w.heap.size + 1, arr6 y1 y2, 42), (w.heap.size, arr6 x1 x2, 42)] → b.1 ≠ Br2_11 := by
      intro b hb
      simp only [List.mem_cons, List.not_mem_nil, or_false] at hb
      rcases hb with rfl | rfl | rfl | rfl
      · exact hd10_11
      · have := hlt _ (List.mem_iff_getElem?.2 ⟨0, rfl⟩); dsimp only at this ⊢; omega
      · have := hlt _ (List.mem_iff_getElem?.2 ⟨1, rfl⟩); dsimp only at this ⊢; omega
      · have := hlt _ (List.mem_iff_getElem?.2 ⟨2, rfl⟩); dsimp only at this ⊢; omega
    replace HS := Lib.hid (HS.out.addBox k11 hge11 (by rfl) hne11)
    simp only [fillA, fillT, List.foldl_cons, List.foldl_nil, Act.put, nb4, nb5, nb6, e4, e9, e10, e11]
    clear hp hd hb hlt e4 e9 e10 e11
    refine rdA (i := 12) rfl (fun K hK => ?_)
    have b3e := (HS.out.at 1 _ _ _ rfl)
    have b3c0 := blk_cell b3e 0 (.bool false) rfl
    have b3c1 := blk_cell b3e 1 (.slice none 0 0) rfl
    have b3c2 := blk_cell b3e 2 (.slice none 0 0) rfl
    have b3f0 := blk_frozen b3e 0
    have b3f1 := blk_frozen b3e 1
    have b3f2 := blk_frozen b3e 2
    have b3l := blk_lt b3e
    clear b3e
    go_simp
    refine hK.out _ _ ((((((HS.out).st_R 1 r30 z19 rfl)).erase 1)).erase 0) (fun hh => ?_)
    clear hK K b3c0 b3c1 b3c2 b3f0 b3f1 b3f2 b3l
    try simp only [nb1, nb2, nb3, Act.put, nb4, nb5, nb6]
    generalize hW25 : (((wr2).setCell _ _).setCell _ _).setCell _ _ = W25 at *
    replace HS : Hid (Sx w W25 [(Br2_11, #[.bool false, .slice none 0 0, .slice none 0 0], 40), (Br2_10, z19.arr, 40), (w.heap.size + 2, #[.bool false, .slice none 0 0, .slice none 0 0, .bool false, .slice none 0 0, .slice none 0 0], 42), (w.heap.size + 1, arr6 y1 y2, 42), (w.heap.size, arr6 x1 x2, 42)] [(false, z20.val, (loQ b d)), (false, z19.val, (hiQ a c)), (false, y2.val, d), (false, y1.val, c), (false, x2.val, b), (false, x1.val, a)]) := by subst hW25; exact (HS.out).st_R 1 r30 z19 rfl
    clear hW25
    refine rdA (i := 13) rfl (fun K hK => ?_)
    have b4e := (HS.out.at 0 _ _ _ rfl)
    have b4c0 := blk_cell b4e 0 (.bool false) rfl
    have b4c1 := blk_cell b4e 1 (.slice none 0 0) rfl
    have b4c2 := blk_cell b4e 2 (.slice none 0 0) rfl
    have b4f0 := blk_frozen b4e 0
    have b4f1 := blk_frozen b4e 1
    have b4f2 := blk_frozen b4e 2
    have b4l := blk_lt b4e
    clear b4e
    go_simp
    refine hK.out _ _ ((((((HS.out).st_R 0 r30 z20 rfl)).erase 1)).erase 0) (fun hh => ?_)
    clear hK K b4c0 b4c1 b4c2 b4f0 b4f1 b4f2 b4l
    try simp only [nb1, nb2, nb3, Act.put, nb4, nb5, nb6]
    generalize hW26 : (((W25).setCell _ _).setCell _ _).setCell _ _ = W26 at *
    replace HS : Hid (Sx w W26 [(Br2_11, z20.arr, 40), (Br2_10, z19.arr, 40), (w.heap.size + 2, #[.bool false, .slice none 0 0, .slice none 0 0, .bool false, .slice none 0 0, .slice none 0 0], 42), (w.heap.size + 1, arr6 y1 y2, 42), (w.heap.size, arr6 x1 x2, 42)] [(false, z20.val, (loQ b d)), (false, z19.val, (hiQ a c)), (false, y2.val, d), (false, y1.val, c), (false, x2.val, b), (false, x1.val, a)]) := by subst hW26; exact (HS.out).st_R 0 r30 z20 rfl
    clear hW26
    refine wpAnyH_done (by kernel_rfl) ?_ _
    obtain ⟨b3c0, b3c1, b3c2, b3f0, b3f1, b3f2⟩ := fac3 (x := z19) (HS.out.at 1 _ _ _ rfl)
    have b3l := blk_lt (HS.out.at 1 _ _ _ rfl)
    obtain ⟨b4c0, b4c1, b4c2, b4f0, b4f1, b4f2⟩ := fac3 (x := z20) (HS.out.at 0 _ _ _ rfl)
    have b4l := blk_lt (HS.out.at 0 _ _ _ rfl)
    have bn3_4 := HS.out.ne 1 0 rfl rfl (by decide)
    go_wp2_with fail
    clear b3c0 b3c1 b3c2 b3f0 b3f1 b3f2 b3l b4c0 b4c1 b4c2 b4f0 b4f1 b4f2 b4l bn3_4
    obtain ⟨c27, hc27⟩ : ∃ κ, κ = cmpR (hiQ a c) (loQ b d) := ⟨_, rfl⟩
    have HC27 := Lib.hid hc27
    clear hc27
    refine (qcmp_any (hiQ a c) (loQ b d) _ _ _ (HS.out.q 1 _ _ rfl) (HS.out.q 0 _ _ rfl) (szQ_mono (szQ_of (hiN_sz Sa.out Sc.out)) (by omega)) (szQ_mono (szQ_of (loN_sz Sb.out Sd.out)) (by omega))).mono ?_
    rw [← HC27.out]
    rintro e w27 ⟨rfl, hb27⟩
    replace HS := Lib.hid (HS.out.below hb27)
    clear hb27
    by_cases t28p : c27 > 0
    ·
      have t28 : decide (c27 > 0) = true := decide_eq_true t28p
      have T28 := Lib.hid t28p
      clear t28p
      go_wp2_with fail
      refine (qint0_any _).mono ?_
      rintro e w29 ⟨v29, rfl, hv29, hb29⟩
      obtain ⟨z29, rfl⟩ := hv29.open3
      replace HS := Lib.hid (HS.out.below hb29)
      clear hb29
      replace HS := Lib.hid (HS.out.addQ hv29)
      clear hv29
      go_wp2_with fail
      refine (qonly_any 0 _ _ (HS.out.q 0 _ _ rfl)).mono ?_
      rintro e w30 ⟨v30, rfl, ⟨z30a, z30b, rfl, hv30, hw30⟩, hb30⟩
      replace HS := Lib.hid (HS.out.below hb30)
      clear hb30
      replace HS := Lib.hid (HS.out.addQ hv30)
      clear hv30
      replace HS := Lib.hid (HS.out.addQ hw30)
      clear hw30
      have b2e := (HS.out.at 2 _ _ _ rfl)
      have b2c0 := blk_cell b2e 0 (.bool false) rfl
      have b2c1 := blk_cell b2e 1 (.slice none 0 0) rfl
      have b2c2 := blk_cell b2e 2 (.slice none 0 0) rfl
      have b2c3 := blk_cell b2e 3 (.bool false) rfl
      have b2c4 := blk_cell b2e 4 (.slice none 0 0) rfl
      have b2c5 := blk_cell b2e 5 (.slice none 0 0) rfl
      have b2f0 := blk_frozen b2e 0
      have b2f1 := blk_frozen b2e 1
      have b2f2 := blk_frozen b2e 2
      have b2f3 := blk_frozen b2e 3
      have b2f4 := blk_frozen b2e 4
      have b2f5 := blk_frozen b2e 5
      have b2l := blk_lt b2e
      clear b2e
      go_wp2_with fail
      clear b2c0 b2c1 b2c2 b2c3 b2c4 b2c5 b2f0 b2f1 b2f2 b2f3 b2f4 b2f5 b2l
      generalize hW31 : ((((((w30).setCell _ _).setCell _ _).setCell _ _).setCell _ _).setCell _ _).setCell _ _ = W31 at *
      replace HS : Hid (Sx w W31 [(Br2_11, z20.arr, 40), (Br2_10, z19.arr, 40), (w.heap.size + 2, arr6 z30a z30b, 42), (w.heap.size + 1, arr6 y1 y2, 42), (w.heap.size, arr6 x1 x2, 42)] [(false, z30b.val, 0), (false, z30a.val, 0), (false, z29.val, 0), (false, z20.val, (loQ b d)), (false, z19.val, (hiQ a c)), (false, y2.val, d), (false, y1.val, c), (false, x2.val, b), (false, x1.val, a)]) := by subst hW31; exact (HS.out).st_RR 2 r30 r30 z30a z30b rfl
      clear hW31
      have HR : Hid (meetE a b c d = (0, 0, 5)) := by show _ = _; unfold meetE; rw [← HC27.out, if_pos (by have := T28.out; omega)]
      obtain ⟨b2c0, b2c1, b2c2, b2c3, b2c4, b2c5, _⟩ := fac6 (x := z30a) (y := z30b) (HS.out.at 2 _ _ _ rfl)
      refine bodyPost_ret (v := .tuple #[.agg #[.bool z30a.b, .slice z30a.a z30a.n z30a.c, .slice z30a.d z30a.m z30a.e, .bool z30b.b, .slice z30b.a z30b.n z30b.c, .slice z30b.d z30b.m z30b.e], .int .i64 5]) (by simp [results, Tryz.results76, go_sem, b2c0, b2c1, b2c2, b2c3, b2c4, b2c5]) rfl (by rw [HR.out]; exact ⟨_, rfl, (rngQ (HS.out.q 1 _ _ rfl) (HS.out.q 0 _ _ rfl)), HS.out.bel⟩)
    ·
      have t28 : decide (c27 > 0) = false := decide_eq_false t28p
      have T28 := Lib.hid t28p
      clear t28p
      obtain ⟨b3c0, b3c1, b3c2, b3f0, b3f1, b3f2⟩ := fac3 (x := z19) (HS.out.at 1 _ _ _ rfl)
      have b3l := blk_lt (HS.out.at 1 _ _ _ rfl)
      obtain ⟨b4c0, b4c1, b4c2, b4f0, b4f1, b4f2⟩ := fac3 (x := z20) (HS.out.at 0 _ _ _ rfl)
      have b4l := blk_lt (HS.out.at 0 _ _ _ rfl)
      have b2e := (HS.out.at 2 _ _ _ rfl)
      have b2c0 := blk_cell b2e 0 (.bool false) rfl
      have b2c1 := blk_cell b2e 1 (.slice none 0 0) rfl
      have b2c2 := blk_cell b2e 2 (.slice none 0 0) rfl
      have b2c3 := blk_cell b2e 3 (.bool false) rfl
      have b2c4 := blk_cell b2e 4 (.slice none 0 0) rfl
      have b2c5 := blk_cell b2e 5 (.slice none 0 0) rfl
      have b2f0 := blk_frozen b2e 0
      have b2f1 := blk_frozen b2e 1
      have b2f2 := blk_frozen b2e 2
      have b2f3 := blk_frozen b2e 3
      have b2f4 := blk_frozen b2e 4
      have b2f5 := blk_frozen b2e 5
      have b2l := blk_lt b2e
      clear b2e
      have bn3_4 := HS.out.ne 1 0 rfl rfl (by decide)
      have bn3_2 := HS.out.ne 1 2 rfl rfl (by decide)
      have bn4_2 := HS.out.ne 0 2 rfl rfl (by decide)
      go_wp2_with fail
      clear b3c0 b3c1 b3c2 b3f0 b3f1 b3f2 b3l b4c0 b4c1 b4c2 b4f0 b4f1 b4f2 b4l b2c0 b2c1 b2c2 b2c3 b2c4 b2c5 b2f0 b2f1 b2f2 b2f3 b2f4 b2f5 b2l bn3_4 bn3_2 bn4_2
      generalize hW32 : ((((((w27).setCell _ _).setCell _ _).setCell _ _).setCell _ _).setCell _ _).setCell _ _ = W32 at *
      replace HS : Hid (Sx w W32 [(Br2_11, z20.arr, 40), (Br2_10, z19.arr, 40), (w.heap.size + 2, arr6 z19 z20, 42), (w.heap.size + 1, arr6 y1 y2, 42), (w.heap.size, arr6 x1 x2, 42)] [(false, z20.val, (loQ b d)), (false, z19.val, (hiQ a c)), (false, y2.val, d), (false, y1.val, c), (false, x2.val, b), (false, x1.val, a)]) := by subst hW32; exact (HS.out).st_RR 2 r30 r30 z19 z20 rfl
      clear hW32
      have HR : Hid (meetE a b c d = ((hiQ a c), (loQ b d), 0)) := by show _ = _; unfold meetE; rw [← HC27.out, if_neg (by have := T28.out; omega)]
      obtain ⟨b2c0, b2c1, b2c2, b2c3, b2c4, b2c5, _⟩ := fac6 (x := z19) (y := z20) (HS.out.at 2 _ _ _ rfl)
      refine bodyPost_ret (v := .tuple #[.agg #[.bool z19.b, .slice z19.a z19.n z19.c, .slice z19.d z19.m z19.e, .bool z20.b, .slice z20.a z20.n z20.c, .slice z20.d z20.m z20.e], .int .i64 0]) (by simp [results, Tryz.results76, go_sem, b2c0, b2c1, b2c2, b2c3, b2c4, b2c5]) rfl (by rw [HR.out]; exact ⟨_, rfl, (rngQ (HS.out.q 1 _ _ rfl) (HS.out.q 0 _ _ rfl)), HS.out.bel⟩)
end Go.Proofs.YthdgeindjphklaaGreat

namespace Go.Proofs.YthdgeindjphklaaGreat
open Go.RowKit

/-- The cells xs, 3k by 3k, read as the records qs (of k fractions each). -/
def RowOf (p : Bool) (k : Nat) (w : World) (xs : List Value) (qs : List (List Rat)) : Prop :=
  xs.length = qs.length * (3 * k) ∧ ∀ i, i < qs.length → ∀ j, j < k → ∃ x : R3, xs[i * (3 * k) + j * 3]? = some (.bool x.b) ∧ xs[i * (3 * k) + j * 3 + 1]? = some (.slice x.a x.n x.c) ∧ xs[i * (3 * k) + j * 3 + 2]? = some (.slice x.d x.m x.e) ∧ Fr p w x.val ((qs.getD i []).getD j 0)
/-- A slice of records of k fractions. -/
def RecsOf (p : Bool) (k : Nat) (w : World) (v : Value) (qs : List (List Rat)) : Prop :=
  ∃ ao cap, v = .slice ao qs.length cap ∧ (0 < qs.length → ∃ b off, ao = some ⟨b, off, none⟩ ∧ b < w.heap.size ∧ ∀ i, i < qs.length → ∀ j, j < k →
    ∃ x : R3, w.cell? ⟨b, off + i * (3 * k) + j * 3, none⟩ = some (.bool x.b) ∧ w.cell? ⟨b, off + i * (3 * k) + j * 3 + 1, none⟩ = some (.slice x.a x.n x.c) ∧ w.cell? ⟨b, off + i * (3 * k) + j * 3 + 2, none⟩ = some (.slice x.d x.m x.e) ∧ Fr p w x.val ((qs.getD i []).getD j 0))
theorem RecsOf.below {p : Bool} {k : Nat} {w w' : World} {v : Value} {qs : List (List Rat)} (h : RecsOf p k w v qs) (hb : Below w.heap.size w w') : RecsOf p k w' v qs := by
  obtain ⟨ao, cap, rfl, h⟩ := h
  refine ⟨ao, cap, rfl, fun hl => ?_⟩
  obtain ⟨b, off, rfl, hlt, h⟩ := h hl
  have c : ∀ o v, w.cell? ⟨b, o, none⟩ = some v → w'.cell? ⟨b, o, none⟩ = some v := fun o v h => (hb.cell (p := ⟨b, o, none⟩) hlt).trans h
  refine ⟨b, off, rfl, Nat.lt_of_lt_of_le hlt hb.size, fun i hi j hj => ?_⟩
  obtain ⟨x, h1, h2, h3, h4⟩ := h i hi j hj
  exact ⟨x, c _ _ h1, c _ _ h2, c _ _ h3, h4.below hb⟩
theorem RowOf.mono {p : Bool} {k : Nat} {w w' : World} {xs : List Value} {qs : List (List Rat)} (h : RowOf p k w xs qs) (hf : ∀ v q, Fr p w v q → Fr p w' v q) : RowOf p k w' xs qs :=
  ⟨h.1, fun i hi j hj => by obtain ⟨x, h1, h2, h3, h4⟩ := h.2 i hi j hj; exact ⟨x, h1, h2, h3, hf _ _ h4⟩⟩
theorem RowOf.nil (p : Bool) (k : Nat) (w : World) : RowOf p k w [] [] := ⟨by simp, fun i hi => absurd hi (by simp)⟩
/-- The cells of fractions, one behind another. -/
def cellsR (l : List R3) : List Value := l.flatMap fun x => [.bool x.b, .slice x.a x.n x.c, .slice x.d x.m x.e]
theorem cellsR_length (l : List R3) : (cellsR l).length = l.length * 3 := by
  induction l with
  | nil => rfl
  | cons x l ih => simp [cellsR] at ih ⊢; omega
theorem cellsR_at (l : List R3) (j : Nat) (hj : j < l.length) : ∃ x, l[j]? = some x ∧ (cellsR l)[j * 3]? = some (.bool x.b) ∧ (cellsR l)[j * 3 + 1]? = some (.slice x.a x.n x.c) ∧ (cellsR l)[j * 3 + 2]? = some (.slice x.d x.m x.e) := by
  induction l generalizing j with
  | nil => simp at hj
  | cons y l ih =>
    match j with
    | 0 => exact ⟨y, rfl, rfl, rfl, rfl⟩
    | j + 1 =>
      obtain ⟨x, h0, h1, h2, h3⟩ := ih j (by simpa using hj)
      have e : ∀ m, (cellsR (y :: l))[(j + 1) * 3 + m]? = (cellsR l)[j * 3 + m]? := fun m => by
        show (_ :: _ :: _ :: cellsR l)[(j + 1) * 3 + m]? = _
        rw [show (j + 1) * 3 + m = (j * 3 + m) + 1 + 1 + 1 by omega, List.getElem?_cons_succ, List.getElem?_cons_succ, List.getElem?_cons_succ]
      exact ⟨x, by simpa using h0, by rw [← h1]; exact e 0, by rw [← h2]; exact e 1, by rw [← h3]; exact e 2⟩
theorem RowOf.snoc {p : Bool} {k : Nat} {w : World} {xs : List Value} {qs : List (List Rat)} (h : RowOf p k w xs qs) (l : List R3) (rs : List Rat) (hl : l.length = k) (hr : ∀ j x, l[j]? = some x → Fr p w x.val (rs.getD j 0)) :
    RowOf p k w (xs ++ cellsR l) (qs ++ [rs]) := by
  obtain ⟨h0, h1⟩ := h
  refine ⟨by rw [List.length_append, List.length_append, cellsR_length, h0, hl, List.length_singleton, Nat.add_mul]; omega, fun i hi j hj => ?_⟩
  rw [List.length_append, List.length_singleton] at hi
  rcases Nat.lt_or_ge i qs.length with hi1 | hi1
  · obtain ⟨x, g1, g2, g3, g4⟩ := h1 i hi1 j hj
    have hlt : i * (3 * k) + j * 3 + 2 < xs.length := by
      rw [h0]
      have : (i + 1) * (3 * k) ≤ qs.length * (3 * k) := Nat.mul_le_mul_right _ hi1
      rw [Nat.add_mul] at this
      omega
    have e2 : (qs ++ [rs]).getD i [] = qs.getD i [] := by simp [List.getD, List.getElem?_append_left hi1]
    rw [e2]
    exact ⟨x, by rw [List.getElem?_append_left (by omega)]; exact g1, by rw [List.getElem?_append_left (by omega)]; exact g2, by rw [List.getElem?_append_left (by omega)]; exact g3, g4⟩
  · obtain rfl : i = qs.length := by omega
    obtain ⟨x, g0, g1, g2, g3⟩ := cellsR_at l j (by omega)
    have e : ∀ m, (xs ++ cellsR l)[qs.length * (3 * k) + j * 3 + m]? = (cellsR l)[j * 3 + m]? := fun m => by
      rw [List.getElem?_append_right (by omega), h0]
      congr 1
      omega
    have e2 : (qs ++ [rs]).getD qs.length [] = rs := by simp [List.getD]
    rw [e2]
    exact ⟨x, by rw [← g1]; exact e 0, by rw [← g2]; exact e 1, by rw [← g3]; exact e 2, hr j x g0⟩
theorem RecsOf.ofRow {p : Bool} {k : Nat} {w : World} {base : Nat} {e : TypeId} {v : Value} {xs : List Value} {qs : List (List Rat)} (h : LRow w base e (3 * k) v qs.length xs) (ht : RowOf p k w xs qs) : RecsOf p k w v qs := by
  rcases Nat.eq_zero_or_pos qs.length with h0 | hp
  · rcases h.1.2 with ⟨rfl, _⟩ | ⟨g, cap, cur, rfl, _⟩
    · exact ⟨none, 0, by rw [h0], fun h => absurd h (by omega)⟩
    · exact ⟨_, _, rfl, fun h => absurd h (by omega)⟩
  · obtain ⟨g, cap, rfl⟩ := ownsRow_some h.1 hp
    have hc : ∀ j u, xs[j]? = some u → w.cell? ((⟨g, 0, none⟩ : Addr).add j) = some u := h.1.cells (g := g) rfl
    have hlt : g < w.heap.size := (h.lt rfl).1
    refine ⟨_, _, rfl, fun _ => ⟨g, 0, rfl, hlt, fun i hi j hj => ?_⟩⟩
    obtain ⟨x, h1, h2, h3, h4⟩ := ht.2 i hi j hj
    have ea : ∀ j, (⟨g, 0, none⟩ : Addr).add j = ⟨g, 0 + j, none⟩ := fun j => by unfold Addr.add; split <;> simp_all
    have ec : ∀ o u, xs[o]? = some u → w.cell? ⟨g, 0 + o, none⟩ = some u := fun o u h => by rw [← ea]; exact hc _ _ h
    refine ⟨x, ?_, ?_, ?_, h4⟩
    · have := ec _ _ h1; rw [show 0 + (i * (3 * k) + j * 3) = 0 + i * (3 * k) + j * 3 by omega] at this; exact this
    · have := ec _ _ h2; rw [show 0 + (i * (3 * k) + j * 3 + 1) = 0 + i * (3 * k) + j * 3 + 1 by omega] at this; exact this
    · have := ec _ _ h3; rw [show 0 + (i * (3 * k) + j * 3 + 2) = 0 + i * (3 * k) + j * 3 + 2 by omega] at this; exact this
/-- A growing row: element type, whose fractions, how many in a record, the slice, its cells, its records. -/
structure GrR where
  e : TypeId
  p : Bool
  k : Nat
  v : Value
  xs : List Value
  qs : List (List Rat)
structure GsR (w0 w : World) (bs : List Bx) (gs : List GrR) : Prop where
  row : ∀ (i : Nat) (g : GrR), gs[i]? = some g → LRow w w0.heap.size g.e (3 * g.k) g.v g.qs.length g.xs
  mean : ∀ (i : Nat) (g : GrR), gs[i]? = some g → RowOf g.p g.k w g.xs g.qs
  sep : ∀ b, b ∈ bs → ∀ g, g ∈ gs → g.v.ownBlock ≠ some b.1
  apart : ∀ (i j : Nat) (g h : GrR), gs[i]? = some g → gs[j]? = some h → i ≠ j → ∀ c, g.v.ownBlock = some c → h.v.ownBlock ≠ some c
theorem GsR.nil (w0 w : World) (bs : List Bx) : GsR w0 w bs [] := ⟨fun i g h => by simp at h, fun i g h => by simp at h, fun b hb g hg => by simp at hg, fun i j g h hi => by simp at hi⟩
theorem GsR.add {w0 w : World} {bs : List Bx} {gs : List GrR} (h : GsR w0 w bs gs) (e : TypeId) (p : Bool) (k : Nat) : GsR w0 w bs (⟨e, p, k, .slice none 0 0, [], []⟩ :: gs) := by
  refine ⟨fun i g hi => ?_, fun i g hi => ?_, fun b hb g hg => ?_, fun i j g g' hi hj hij c hc => ?_⟩
  · match i, hi with
    | 0, hi => simp at hi; subst hi; exact LRow.nil _ _ _ _
    | i + 1, hi => exact h.row i g (by simpa using hi)
  · match i, hi with
    | 0, hi => simp at hi; subst hi; exact RowOf.nil _ _ _
    | i + 1, hi => exact h.mean i g (by simpa using hi)
  · rcases List.mem_cons.1 hg with rfl | hg
    · exact fun hc => by cases hc
    · exact h.sep b hb g hg
  · match i, j, hi, hj with
    | 0, _, hi, _ => simp at hi; subst hi; cases hc
    | i + 1, 0, _, hj => simp at hj; subst hj; exact fun hc => by cases hc
    | i + 1, j + 1, hi, hj => exact h.apart i j g g' (by simpa using hi) (by simpa using hj) (by omega) c hc
theorem GsR.below {w0 w w' : World} {bs : List Bx} {gs : List GrR} (h : GsR w0 w bs gs) (hb : Below w.heap.size w w') : GsR w0 w' bs gs :=
  ⟨fun i g hi => (h.row i g hi).below hb, fun i g hi => (h.mean i g hi).mono fun _ _ hf => hf.below hb, h.sep, h.apart⟩
theorem GsR.alloc {w0 w : World} {bs : List Bx} {gs : List GrR} (h : GsR w0 w bs gs) {B T : Nat} {cs : Array Value} (hB : w.heap.size = B) : GsR w0 (w.alloc (.cells cs T)) ((B, cs, T) :: bs) gs := by
  have h' := h.below ((Below.refl w.heap.size w).alloc (Nat.le_refl _) (.cells cs T))
  refine ⟨h'.row, h'.mean, fun b hb g hg => ?_, h'.apart⟩
  rcases List.mem_cons.1 hb with rfl | hb
  · intro hc
    obtain ⟨i, hi⟩ := List.mem_iff_getElem?.1 hg
    have := ((h.row i g hi).lt hc).1
    dsimp only at this
    omega
  · exact h.sep b hb g hg
theorem GsR.box {w0 w : World} {bs : List Bx} {gs : List GrR} (h : GsR w0 w bs gs) {B T : Nat} {cs : Array Value} (hne : ∀ g, g ∈ gs → g.v.ownBlock ≠ some B) : GsR w0 w ((B, cs, T) :: bs) gs :=
  ⟨h.row, h.mean, fun b hb g hg => by rcases List.mem_cons.1 hb with rfl | hb; exact hne g hg; exact h.sep b hb g hg, h.apart⟩
theorem GsR.mono {w0 w : World} {bs bs' : List Bx} {gs : List GrR} (h : GsR w0 w bs gs) (hm : ∀ b, b ∈ bs' → ∃ b2, b2 ∈ bs ∧ b2.1 = b.1) : GsR w0 w bs' gs :=
  ⟨h.row, h.mean, fun b hb g hg => by obtain ⟨b2, h1, h2⟩ := hm b hb; rw [← h2]; exact h.sep b2 h1 g hg, h.apart⟩
theorem GsR.set {w0 w : World} {bs : List Bx} {gs : List GrR} {fs : List Fx} (h : GsR w0 w bs gs) (hs : Sx w0 w bs fs) (i : Nat) {B T : Nat} {cs : Array Value} (hi : bs[i]? = some (B, cs, T)) (j : Nat) (v : Value) : GsR w0 (w.setCell ⟨B, j, none⟩ v) bs gs := by
  obtain ⟨h1, h2, h3⟩ := hs.box i _ hi
  have hm : (B, cs, T) ∈ bs := List.mem_iff_getElem?.2 ⟨i, hi⟩
  exact ⟨fun k g hg => (h.row k g hg).keep fun c hc => heap_setCell_other w ⟨B, j, none⟩ c v (fun e => h.sep _ hm g (List.mem_iff_getElem?.2 ⟨k, hg⟩) (by rw [hc, e])), fun k g hg => (h.mean k g hg).mono fun _ _ hf => hf.set h1 h3 j v, h.sep, h.apart⟩
theorem GsR.set2 {w0 w : World} {bs : List Bx} {gs : List GrR} {fs : List Fx} (h : GsR w0 w bs gs) (hs : Sx w0 w bs fs) (i : Nat) {B T : Nat} {cs : Array Value} (hi : bs[i]? = some (B, cs, T)) (j : Nat) (v : Value) : GsR w0 (w.setCell ⟨B, j, none⟩ v) (bs.set i (B, cs.setIfInBounds j v, T)) gs :=
  (h.set hs i hi j v).mono fun b hb => by
    rcases List.mem_or_eq_of_mem_set hb with hb | rfl
    · exact ⟨b, hb, rfl⟩
    · exact ⟨(B, cs, T), List.mem_iff_getElem?.2 ⟨i, hi⟩, rfl⟩
theorem GsR.st_R {w0 w : World} {bs : List Bx} {gs : List GrR} {fs : List Fx} (h : GsR w0 w bs gs) (hs : Sx w0 w bs fs) (i : Nat) (o0 : R3) (n0 : R3) {B T : Nat} (hi : bs[i]? = some (B, #[.bool o0.b, .slice o0.a o0.n o0.c, .slice o0.d o0.m o0.e], T)) :
    GsR w0 ((((w).setCell ⟨B, 0, none⟩ (.bool n0.b)).setCell ⟨B, 1, none⟩ (.slice n0.a n0.n n0.c)).setCell ⟨B, 2, none⟩ (.slice n0.d n0.m n0.e)) (bs.set i (B, #[.bool n0.b, .slice n0.a n0.n n0.c, .slice n0.d n0.m n0.e], T)) gs := by
  have hl := (List.getElem?_eq_some_iff.1 hi).1
  have g := (((h).set2 (hs) i hi 0 (.bool n0.b)).set2 ((hs).set i hi 0 (v := .bool n0.b) rfl) i (by rw [List.getElem?_set, if_pos rfl, if_pos (by simpa using hl)]) 1 (.slice n0.a n0.n n0.c)).set2 (((hs).set i hi 0 (v := .bool n0.b) rfl).set i (by rw [List.getElem?_set, if_pos rfl, if_pos (by simpa using hl)]) 1 (v := .slice n0.a n0.n n0.c) rfl) i (by rw [List.getElem?_set, if_pos rfl, if_pos (by simpa using hl)]) 2 (.slice n0.d n0.m n0.e)
  simpa using g
theorem GsR.st_RR {w0 w : World} {bs : List Bx} {gs : List GrR} {fs : List Fx} (h : GsR w0 w bs gs) (hs : Sx w0 w bs fs) (i : Nat) (o0 : R3) (o1 : R3) (n0 : R3) (n1 : R3) {B T : Nat} (hi : bs[i]? = some (B, #[.bool o0.b, .slice o0.a o0.n o0.c, .slice o0.d o0.m o0.e, .bool o1.b, .slice o1.a o1.n o1.c, .slice o1.d o1.m o1.e], T)) :
    GsR w0 (((((((w).setCell ⟨B, 0, none⟩ (.bool n0.b)).setCell ⟨B, 1, none⟩ (.slice n0.a n0.n n0.c)).setCell ⟨B, 2, none⟩ (.slice n0.d n0.m n0.e)).setCell ⟨B, 3, none⟩ (.bool n1.b)).setCell ⟨B, 4, none⟩ (.slice n1.a n1.n n1.c)).setCell ⟨B, 5, none⟩ (.slice n1.d n1.m n1.e)) (bs.set i (B, #[.bool n0.b, .slice n0.a n0.n n0.c, .slice n0.d n0.m n0.e, .bool n1.b, .slice n1.a n1.n n1.c, .slice n1.d n1.m n1.e], T)) gs := by
  have hl := (List.getElem?_eq_some_iff.1 hi).1
  have g := ((((((h).set2 (hs) i hi 0 (.bool n0.b)).set2 ((hs).set i hi 0 (v := .bool n0.b) rfl) i (by rw [List.getElem?_set, if_pos rfl, if_pos (by simpa using hl)]) 1 (.slice n0.a n0.n n0.c)).set2 (((hs).set i hi 0 (v := .bool n0.b) rfl).set i (by rw [List.getElem?_set, if_pos rfl, if_pos (by simpa using hl)]) 1 (v := .slice n0.a n0.n n0.c) rfl) i (by rw [List.getElem?_set, if_pos rfl, if_pos (by simpa using hl)]) 2 (.slice n0.d n0.m n0.e)).set2 ((((hs).set i hi 0 (v := .bool n0.b) rfl).set i (by rw [List.getElem?_set, if_pos rfl, if_pos (by simpa using hl)]) 1 (v := .slice n0.a n0.n n0.c) rfl).set i (by rw [List.getElem?_set, if_pos rfl, if_pos (by simpa using hl)]) 2 (v := .slice n0.d n0.m n0.e) rfl) i (by rw [List.getElem?_set, if_pos rfl, if_pos (by simpa using hl)]) 3 (.bool n1.b)).set2 (((((hs).set i hi 0 (v := .bool n0.b) rfl).set i (by rw [List.getElem?_set, if_pos rfl, if_pos (by simpa using hl)]) 1 (v := .slice n0.a n0.n n0.c) rfl).set i (by rw [List.getElem?_set, if_pos rfl, if_pos (by simpa using hl)]) 2 (v := .slice n0.d n0.m n0.e) rfl).set i (by rw [List.getElem?_set, if_pos rfl, if_pos (by simpa using hl)]) 3 (v := .bool n1.b) rfl) i (by rw [List.getElem?_set, if_pos rfl, if_pos (by simpa using hl)]) 4 (.slice n1.a n1.n n1.c)).set2 ((((((hs).set i hi 0 (v := .bool n0.b) rfl).set i (by rw [List.getElem?_set, if_pos rfl, if_pos (by simpa using hl)]) 1 (v := .slice n0.a n0.n n0.c) rfl).set i (by rw [List.getElem?_set, if_pos rfl, if_pos (by simpa using hl)]) 2 (v := .slice n0.d n0.m n0.e) rfl).set i (by rw [List.getElem?_set, if_pos rfl, if_pos (by simpa using hl)]) 3 (v := .bool n1.b) rfl).set i (by rw [List.getElem?_set, if_pos rfl, if_pos (by simpa using hl)]) 4 (v := .slice n1.a n1.n n1.c) rfl) i (by rw [List.getElem?_set, if_pos rfl, if_pos (by simpa using hl)]) 5 (.slice n1.d n1.m n1.e)
  simpa using g
theorem Fr.grown {p : Bool} {w w' : World} {v : Value} {q : Rat} {row : Option Nat} (h : Fr p w v q) (hg : w.grownBy w' row) (hr : ∀ g, row = some g → NoDig w g) : Fr p w' v q := by
  cases p with
  | true => exact IsRat.grown3 (h : IsRat w v q) hg hr
  | false => exact IsR.grown3 (h : IsR w v q) hg hr
theorem cells_blk {w : World} {B T : Nat} {cs : Array Value} (h : w.heap[B]? = some (.cells cs T (0, 0))) : ∀ j u, cs.toList[j]? = some u → w.cell? ((⟨B, 0, none⟩ : Addr).add j) = some u := by
  intro j u hu
  have ea : (⟨B, 0, none⟩ : Addr).add j = ⟨B, 0 + j, none⟩ := by unfold Addr.add; split <;> simp_all
  rw [ea]
  exact blk_cell h (0 + j) u (by rw [Nat.zero_add]; simpa using hu)
/-- An append of one record. -/
theorem Sx.append {w0 w w' : World} {bs : List Bx} {fs : List Fx} {gs : List GrR} (h : Sx w0 w bs fs) (hg : GsR w0 w bs gs) (i : Nat) {g : GrR} (hi : gs[i]? = some g) (l : List R3) (rs : List Rat) {v' : Value} (hl : l.length = g.k) (hr : ∀ j x, l[j]? = some x → Fr g.p w x.val (rs.getD j 0))
    (hL : LRow w' w0.heap.size g.e (3 * g.k) v' (g.qs.length + 1) (g.xs ++ cellsR l)) (hgr : w.grownBy w' g.v.ownBlock) (hat : ∀ c, v'.ownBlock = some c → g.v.ownBlock = some c ∨ c = w.heap.size) :
    Sx w0 w' bs fs ∧ GsR w0 w' bs (gs.set i ⟨g.e, g.p, g.k, v', g.xs ++ cellsR l, g.qs ++ [rs]⟩) := by
  have hm : g ∈ gs := List.mem_iff_getElem?.2 ⟨i, hi⟩
  have hnd : ∀ c, g.v.ownBlock = some c → NoDig w c := (hg.row i g hi).2
  have hfr : ∀ p v q, Fr p w v q → Fr p w' v q := fun p v q hf => hf.grown hgr hnd
  have hblt : ∀ b, b ∈ bs → b.1 < w.heap.size := fun b hb => by
    obtain ⟨j, hj⟩ := List.mem_iff_getElem?.1 hb
    exact blk_lt (h.box j b hj).1
  refine ⟨⟨h.bel.grown hgr h.bel.size (ownBlock_base3 (hg.row i g hi).1), fun j b hj => ?_, h.nod, fun j f hf => hfr _ _ _ (h.fra j f hf)⟩, fun j g' hj => ?_, fun j g' hj => ?_, fun b hb g' hg' => ?_, fun j k g1 g2 hj hk hjk c hc => ?_⟩
  · obtain ⟨h1, h2⟩ := h.box j b hj
    exact ⟨(hgr.block b.1 (blk_lt h1) (fun e => hg.sep b (List.mem_iff_getElem?.2 ⟨j, hj⟩) g hm e.symm)).trans h1, h2⟩
  · rw [List.getElem?_set] at hj
    by_cases hij : i = j
    · subst hij
      rw [if_pos rfl] at hj
      split at hj
      · injection hj with hj
        subst hj
        show LRow w' w0.heap.size g.e (3 * g.k) v' (g.qs ++ [rs]).length (g.xs ++ cellsR l)
        rw [List.length_append]
        exact hL
      · exact absurd hj (by simp)
    · rw [if_neg hij] at hj
      exact (hg.row j g' hj).grown hgr fun c hc e => hg.apart j i g' g hj hi (fun e => hij e.symm) c hc e.symm
  · rw [List.getElem?_set] at hj
    by_cases hij : i = j
    · subst hij
      rw [if_pos rfl] at hj
      split at hj
      · injection hj with hj
        subst hj
        exact ((hg.mean i g hi).mono fun _ _ hf => hfr _ _ _ hf).snoc l rs hl (fun j x hx => hfr _ _ _ (hr j x hx))
      · exact absurd hj (by simp)
    · rw [if_neg hij] at hj
      exact (hg.mean j g' hj).mono fun _ _ hf => hfr _ _ _ hf
  · rcases List.mem_or_eq_of_mem_set hg' with hg' | rfl
    · exact hg.sep b hb g' hg'
    · intro hc
      rcases hat _ hc with h1 | h1
      · exact hg.sep b hb g hm h1
      · have := hblt b hb; omega
  · have hlt : ∀ (n : Nat) (g' : GrR), gs[n]? = some g' → ∀ c, g'.v.ownBlock = some c → c < w.heap.size := fun n g' hn c hc => ((hg.row n g' hn).lt hc).1
    rw [List.getElem?_set] at hj hk
    by_cases hij : i = j
    · subst hij
      rw [if_pos rfl] at hj
      rw [if_neg hjk] at hk
      split at hj
      · injection hj with hj
        subst hj
        intro hc2
        rcases hat _ hc with h1 | h1
        · exact hg.apart i k g g2 hi hk hjk c h1 hc2
        · have := hlt k g2 hk c hc2; omega
      · exact absurd hj (by simp)
    · rw [if_neg hij] at hj
      by_cases hik : i = k
      · subst hik
        rw [if_pos rfl] at hk
        split at hk
        · injection hk with hk
          subst hk
          intro hc2
          rcases hat _ hc2 with h1 | h1
          · exact hg.apart j i g1 g hj hi hjk c hc h1
          · have := hlt j g1 hj c hc; omega
        · exact absurd hk (by simp)
      · rw [if_neg hik] at hk
        exact hg.apart j k g1 g2 hj hk hjk c hc
end Go.Proofs.YthdgeindjphklaaGreat

namespace Go.Proofs.YthdgeindjphklaaGreat
open Go.RowKit

/-- An entry: from which temperature on, the least and the greatest rate. -/
abbrev Ent := Int × Rat × Rat
/-- Seven cells read as an entry. -/
def Ent7 (R : World → Value → Rat → Prop) (w : World) (b o : Nat) (e : Ent) : Prop :=
  ∃ x y : R3, w.cell? ⟨b, o, none⟩ = some (.int .i64 e.1) ∧ w.cell? ⟨b, o + 1, none⟩ = some (.bool x.b) ∧ w.cell? ⟨b, o + 2, none⟩ = some (.slice x.a x.n x.c) ∧ w.cell? ⟨b, o + 3, none⟩ = some (.slice x.d x.m x.e) ∧ w.cell? ⟨b, o + 4, none⟩ = some (.bool y.b) ∧ w.cell? ⟨b, o + 5, none⟩ = some (.slice y.a y.n y.c) ∧ w.cell? ⟨b, o + 6, none⟩ = some (.slice y.d y.m y.e) ∧ R w x.val e.2.1 ∧ R w y.val e.2.2
def TabOf (R : World → Value → Rat → Prop) (w : World) (v : Value) (es : List Ent) : Prop :=
  ∃ ao cap, v = .slice ao es.length cap ∧ (0 < es.length → ∃ b off, ao = some ⟨b, off, none⟩ ∧ b < w.heap.size ∧ ∀ i, i < es.length → Ent7 R w b (off + i * 7) (es.getD i (0, 0, 0)))
theorem Ent7.below {R : World → Value → Rat → Prop} (hR : ∀ w w' v q, R w v q → Below w.heap.size w w' → R w' v q) {w w' : World} {b o : Nat} {e : Ent} (h : Ent7 R w b o e) (hb : Below w.heap.size w w') (hl : b < w.heap.size) : Ent7 R w' b o e := by
  obtain ⟨x, y, h0, h1, h2, h3, h4, h5, h6, h7, h8⟩ := h
  have c : ∀ j v, w.cell? ⟨b, j, none⟩ = some v → w'.cell? ⟨b, j, none⟩ = some v := fun j v h => (hb.cell (p := ⟨b, j, none⟩) hl).trans h
  exact ⟨x, y, c _ _ h0, c _ _ h1, c _ _ h2, c _ _ h3, c _ _ h4, c _ _ h5, c _ _ h6, hR _ _ _ _ h7 hb, hR _ _ _ _ h8 hb⟩
theorem TabOf.below {R : World → Value → Rat → Prop} (hR : ∀ w w' v q, R w v q → Below w.heap.size w w' → R w' v q) {w w' : World} {v : Value} {es : List Ent} (h : TabOf R w v es) (hb : Below w.heap.size w w') : TabOf R w' v es := by
  obtain ⟨ao, cap, rfl, h⟩ := h
  refine ⟨ao, cap, rfl, fun hl => ?_⟩
  obtain ⟨b, off, rfl, hlt, h⟩ := h hl
  exact ⟨b, off, rfl, Nat.lt_of_lt_of_le hlt hb.size, fun i hi => (h i hi).below hR hb hlt⟩
/-- The values xs, seven by seven, read as the entries es. -/
def EntRow (R : World → Value → Rat → Prop) (w : World) (xs : List Value) (es : List Ent) : Prop :=
  xs.length = es.length * 7 ∧ ∀ j, j < es.length → ∃ x y : R3, xs[j * 7]? = some (.int .i64 (es.getD j (0, 0, 0)).1) ∧ xs[j * 7 + 1]? = some (.bool x.b) ∧ xs[j * 7 + 2]? = some (.slice x.a x.n x.c) ∧ xs[j * 7 + 3]? = some (.slice x.d x.m x.e) ∧ xs[j * 7 + 4]? = some (.bool y.b) ∧ xs[j * 7 + 5]? = some (.slice y.a y.n y.c) ∧ xs[j * 7 + 6]? = some (.slice y.d y.m y.e) ∧ R w x.val (es.getD j (0, 0, 0)).2.1 ∧ R w y.val (es.getD j (0, 0, 0)).2.2
theorem EntRow.mono {R : World → Value → Rat → Prop} {w w' : World} {xs : List Value} {es : List Ent} (h : EntRow R w xs es) (hr : ∀ v q, R w v q → R w' v q) : EntRow R w' xs es :=
  ⟨h.1, fun j hj => by obtain ⟨x, y, h0, h1, h2, h3, h4, h5, h6, h7, h8⟩ := h.2 j hj; exact ⟨x, y, h0, h1, h2, h3, h4, h5, h6, hr _ _ h7, hr _ _ h8⟩⟩
theorem EntRow.nil (R : World → Value → Rat → Prop) (w : World) : EntRow R w [] [] := ⟨rfl, fun j hj => absurd hj (by simp)⟩
theorem EntRow.snoc {R : World → Value → Rat → Prop} {w : World} {xs : List Value} {es : List Ent} (h : EntRow R w xs es) {f : Int} {x y : R3} {lo hi : Rat} (h1 : R w x.val lo) (h2 : R w y.val hi) :
    EntRow R w (xs ++ [.int .i64 f, .bool x.b, .slice x.a x.n x.c, .slice x.d x.m x.e, .bool y.b, .slice y.a y.n y.c, .slice y.d y.m y.e]) (es ++ [(f, lo, hi)]) := by
  obtain ⟨hl, h⟩ := h
  refine ⟨by simp [hl]; omega, fun j hj => ?_⟩
  rcases Nat.lt_or_ge j es.length with hj1 | hj1
  · obtain ⟨x', y', g0, g1, g2, g3, g4, g5, g6, g7, g8⟩ := h j hj1
    have e : ∀ k, k < 7 → (xs ++ [.int .i64 f, .bool x.b, .slice x.a x.n x.c, .slice x.d x.m x.e, .bool y.b, .slice y.a y.n y.c, .slice y.d y.m y.e])[j * 7 + k]? = xs[j * 7 + k]? := fun k hk => List.getElem?_append_left (by omega)
    have e2 : (es ++ [(f, lo, hi)]).getD j (0, 0, 0) = es.getD j (0, 0, 0) := by simp [List.getD, List.getElem?_append_left hj1]
    rw [e2]
    exact ⟨x', y', by rw [← g0]; exact e 0 (by omega), by rw [← g1]; exact e 1 (by omega), by rw [← g2]; exact e 2 (by omega), by rw [← g3]; exact e 3 (by omega), by rw [← g4]; exact e 4 (by omega), by rw [← g5]; exact e 5 (by omega), by rw [← g6]; exact e 6 (by omega), g7, g8⟩
  · obtain rfl : j = es.length := by simp at hj; omega
    have e : ∀ k, (xs ++ [.int .i64 f, .bool x.b, .slice x.a x.n x.c, .slice x.d x.m x.e, .bool y.b, .slice y.a y.n y.c, .slice y.d y.m y.e])[es.length * 7 + k]? = ([.int .i64 f, .bool x.b, .slice x.a x.n x.c, .slice x.d x.m x.e, .bool y.b, .slice y.a y.n y.c, .slice y.d y.m y.e] : List Value)[k]? := fun k => by rw [List.getElem?_append_right (by omega), hl]; congr 1; omega
    have e2 : (es ++ [(f, lo, hi)]).getD es.length (0, 0, 0) = (f, lo, hi) := by simp [List.getD]
    rw [e2]
    exact ⟨x, y, e 0, e 1, e 2, e 3, e 4, e 5, e 6, h1, h2⟩
theorem TabOf.ofRow {R : World → Value → Rat → Prop} {w : World} {base : Nat} {e : TypeId} {v : Value} {xs : List Value} {es : List Ent} (h : LRow w base e 7 v es.length xs) (ht : EntRow R w xs es) : TabOf R w v es := by
  rcases Nat.eq_zero_or_pos es.length with h0 | hp
  · rcases h.1.2 with ⟨rfl, _⟩ | ⟨g, cap, cur, rfl, _⟩
    · exact ⟨none, 0, by rw [h0], fun h => absurd h (by omega)⟩
    · exact ⟨_, _, rfl, fun h => absurd h (by omega)⟩
  · obtain ⟨g, cap, rfl⟩ := ownsRow_some h.1 hp
    have hc : ∀ j u, xs[j]? = some u → w.cell? ((⟨g, 0, none⟩ : Addr).add j) = some u := h.1.cells (g := g) rfl
    have hlt : g < w.heap.size := (h.lt rfl).1
    refine ⟨_, _, rfl, fun _ => ⟨g, 0, rfl, hlt, fun i hi => ?_⟩⟩
    obtain ⟨x, y, h0, h1, h2, h3, h4, h5, h6, h7, h8⟩ := ht.2 i hi
    have ea : ∀ j, (⟨g, 0, none⟩ : Addr).add j = ⟨g, 0 + j, none⟩ := fun j => by unfold Addr.add; split <;> simp_all
    have ec : ∀ k u, xs[i * 7 + k]? = some u → w.cell? ⟨g, 0 + i * 7 + k, none⟩ = some u := fun k u h => by rw [show 0 + i * 7 + k = 0 + (i * 7 + k) by omega, ← ea]; exact hc _ _ h
    exact ⟨x, y, ec 0 _ h0, ec 1 _ h1, ec 2 _ h2, ec 3 _ h3, ec 4 _ h4, ec 5 _ h5, ec 6 _ h6, h7, h8⟩
/-- The two tables so far. -/
structure TE (w0 w : World) (va vb : Value) (xsA xsB : List Value) (esA esB : List Ent) : Prop where
  x : Below w0.heap.size w0 w
  la : LRow w w0.heap.size 208 7 va esA.length xsA
  lb : LRow w w0.heap.size 210 7 vb esB.length xsB
  ta : EntRow IsRat w xsA esA
  tb : EntRow IsR w xsB esB
theorem TE.below {w0 w w' : World} {va vb : Value} {xsA xsB : List Value} {esA esB : List Ent} (h : TE w0 w va vb xsA xsB esA esB) (hb : Below w.heap.size w w') : TE w0 w' va vb xsA xsB esA esB :=
  ⟨ext_trans h.x hb, h.la.below hb, h.lb.below hb, h.ta.mono fun _ _ hr => hr.below hb, h.tb.mono fun _ _ hr => hr.below hb⟩
theorem TE.alloc {w0 w : World} {va vb : Value} {xsA xsB : List Value} {esA esB : List Ent} (h : TE w0 w va vb xsA xsB esA esB) (o : Obj) : TE w0 (w.alloc o) va vb xsA xsB esA esB := h.below ((Below.refl _ _).alloc (Nat.le_refl _) _)
/-- An entry as it is drawn: from, two fractions. -/
abbrev RawE := Int × (Int × Int) × (Int × Int)
def RawAt (w : World) (b o : Nat) (r : RawE) : Prop :=
  w.cell? ⟨b, o, none⟩ = some (.int .i64 r.1) ∧ w.cell? ⟨b, o + 1, none⟩ = some (.int .i64 r.2.1.1) ∧ w.cell? ⟨b, o + 2, none⟩ = some (.int .i64 r.2.1.2) ∧ w.cell? ⟨b, o + 3, none⟩ = some (.int .i64 r.2.2.1) ∧ w.cell? ⟨b, o + 4, none⟩ = some (.int .i64 r.2.2.2)
def RawsOf (w : World) (v : Value) (rs : List RawE) : Prop :=
  ∃ ao cap, v = .slice ao rs.length cap ∧ (0 < rs.length → ∃ b off, ao = some ⟨b, off, none⟩ ∧ b < w.heap.size ∧ ∀ i, i < rs.length → RawAt w b (off + i * 5) (rs.getD i (0, (0, 0), (0, 0))))
theorem RawAt.below {w w' : World} {b o : Nat} {r : RawE} {n : Nat} (h : RawAt w b o r) (hb : Below n w w') (hl : b < n) : RawAt w' b o r := by
  obtain ⟨h0, h1, h2, h3, h4⟩ := h
  have c : ∀ j v, w.cell? ⟨b, j, none⟩ = some v → w'.cell? ⟨b, j, none⟩ = some v := fun j v h => (hb.cell (p := ⟨b, j, none⟩) hl).trans h
  exact ⟨c _ _ h0, c _ _ h1, c _ _ h2, c _ _ h3, c _ _ h4⟩
theorem RawsOf.below {w w' : World} {v : Value} {rs : List RawE} (h : RawsOf w v rs) (hb : Below w.heap.size w w') : RawsOf w' v rs := by
  obtain ⟨ao, cap, rfl, h⟩ := h
  refine ⟨ao, cap, rfl, fun hl => ?_⟩
  obtain ⟨b, off, rfl, hlt, h⟩ := h hl
  exact ⟨b, off, rfl, Nat.lt_of_lt_of_le hlt hb.size, fun i hi => (h i hi).below hb hlt⟩
def hiE (r : RawE) : Rat := hiQ (fracQ r.2.1.1 r.2.1.2) (fracQ r.2.2.1 r.2.2.2)
def boxW (f n0 d0 n1 d1 : Int) (B : Nat) (w : World) : Prop := w.heap[B]? = some (.cells #[.int .i64 f, .int .i64 n0, .int .i64 d0, .int .i64 n1, .int .i64 d1] 206 (0, 0))
theorem boxW.all {f n0 d0 n1 d1 : Int} {B : Nat} {w : World} (h : boxW f n0 d0 n1 d1 B w) : boxW f n0 d0 n1 d1 B w ∧ w.cell? ⟨B, 0, none⟩ = some (.int .i64 f) ∧ w.cell? ⟨B, 1, none⟩ = some (.int .i64 n0) ∧ w.cell? ⟨B, 2, none⟩ = some (.int .i64 d0) ∧ w.cell? ⟨B, 3, none⟩ = some (.int .i64 n1) ∧ w.cell? ⟨B, 4, none⟩ = some (.int .i64 d1) :=
  ⟨h, blk_cell h 0 _ rfl, blk_cell h 1 _ rfl, blk_cell h 2 _ rfl, blk_cell h 3 _ rfl, blk_cell h 4 _ rfl⟩
theorem boxW.below {f n0 d0 n1 d1 : Int} {B : Nat} {a b : World} (hb : Below a.heap.size a b) (h : boxW f n0 d0 n1 d1 B a ∧ a.cell? ⟨B, 0, none⟩ = some (.int .i64 f) ∧ a.cell? ⟨B, 1, none⟩ = some (.int .i64 n0) ∧ a.cell? ⟨B, 2, none⟩ = some (.int .i64 d0) ∧ a.cell? ⟨B, 3, none⟩ = some (.int .i64 n1) ∧ a.cell? ⟨B, 4, none⟩ = some (.int .i64 d1)) : boxW f n0 d0 n1 d1 B b ∧ b.cell? ⟨B, 0, none⟩ = some (.int .i64 f) ∧ b.cell? ⟨B, 1, none⟩ = some (.int .i64 n0) ∧ b.cell? ⟨B, 2, none⟩ = some (.int .i64 d0) ∧ b.cell? ⟨B, 3, none⟩ = some (.int .i64 n1) ∧ b.cell? ⟨B, 4, none⟩ = some (.int .i64 d1) :=
  boxW.all (blk_keep h.1 hb (blk_lt h.1))
theorem boxW.grown {f n0 d0 n1 d1 : Int} {B : Nat} {a b : World} {row : Option Nat} (hg : a.grownBy b row) (hne : some B ≠ row) (h : boxW f n0 d0 n1 d1 B a ∧ a.cell? ⟨B, 0, none⟩ = some (.int .i64 f) ∧ a.cell? ⟨B, 1, none⟩ = some (.int .i64 n0) ∧ a.cell? ⟨B, 2, none⟩ = some (.int .i64 d0) ∧ a.cell? ⟨B, 3, none⟩ = some (.int .i64 n1) ∧ a.cell? ⟨B, 4, none⟩ = some (.int .i64 d1)) : boxW f n0 d0 n1 d1 B b ∧ b.cell? ⟨B, 0, none⟩ = some (.int .i64 f) ∧ b.cell? ⟨B, 1, none⟩ = some (.int .i64 n0) ∧ b.cell? ⟨B, 2, none⟩ = some (.int .i64 d0) ∧ b.cell? ⟨B, 3, none⟩ = some (.int .i64 n1) ∧ b.cell? ⟨B, 4, none⟩ = some (.int .i64 d1) :=
  boxW.all ((hg.block B (blk_lt h.1) hne).trans h.1)
end Go.Proofs.YthdgeindjphklaaGreat

namespace Go.Proofs.YthdgeindjphklaaGreat
open Go.RowKit

theorem cmp_le0 {x y : Rat} : cmpR x y ≤ 0 ↔ x ≤ y := by
  unfold cmpR
  split
  · constructor
    · intro _; grind
    · intro _; omega
  · split
    · constructor
      · intro h; omega
      · intro h; grind
    · constructor
      · intro _; grind
      · intro _; omega
theorem cmp_lt0 {x y : Rat} : cmpR x y < 0 ↔ x < y := by
  unfold cmpR
  split
  · constructor
    · intro _; assumption
    · intro _; omega
  · split
    · constructor
      · intro h; omega
      · intro h; grind
    · constructor
      · intro h; omega
      · intro h; grind
end Go.Proofs.YthdgeindjphklaaGreat

namespace Go.Proofs.YthdgeindjphklaaGreat
open Go.RowKit

theorem loQ_comm (a b : Rat) : loQ a b = loQ b a := by
  unfold loQ
  have h1 := @cmp_le0 a b
  have h2 := @cmp_le0 b a
  split <;> split <;> grind
theorem hiQ_comm (a b : Rat) : hiQ a b = hiQ b a := by
  unfold hiQ
  have h1 := @cmp_lt0 a b
  have h2 := @cmp_lt0 b a
  split <;> split <;> grind
/-- The leaks that explain minute i. -/
def lkLo (V : Rat) (ps fs : List (List Rat)) (i : Nat) : Rat :=
  (fs.getD i []).getD 0 0 + loQ (loQ (V * ((ps.getD (i + 1) []).getD 0 0 + -((ps.getD i []).getD 1 0))) (V * ((ps.getD (i + 1) []).getD 1 0 + -((ps.getD i []).getD 0 0)))) (loQ (V * ((ps.getD (i + 1) []).getD 0 0 + -((ps.getD i []).getD 1 0))) (V * ((ps.getD (i + 1) []).getD 1 0 + -((ps.getD i []).getD 0 0))))
def lkHi (V : Rat) (ps fs : List (List Rat)) (i : Nat) : Rat :=
  (fs.getD i []).getD 1 0 + hiQ (hiQ (V * ((ps.getD (i + 1) []).getD 0 0 + -((ps.getD i []).getD 1 0))) (V * ((ps.getD (i + 1) []).getD 1 0 + -((ps.getD i []).getD 0 0)))) (hiQ (V * ((ps.getD (i + 1) []).getD 0 0 + -((ps.getD i []).getD 1 0))) (V * ((ps.getD (i + 1) []).getD 1 0 + -((ps.getD i []).getD 0 0))))
def lkUp (V : Rat) (ps fs : List (List Rat)) : Nat → Rat × Rat × Int
  | 0 => (0, 0, 0)
  | i + 1 => if (lkUp V ps fs i).2.2 ≠ 0 then lkUp V ps fs i else if i = 0 then (lkLo V ps fs 0, lkHi V ps fs 0, 0) else meetE (lkLo V ps fs i) (lkHi V ps fs i) (lkUp V ps fs i).1 (lkUp V ps fs i).2.1
def lkOf (V : Rat) (ps fs : List (List Rat)) : Rat × Rat × Int :=
  if fs.length < 1 ∨ 256 < fs.length ∨ ps.length ≠ fs.length + 1 then (0, 0, 4) else if sgnI (decide (V.num < 0)) V.num.natAbs ≤ 0 then (0, 0, 1) else lkUp V ps fs fs.length
/-- All fractions of the records are small. -/
def recS (ps : List (List Rat)) : Prop := ∀ i j, szR ((ps.getD i []).getD j 0) 1000
theorem lk_sz {V : Rat} {ps fs : List (List Rat)} (hV : szR V 1000) (hp : recS ps) (hf : recS fs) (i : Nat) : szR (lkLo V ps fs i) 10000 ∧ szR (lkHi V ps fs i) 10000 := by
  have s1 := szR_mul hV (szR_add (hp (i + 1) 0) (szR_neg (hp i 1)))
  have s2 := szR_mul hV (szR_add (hp (i + 1) 1) (szR_neg (hp i 0)))
  exact ⟨szR_mono (szR_add (hf i 0) (loN_sz (loN_sz s1 s2) (loN_sz s1 s2))) (by omega), szR_mono (szR_add (hf i 1) (hiN_sz (hiN_sz s1 s2) (hiN_sz s1 s2))) (by omega)⟩
theorem lkUp_sz {V : Rat} {ps fs : List (List Rat)} (hV : szR V 1000) (hp : recS ps) (hf : recS fs) : ∀ i, szR (lkUp V ps fs i).1 10000 ∧ szR (lkUp V ps fs i).2.1 10000
  | 0 => ⟨szR_zero _ (by omega), szR_zero _ (by omega)⟩
  | i + 1 => by
    have ih := lkUp_sz hV hp hf i
    have h := lk_sz hV hp hf i
    unfold lkUp
    split
    · exact ih
    · split
      · exact lk_sz hV hp hf 0
      · unfold meetE
        split
        · exact ⟨szR_zero _ (by omega), szR_zero _ (by omega)⟩
        · exact ⟨hiN_sz h.1 ih.1, loN_sz h.2 ih.2⟩
theorem lkOf_sz {V : Rat} {ps fs : List (List Rat)} (hV : szR V 1000) (hp : recS ps) (hf : recS fs) : szR (lkOf V ps fs).1 10000 ∧ szR (lkOf V ps fs).2.1 10000 := by
  unfold lkOf
  split
  · exact ⟨szR_zero _ (by omega), szR_zero _ (by omega)⟩
  · split
    · exact ⟨szR_zero _ (by omega), szR_zero _ (by omega)⟩
    · exact lkUp_sz hV hp hf _
theorem lkUp_stay {V : Rat} {ps fs : List (List Rat)} {i n : Nat} (h : (lkUp V ps fs i).2.2 ≠ 0) (hn : i ≤ n) : lkUp V ps fs n = lkUp V ps fs i := by
  induction n with
  | zero => obtain rfl : i = 0 := by omega
            rfl
  | succ n ih =>
    rcases Nat.lt_or_ge i (n + 1) with h1 | h1
    · have e := ih (by omega)
      show (if (lkUp V ps fs n).2.2 ≠ 0 then lkUp V ps fs n else _) = _
      rw [if_pos (by rw [e]; exact h), e]
    · obtain rfl : i = n + 1 := by omega
      rfl
theorem lkUp_s {V : Rat} {ps fs : List (List Rat)} {i : Nat} (h : (lkUp V ps fs i).2.2 = 0) (hi : 0 < i) : lkUp V ps fs (i + 1) = meetE (lkLo V ps fs i) (lkHi V ps fs i) (lkUp V ps fs i).1 (lkUp V ps fs i).2.1 := by
  show (if (lkUp V ps fs i).2.2 ≠ 0 then lkUp V ps fs i else _) = _
  rw [if_neg (by rw [h]; simp), if_neg (by omega)]
theorem rmeet_no (a b c d : Rat) (vx vy : Value) (w : World) (hx : IsRng w vx a b) (hy : IsRng w vy c d) (s1 : szR a 1000000000) (s2 : szR b 1000000000) (s3 : szR c 1000000000) (s4 : szR d 1000000000) (h : cmpR (hiQ a c) (loQ b d) > 0) : Calls Tryz.prog 70 #[vx, vy] w (RetRngE 0 0 5 w) := by
  have := rmeet_any a b c d vx vy w hx hy s1 s2 s3 s4
  unfold meetE at this
  rw [if_pos h] at this
  exact this
theorem rmeet_ok (a b c d : Rat) (vx vy : Value) (w : World) (hx : IsRng w vx a b) (hy : IsRng w vy c d) (s1 : szR a 1000000000) (s2 : szR b 1000000000) (s3 : szR c 1000000000) (s4 : szR d 1000000000) (h : ¬ cmpR (hiQ a c) (loQ b d) > 0) : Calls Tryz.prog 70 #[vx, vy] w (RetRngE (hiQ a c) (loQ b d) 0 w) := by
  have := rmeet_any a b c d vx vy w hx hy s1 s2 s3 s4
  unfold meetE at this
  rw [if_neg h] at this
  exact this
set_option maxRecDepth 100000 in
set_option maxHeartbeats 16000000 in
theorem leak_any (V : Rat) (ps fs : List (List Rat)) (vV vp vf : Value) (w : World) (hV : IsRat w vV V) (hp : RecsOf true 2 w vp ps) (hf : RecsOf true 2 w vf fs) (hl1 : ps.length ≤ 300) (hl2 : fs.length ≤ 300) (sV : szR V 1000) (sp : recS ps) (sf : recS fs) :
    Calls Tryz.prog 17 #[vV, vp, vf] w (RetMtP (lkOf V ps fs) w) := by
  obtain ⟨x1, rfl⟩ := hV.open3
  have HS := Lib.hid ((Sx.init w).addP hV)
  have HZp := Lib.hid sp
  have HZf := Lib.hid sf
  have SV := Lib.hid sV
  have SV0 := Lib.hid sV
  obtain ⟨aps, cps, rfl, hEp⟩ := hp
  obtain ⟨afs, cfs, rfl, hEf⟩ := hf
  have HEp := Lib.hid hEp
  have HEf := Lib.hid hEf
  clear hEp hEf hV sp sf sV
  by_cases h1 : fs.length < 1
  ·
    have HR : Hid (lkOf V ps fs = (0, 0, 4)) := by show _ = _; unfold lkOf; rw [if_pos (by omega)]
    have t1 : decide ((fs.length : Int) < 1) = true := decide_eq_true (by omega)
    have t1b : decide (fs.length < 1) = true := decide_eq_true (by omega)
    go_enter Tryz.func17, Tryz.ntmps17
    go_wp2_with fail
    generalize hW1 : ((w).alloc (.cells _ _)).alloc (.cells _ _) = W1 at *
    replace HS : Hid (Sx w W1 [(w.heap.size + 1, #[.bool false, .slice none 0 0, .slice none 0 0, .bool false, .slice none 0 0, .slice none 0 0], 36), (w.heap.size, x1.arr, 34)] [(true, x1.val, V)]) := by subst hW1; exact ((HS.out).alloc (B := w.heap.size) rfl (by rfl)).alloc (B := w.heap.size + 1) (by simp) (by rfl)
    clear hW1
    have b1e := (HS.out.at 0 _ _ _ rfl)
    have b1c0 := blk_cell b1e 0 (.bool false) rfl
    have b1c1 := blk_cell b1e 1 (.slice none 0 0) rfl
    have b1c2 := blk_cell b1e 2 (.slice none 0 0) rfl
    have b1c3 := blk_cell b1e 3 (.bool false) rfl
    have b1c4 := blk_cell b1e 4 (.slice none 0 0) rfl
    have b1c5 := blk_cell b1e 5 (.slice none 0 0) rfl
    clear b1e
    refine bodyPost_ret (v := .tuple #[.agg #[.bool false, .slice none 0 0, .slice none 0 0, .bool false, .slice none 0 0, .slice none 0 0], .int .i64 4]) (by simp [results, Tryz.results17, go_sem, b1c0, b1c1, b1c2, b1c3, b1c4, b1c5]) rfl (by rw [HR.out]; exact ⟨_, rfl, (rngP (isRat_r30 _) (isRat_r30 _)), HS.out.bel⟩)
  by_cases h2 : 256 < fs.length
  ·
    have HR : Hid (lkOf V ps fs = (0, 0, 4)) := by show _ = _; unfold lkOf; rw [if_pos (by omega)]
    have t1 : decide ((fs.length : Int) < 1) = false := decide_eq_false (by omega)
    have t1b : decide (fs.length < 1) = false := decide_eq_false (by omega)
    have t2 : decide ((fs.length : Int) > 256) = true := decide_eq_true (by omega)
    have t2b : decide (256 < fs.length) = true := decide_eq_true (by omega)
    clear h1 h2
    go_enter Tryz.func17, Tryz.ntmps17
    go_wp2_with fail
    generalize hW2 : ((w).alloc (.cells _ _)).alloc (.cells _ _) = W2 at *
    replace HS : Hid (Sx w W2 [(w.heap.size + 1, #[.bool false, .slice none 0 0, .slice none 0 0, .bool false, .slice none 0 0, .slice none 0 0], 36), (w.heap.size, x1.arr, 34)] [(true, x1.val, V)]) := by subst hW2; exact ((HS.out).alloc (B := w.heap.size) rfl (by rfl)).alloc (B := w.heap.size + 1) (by simp) (by rfl)
    clear hW2
    have b1e := (HS.out.at 0 _ _ _ rfl)
    have b1c0 := blk_cell b1e 0 (.bool false) rfl
    have b1c1 := blk_cell b1e 1 (.slice none 0 0) rfl
    have b1c2 := blk_cell b1e 2 (.slice none 0 0) rfl
    have b1c3 := blk_cell b1e 3 (.bool false) rfl
    have b1c4 := blk_cell b1e 4 (.slice none 0 0) rfl
    have b1c5 := blk_cell b1e 5 (.slice none 0 0) rfl
    clear b1e
    refine bodyPost_ret (v := .tuple #[.agg #[.bool false, .slice none 0 0, .slice none 0 0, .bool false, .slice none 0 0, .slice none 0 0], .int .i64 4]) (by simp [results, Tryz.results17, go_sem, b1c0, b1c1, b1c2, b1c3, b1c4, b1c5]) rfl (by rw [HR.out]; exact ⟨_, rfl, (rngP (isRat_r30 _) (isRat_r30 _)), HS.out.bel⟩)
  by_cases h3 : ps.length = fs.length + 1
  ·
    have HLN : Hid (¬ fs.length < 1 ∧ ¬ 256 < fs.length ∧ ps.length = fs.length + 1) := ⟨h1, h2, h3⟩
    have t1 : decide ((fs.length : Int) < 1) = false := decide_eq_false (by omega)
    have t1b : decide (fs.length < 1) = false := decide_eq_false (by omega)
    have t2 : decide ((fs.length : Int) > 256) = false := decide_eq_false (by omega)
    have t2b : decide (256 < fs.length) = false := decide_eq_false (by omega)
    have t3 : ((ps.length : Int) != (fs.length : Int) + 1) = false := by simp; omega
    have t3b : (ps.length != fs.length + 1) = false := by simp; omega
    have t3c : ((ps.length : Int) == (fs.length : Int) + 1) = true := by simp; omega
    clear h1 h2 h3
    go_enter Tryz.func17, Tryz.ntmps17
    go_wp2_with fail
    generalize hW3 : ((w).alloc (.cells _ _)).alloc (.cells _ _) = W3 at *
    replace HS : Hid (Sx w W3 [(w.heap.size + 1, #[.bool false, .slice none 0 0, .slice none 0 0, .bool false, .slice none 0 0, .slice none 0 0], 36), (w.heap.size, x1.arr, 34)] [(true, x1.val, V)]) := by subst hW3; exact ((HS.out).alloc (B := w.heap.size) rfl (by rfl)).alloc (B := w.heap.size + 1) (by simp) (by rfl)
    clear hW3
    obtain ⟨c4, hc4⟩ : ∃ κ, κ = sgnI (decide (V.num < 0)) V.num.natAbs := ⟨_, rfl⟩
    have HC4 := Lib.hid hc4
    clear hc4
    refine (signR_any V _ _ (HS.out.p 0 _ _ rfl)).mono ?_
    rw [← HC4.out]
    rintro e w4 ⟨rfl, hb4⟩
    replace HS := Lib.hid (HS.out.below hb4)
    clear hb4
    by_cases t5p : c4 ≤ 0
    ·
      have t5 : decide (c4 ≤ 0) = true := decide_eq_true t5p
      have T5 := Lib.hid t5p
      clear t5p
      have b1e := (HS.out.at 0 _ _ _ rfl)
      have b1c0 := blk_cell b1e 0 (.bool false) rfl
      have b1c1 := blk_cell b1e 1 (.slice none 0 0) rfl
      have b1c2 := blk_cell b1e 2 (.slice none 0 0) rfl
      have b1c3 := blk_cell b1e 3 (.bool false) rfl
      have b1c4 := blk_cell b1e 4 (.slice none 0 0) rfl
      have b1c5 := blk_cell b1e 5 (.slice none 0 0) rfl
      have b1f0 := blk_frozen b1e 0
      have b1f1 := blk_frozen b1e 1
      have b1f2 := blk_frozen b1e 2
      have b1f3 := blk_frozen b1e 3
      have b1f4 := blk_frozen b1e 4
      have b1f5 := blk_frozen b1e 5
      have b1l := blk_lt b1e
      clear b1e
      go_wp2_with fail
      clear b1c0 b1c1 b1c2 b1c3 b1c4 b1c5 b1f0 b1f1 b1f2 b1f3 b1f4 b1f5 b1l
      generalize hW6 : ((((((w4).setCell _ _).setCell _ _).setCell _ _).setCell _ _).setCell _ _).setCell _ _ = W6 at *
      replace HS : Hid (Sx w W6 [(w.heap.size + 1, #[.bool false, .slice none 0 0, .slice none 0 0, .bool false, .slice none 0 0, .slice none 0 0], 36), (w.heap.size, x1.arr, 34)] [(true, x1.val, V)]) := by subst hW6; exact (HS.out).st_RR 0 r30 r30 r30 r30 rfl
      clear hW6
      have HR : Hid (lkOf V ps fs = (0, 0, 1)) := by show _ = _; unfold lkOf; rw [if_neg (by have := HLN.out; omega), if_pos (by rw [← HC4.out]; have := T5.out; omega)]
      have b1e := (HS.out.at 0 _ _ _ rfl)
      have b1c0 := blk_cell b1e 0 (.bool false) rfl
      have b1c1 := blk_cell b1e 1 (.slice none 0 0) rfl
      have b1c2 := blk_cell b1e 2 (.slice none 0 0) rfl
      have b1c3 := blk_cell b1e 3 (.bool false) rfl
      have b1c4 := blk_cell b1e 4 (.slice none 0 0) rfl
      have b1c5 := blk_cell b1e 5 (.slice none 0 0) rfl
      clear b1e
      refine bodyPost_ret (v := .tuple #[.agg #[.bool false, .slice none 0 0, .slice none 0 0, .bool false, .slice none 0 0, .slice none 0 0], .int .i64 1]) (by simp [results, Tryz.results17, go_sem, b1c0, b1c1, b1c2, b1c3, b1c4, b1c5]) rfl (by rw [HR.out]; exact ⟨_, rfl, (rngP (isRat_r30 _) (isRat_r30 _)), HS.out.bel⟩)
    ·
      have t5 : decide (c4 ≤ 0) = false := decide_eq_false t5p
      have T5 := Lib.hid t5p
      clear t5p
      go_wp2_with fail
      generalize hW7 : (w4).alloc (.cells _ _) = W7 at *
      replace HS : Hid (Sx w W7 [(w4.heap.size, #[.bool false, .slice none 0 0, .slice none 0 0, .bool false, .slice none 0 0, .slice none 0 0], 36), (w.heap.size + 1, #[.bool false, .slice none 0 0, .slice none 0 0, .bool false, .slice none 0 0, .slice none 0 0], 36), (w.heap.size, x1.arr, 34)] [(true, x1.val, V)]) := by subst hW7; exact (HS.out).alloc (B := w4.heap.size) rfl (by rfl)
      clear hW7
      go_loopw [36] (fun u36 wr => ∃ (i : Nat) (m1 m2 : R3), i ≤ fs.length ∧ u36 = .int .i64 i ∧ Hid ((lkUp V ps fs i).2.2 = 0) ∧ Hid (Sx w wr [(w4.heap.size, arr6 m1 m2, 36), (w.heap.size + 1, #[.bool false, .slice none 0 0, .slice none 0 0, .bool false, .slice none 0 0, .slice none 0 0], 36), (w.heap.size, x1.arr, 34)] [(true, m2.val, (lkUp V ps fs i).2.1), (true, m1.val, (lkUp V ps fs i).1), (true, x1.val, V)]))
        (fun u _ => fs.length - (intOf u).toNat)
      case atStart => exact ⟨0, r30, r30, Nat.zero_le _, rfl, Lib.hid rfl, Lib.hid ((((HS.out.bare).addP (HS.out.p 0 _ _ rfl)).addP (isRat_r30 _)).addP (isRat_r30 _))⟩
      case round =>
        obtain ⟨wr8, hwr8⟩ : ∃ z, z = wr := ⟨_, rfl⟩
        subst hwr8
        clear HS
        obtain ⟨i, m1, m2, hi, rfl, HOK, HS⟩ := hrel
        by_cases hlt : i < fs.length
        ·
          have hlt' : (i : Int) < fs.length := by omega
          have hge' : (0 : Int) ≤ i := by omega
          have HLT := Lib.hid hlt
          obtain ⟨bfs, ofs, rfl, hbf, hEEfs⟩ := HEf.out (by omega)
          have HBLfs := Lib.hid hbf
          obtain ⟨i1, hi1⟩ : ∃ j, j = i + 1 := ⟨_, rfl⟩
          have HI1 := Lib.hid hi1
          have hl1 : i1 < ps.length := by have := HLN.out.2.2; omega
          have hl0 : i < ps.length := by omega
          obtain ⟨bps, ops, rfl, hbp, hEEps⟩ := HEp.out (by omega)
          have HBLps := Lib.hid hbp
          clear hbf hbp
          obtain ⟨Fx, Fg0, Fg1, Fg2, Fhx⟩ := hEEfs i hlt 0 (by omega)
          have F0 : Hid (w.cell? ⟨bfs, ofs + i * 6, none⟩ = some (.bool Fx.b)) := Fg0
          have F1 : Hid (w.cell? ⟨bfs, ofs + i * 6 + 1, none⟩ = some (.slice Fx.a Fx.n Fx.c)) := Fg1
          have F2 : Hid (w.cell? ⟨bfs, ofs + i * 6 + 2, none⟩ = some (.slice Fx.d Fx.m Fx.e)) := Fg2
          clear Fg0 Fg1 Fg2
          obtain ⟨Fy, Fg0, Fg1, Fg2, Fhy⟩ := hEEfs i hlt 1 (by omega)
          have F3 : Hid (w.cell? ⟨bfs, ofs + i * 6 + 3, none⟩ = some (.bool Fy.b)) := Fg0
          have F4 : Hid (w.cell? ⟨bfs, ofs + i * 6 + 4, none⟩ = some (.slice Fy.a Fy.n Fy.c)) := Fg1
          have F5 : Hid (w.cell? ⟨bfs, ofs + i * 6 + 5, none⟩ = some (.slice Fy.d Fy.m Fy.e)) := Fg2
          clear Fg0 Fg1 Fg2
          replace HS := Lib.hid ((HS.out.addP (Fr.below Fhx HS.out.bel)).addP (Fr.below Fhy HS.out.bel))
          clear Fhx Fhy
          obtain ⟨Qx, Qg0, Qg1, Qg2, Qhx⟩ := hEEps i1 hl1 0 (by omega)
          have Q0 : Hid (w.cell? ⟨bps, ops + i1 * 6, none⟩ = some (.bool Qx.b)) := Qg0
          have Q1 : Hid (w.cell? ⟨bps, ops + i1 * 6 + 1, none⟩ = some (.slice Qx.a Qx.n Qx.c)) := Qg1
          have Q2 : Hid (w.cell? ⟨bps, ops + i1 * 6 + 2, none⟩ = some (.slice Qx.d Qx.m Qx.e)) := Qg2
          clear Qg0 Qg1 Qg2
          obtain ⟨Qy, Qg0, Qg1, Qg2, Qhy⟩ := hEEps i1 hl1 1 (by omega)
          have Q3 : Hid (w.cell? ⟨bps, ops + i1 * 6 + 3, none⟩ = some (.bool Qy.b)) := Qg0
          have Q4 : Hid (w.cell? ⟨bps, ops + i1 * 6 + 4, none⟩ = some (.slice Qy.a Qy.n Qy.c)) := Qg1
          have Q5 : Hid (w.cell? ⟨bps, ops + i1 * 6 + 5, none⟩ = some (.slice Qy.d Qy.m Qy.e)) := Qg2
          clear Qg0 Qg1 Qg2
          replace HS := Lib.hid ((HS.out.addP (Fr.below Qhx HS.out.bel)).addP (Fr.below Qhy HS.out.bel))
          clear Qhx Qhy
          obtain ⟨Px, Pg0, Pg1, Pg2, Phx⟩ := hEEps i hl0 0 (by omega)
          have P0 : Hid (w.cell? ⟨bps, ops + i * 6, none⟩ = some (.bool Px.b)) := Pg0
          have P1 : Hid (w.cell? ⟨bps, ops + i * 6 + 1, none⟩ = some (.slice Px.a Px.n Px.c)) := Pg1
          have P2 : Hid (w.cell? ⟨bps, ops + i * 6 + 2, none⟩ = some (.slice Px.d Px.m Px.e)) := Pg2
          clear Pg0 Pg1 Pg2
          obtain ⟨Py, Pg0, Pg1, Pg2, Phy⟩ := hEEps i hl0 1 (by omega)
          have P3 : Hid (w.cell? ⟨bps, ops + i * 6 + 3, none⟩ = some (.bool Py.b)) := Pg0
          have P4 : Hid (w.cell? ⟨bps, ops + i * 6 + 4, none⟩ = some (.slice Py.a Py.n Py.c)) := Pg1
          have P5 : Hid (w.cell? ⟨bps, ops + i * 6 + 5, none⟩ = some (.slice Py.d Py.m Py.e)) := Pg2
          clear Pg0 Pg1 Pg2
          replace HS := Lib.hid ((HS.out.addP (Fr.below Phx HS.out.bel)).addP (Fr.below Phy HS.out.bel))
          clear Phx Phy
          have HXL : Hid (lkLo V ps fs i = (fs.getD i []).getD 0 0 + loQ (loQ (V * ((ps.getD i1 []).getD 0 0 + -((ps.getD i []).getD 1 0))) (V * ((ps.getD i1 []).getD 1 0 + -((ps.getD i []).getD 0 0)))) (loQ (V * ((ps.getD i1 []).getD 0 0 + -((ps.getD i []).getD 1 0))) (V * ((ps.getD i1 []).getD 1 0 + -((ps.getD i []).getD 0 0))))) := by rw [hi1]; rfl
          have HXH : Hid (lkHi V ps fs i = (fs.getD i []).getD 1 0 + hiQ (hiQ (V * ((ps.getD i1 []).getD 0 0 + -((ps.getD i []).getD 1 0))) (V * ((ps.getD i1 []).getD 1 0 + -((ps.getD i []).getD 0 0)))) (hiQ (V * ((ps.getD i1 []).getD 0 0 + -((ps.getD i []).getD 1 0))) (V * ((ps.getD i1 []).getD 1 0 + -((ps.getD i []).getD 0 0))))) := by rw [hi1]; rfl
          have SF0 := Lib.hid (HZf.out i 0)
          have SF1 := Lib.hid (HZf.out i 1)
          have SQ0 := Lib.hid (HZp.out i1 0)
          have SQ1 := Lib.hid (HZp.out i1 1)
          have SP0 := Lib.hid (HZp.out i 0)
          have SP1 := Lib.hid (HZp.out i 1)
          have HLS := Lib.hid (lk_sz SV0.out HZp.out HZf.out i)
          have HUS := Lib.hid (lkUp_sz SV0.out HZp.out HZf.out i)
          have hw : IntKind.i64.wrap ((i : Int) + 1) = (i1 : Int) := (IntWalk.i64_in _ (by omega)).trans (by omega)
          have hj1 : (0 : Int) ≤ i1 := by omega
          have hj2 : (i1 : Int) < ps.length := by omega
          have hj3 : (i : Int) < ps.length := by omega
          clear hEEfs hEEps hi1 hl1 hl0
          generalize (fs.getD i []).getD 0 0 = f0 at *
          generalize (fs.getD i []).getD 1 0 = f1 at *
          generalize (ps.getD i1 []).getD 0 0 = p0 at *
          generalize (ps.getD i1 []).getD 1 0 = p1 at *
          generalize (ps.getD i []).getD 0 0 = r0 at *
          generalize (ps.getD i []).getD 1 0 = r1 at *
          clear hlt
          have Fc0 := (HS.out.bel.cell (p := ⟨bfs, ofs + i * 6, none⟩) HBLfs.out).trans F0.out
          have Fc1 := (HS.out.bel.cell (p := ⟨bfs, ofs + i * 6 + 1, none⟩) HBLfs.out).trans F1.out
          have Fc2 := (HS.out.bel.cell (p := ⟨bfs, ofs + i * 6 + 2, none⟩) HBLfs.out).trans F2.out
          have Fc3 := (HS.out.bel.cell (p := ⟨bfs, ofs + i * 6 + 3, none⟩) HBLfs.out).trans F3.out
          have Fc4 := (HS.out.bel.cell (p := ⟨bfs, ofs + i * 6 + 4, none⟩) HBLfs.out).trans F4.out
          have Fc5 := (HS.out.bel.cell (p := ⟨bfs, ofs + i * 6 + 5, none⟩) HBLfs.out).trans F5.out
          go_wp2_with fail
          clear Fc0 Fc1 Fc2 Fc3 Fc4 Fc5
          generalize hW9 : (wr8).alloc (.cells _ _) = W9 at *
          replace HS : Hid (Sx w W9 [(wr8.heap.size, arr6 Fx Fy, 36), (w4.heap.size, arr6 m1 m2, 36), (w.heap.size + 1, #[.bool false, .slice none 0 0, .slice none 0 0, .bool false, .slice none 0 0, .slice none 0 0], 36), (w.heap.size, x1.arr, 34)] [(true, Py.val, r1), (true, Px.val, r0), (true, Qy.val, p1), (true, Qx.val, p0), (true, Fy.val, f1), (true, Fx.val, f0), (true, m2.val, (lkUp V ps fs i).2.1), (true, m1.val, (lkUp V ps fs i).1), (true, x1.val, V)]) := by subst hW9; exact (HS.out).alloc (B := wr8.heap.size) rfl (by rfl)
          clear hW9
          refine wp_region_held_drew (S := (fun w' => Sx w w' [(wr8.heap.size, arr6 Fx Fy, 36), (w4.heap.size, arr6 m1 m2, 36), (w.heap.size + 1, #[.bool false, .slice none 0 0, .slice none 0 0, .bool false, .slice none 0 0, .slice none 0 0], 36), (w.heap.size, x1.arr, 34)] [])) (by kernel_rfl) ((HS.out.drew).bare) (fun hh => ?_)
          replace HS := Lib.hid HS.out.drew
          have HSW := Lib.hid HS.out.bel.size
          refine tkA (i := 0) (v := ?vpr10_0_k12) rfl (Or.inl ⟨by first | rfl | kernel_rfl, ?hypr10_0_k12⟩) (by assumption) ?repr10_0_k12
          case hypr10_0_k12 => (intro u hSu; (try dsimp only at hSu); obtain ⟨qb3c0, qb3c1, qb3c2, qb3c3, qb3c4, qb3c5, _⟩ := fac6 (x := Fx) (y := Fy) (hSu.at 0 _ _ _ rfl); clear hSu; (first | (go_simp; done) | (go_simp; with_reducible rfl)))
          try simp only [nb1, nb2, nb3, Act.put, nb4, nb5, nb6]
          refine tkA (i := 1) (v := ?vpr10_1_k14) rfl (Or.inl ⟨by first | rfl | kernel_rfl, ?hypr10_1_k14⟩) (by assumption) ?repr10_1_k14
          case hypr10_1_k14 => (intro u hSu; (try dsimp only at hSu); obtain ⟨qb0c0, qb0c1, qb0c2, _⟩ := fac3 (x := x1) (hSu.at 3 _ _ _ rfl); clear hSu; (first | (go_simp; done) | (go_simp; with_reducible rfl)))
          try simp only [nb1, nb2, nb3, Act.put, nb4, nb5, nb6]
          refine tkA (i := 3) (v := ?vpr10_3_k16) rfl (Or.inl ⟨by first | rfl | kernel_rfl, ?hypr10_3_k16⟩) (by assumption) ?repr10_3_k16
          case hypr10_3_k16 => (intro u hSu; (first | (go_simp; done) | (go_simp; with_reducible rfl)))
          try simp only [nb1, nb2, nb3, Act.put, nb4, nb5, nb6]
          refine tkA (i := 4) (v := ?vpr10_4_k18) rfl (Or.inl ⟨by first | rfl | kernel_rfl, ?hypr10_4_k18⟩) (by assumption) ?repr10_4_k18
          case hypr10_4_k18 => (intro u hSu; (first | (go_simp; done) | (go_simp; with_reducible rfl)))
          try simp only [nb1, nb2, nb3, Act.put, nb4, nb5, nb6]
          refine tkA (i := 5) (v := ?vpr10_5_k20) rfl (Or.inl ⟨by first | rfl | kernel_rfl, ?hypr10_5_k20⟩) (by assumption) ?repr10_5_k20
          case hypr10_5_k20 => (intro u hSu; (first | (go_simp; done) | (go_simp; with_reducible rfl)))
          try simp only [nb1, nb2, nb3, Act.put, nb4, nb5, nb6]
          refine tkA (i := 6) (v := ?vpr10_6_k22) rfl (Or.inl ⟨by first | rfl | kernel_rfl, ?hypr10_6_k22⟩) (by assumption) ?repr10_6_k22
          case hypr10_6_k22 => (intro u hSu; (first | (go_simp; done) | (go_simp; with_reducible rfl)))
          try simp only [nb1, nb2, nb3, Act.put, nb4, nb5, nb6]
          refine tkA (i := 7) (v := ?vpr10_7_k24) rfl (Or.inl ⟨by first | rfl | kernel_rfl, ?hypr10_7_k24⟩) (by assumption) ?repr10_7_k24
          case hypr10_7_k24 => (intro u hSu; (try dsimp only at hSu); have Qc0 := (hSu.bel.cell (p := ⟨bps, ops + i1 * 6, none⟩) HBLps.out).trans Q0.out; have Qc1 := (hSu.bel.cell (p := ⟨bps, ops + i1 * 6 + 1, none⟩) HBLps.out).trans Q1.out; have Qc2 := (hSu.bel.cell (p := ⟨bps, ops + i1 * 6 + 2, none⟩) HBLps.out).trans Q2.out; have Qc3 := (hSu.bel.cell (p := ⟨bps, ops + i1 * 6 + 3, none⟩) HBLps.out).trans Q3.out; have Qc4 := (hSu.bel.cell (p := ⟨bps, ops + i1 * 6 + 4, none⟩) HBLps.out).trans Q4.out; have Qc5 := (hSu.bel.cell (p := ⟨bps, ops + i1 * 6 + 5, none⟩) HBLps.out).trans Q5.out; clear hSu; (first | (go_simp; done) | (go_simp; with_reducible rfl)))
          try simp only [nb1, nb2, nb3, Act.put, nb4, nb5, nb6]
          refine tkA (i := 8) (v := ?vpr10_8_k26) rfl (Or.inl ⟨by first | rfl | kernel_rfl, ?hypr10_8_k26⟩) (by assumption) ?repr10_8_k26
          case hypr10_8_k26 => (intro u hSu; (first | (go_simp; done) | (go_simp; with_reducible rfl)))
          try simp only [nb1, nb2, nb3, Act.put, nb4, nb5, nb6]
          refine tkA (i := 9) (v := ?vpr10_9_k28) rfl (Or.inl ⟨by first | rfl | kernel_rfl, ?hypr10_9_k28⟩) (by assumption) ?repr10_9_k28
          case hypr10_9_k28 => (intro u hSu; (first | (go_simp; done) | (go_simp; with_reducible rfl)))
          try simp only [nb1, nb2, nb3, Act.put, nb4, nb5, nb6]
          refine tkA (i := 10) (v := ?vpr10_10_k30) rfl (Or.inl ⟨by first | rfl | kernel_rfl, ?hypr10_10_k30⟩) (by assumption) ?repr10_10_k30
          case hypr10_10_k30 => (intro u hSu; (first | (go_simp; done) | (go_simp; with_reducible rfl)))
          try simp only [nb1, nb2, nb3, Act.put, nb4, nb5, nb6]
          refine tkA (i := 11) (v := ?vpr10_11_k32) rfl (Or.inl ⟨by first | rfl | kernel_rfl, ?hypr10_11_k32⟩) (by assumption) ?repr10_11_k32
          case hypr10_11_k32 => (intro u hSu; (try dsimp only at hSu); have Pc0 := (hSu.bel.cell (p := ⟨bps, ops + i * 6, none⟩) HBLps.out).trans P0.out; have Pc1 := (hSu.bel.cell (p := ⟨bps, ops + i * 6 + 1, none⟩) HBLps.out).trans P1.out; have Pc2 := (hSu.bel.cell (p := ⟨bps, ops + i * 6 + 2, none⟩) HBLps.out).trans P2.out; have Pc3 := (hSu.bel.cell (p := ⟨bps, ops + i * 6 + 3, none⟩) HBLps.out).trans P3.out; have Pc4 := (hSu.bel.cell (p := ⟨bps, ops + i * 6 + 4, none⟩) HBLps.out).trans P4.out; have Pc5 := (hSu.bel.cell (p := ⟨bps, ops + i * 6 + 5, none⟩) HBLps.out).trans P5.out; clear hSu; (first | (go_simp; done) | (go_simp; with_reducible rfl)))
          try simp only [nb1, nb2, nb3, Act.put, nb4, nb5, nb6]
          refine wpAnyH_modular [2, 12, 13, 14, 15] [2, 12, 13, 14, 15] [] [43, 53, 54, 55, 11] #[true, true, true, true, true, true, true, true, true, true, true, true, true, true, true, true, false] 1 [(2, 43), (12, 53), (13, 54), (14, 55), (15, 11)] [(2, []), (12, [2]), (13, [2, 12]), (14, [13]), (15, [])] [15] [(2, fun v w => ∃ z33a z33b : R3, v = .agg #[.bool z33a.b, .slice z33a.a z33a.n z33a.c, .slice z33a.d z33a.m z33a.e, .bool z33b.b, .slice z33b.a z33b.n z33b.c, .slice z33b.d z33b.m z33b.e] ∧ Fr true w z33a.val V ∧ Fr true w z33b.val V), (12, fun v w => ∃ z34a z34b : R3, v = .agg #[.bool z34a.b, .slice z34a.a z34a.n z34a.c, .slice z34a.d z34a.m z34a.e, .bool z34b.b, .slice z34b.a z34b.n z34b.c, .slice z34b.d z34b.m z34b.e] ∧ Fr true w z34a.val (p0 + -r1) ∧ Fr true w z34b.val (p1 + -r0)), (13, fun v w => ∃ z35a z35b : R3, v = .agg #[.bool z35a.b, .slice z35a.a z35a.n z35a.c, .slice z35a.d z35a.m z35a.e, .bool z35b.b, .slice z35b.a z35b.n z35b.c, .slice z35b.d z35b.m z35b.e] ∧ Fr true w z35a.val (loQ (loQ (V * (p0 + -r1)) (V * (p1 + -r0))) (loQ (V * (p0 + -r1)) (V * (p1 + -r0)))) ∧ Fr true w z35b.val (hiQ (hiQ (V * (p0 + -r1)) (V * (p1 + -r0))) (hiQ (V * (p0 + -r1)) (V * (p1 + -r0))))), (14, fun v w => ∃ z36a z36b : R3, v = .agg #[.bool z36a.b, .slice z36a.a z36a.n z36a.c, .slice z36a.d z36a.m z36a.e, .bool z36b.b, .slice z36b.a z36b.n z36b.c, .slice z36b.d z36b.m z36b.e] ∧ Fr true w z36a.val (f0 + (loQ (loQ (V * (p0 + -r1)) (V * (p1 + -r0))) (loQ (V * (p0 + -r1)) (V * (p1 + -r0))))) ∧ Fr true w z36b.val (f1 + (hiQ (hiQ (V * (p0 + -r1)) (V * (p1 + -r0))) (hiQ (V * (p0 + -r1)) (V * (p1 + -r0)))))), (15, fun v w => ∃ Br10_15 : Nat, v = .pointer (some ⟨Br10_15, 0, none⟩) ∧ W9.drew.heap.size ≤ Br10_15 ∧ w.heap[Br10_15]? = some (.cells #[.bool false, .slice none 0 0, .slice none 0 0, .bool false, .slice none 0 0, .slice none 0 0] 36 (0, 0)))]
            rfl (by kernel_rfl) (by decide) rfl ⟨(fun v w w' hb ⟨z0, z1, e, h0, h1⟩ => ⟨z0, z1, e, Fr.below h0 hb, Fr.below h1 hb⟩), ⟨(fun v w w' hb ⟨z0, z1, e, h0, h1⟩ => ⟨z0, z1, e, Fr.below h0 hb, Fr.below h1 hb⟩), ⟨(fun v w w' hb ⟨z0, z1, e, h0, h1⟩ => ⟨z0, z1, e, Fr.below h0 hb, Fr.below h1 hb⟩), ⟨(fun v w w' hb ⟨z0, z1, e, h0, h1⟩ => ⟨z0, z1, e, Fr.below h0 hb, Fr.below h1 hb⟩), ⟨(fun v w w' hb ⟨B, e, g, k⟩ => ⟨B, e, g, blk_keep k hb (blk_lt k)⟩), trivial⟩⟩⟩⟩⟩ ⟨fun v w ⟨B, e, g, k⟩ => ⟨B, e, blk_lt k⟩, trivial⟩ (fun w' hb => Sx.below hh hb) ⟨?_, ?_, ?_, ?_, ?_, trivial⟩ trivial (by decide) ?_
          ·
            refine StepM.of rfl (fun f w' hb hp K hK => ?_)
            have HSB := HS
            replace HS := Lib.hid (HS.out.below hb)
            simp only [fillA, fillT, List.foldl_cons, List.foldl_nil, Act.put, nb4, nb5, nb6]
            have a37 := HS.out.p 8 _ _ rfl
            go_simp
            go_wp2_with (go_at_call 44; (with_reducible refine (only_any V _ _ a37).mono ?_); rintro e w33 ⟨v33, rfl, ⟨z33a, z33b, rfl, hv33, hw33⟩, hb33⟩)
            exact hK.out _ _ (.agg #[.bool z33a.b, .slice z33a.a z33a.n z33a.c, .slice z33a.d z33a.m z33a.e, .bool z33b.b, .slice z33b.a z33b.n z33b.c, .slice z33b.d z33b.m z33b.e]) (by simp only [fillA, fillT, List.foldl_cons, List.foldl_nil, Act.put, nb4, nb5, nb6, nb1, nb2, nb3]) ⟨z33a, z33b, rfl, hv33, hw33⟩ (fun h => absurd h (by decide)) hb33
          ·
            refine StepM.of rfl (fun f w' hb hp K hK => ?_)
            have HSB := HS
            replace HS := Lib.hid (HS.out.below hb)
            simp only [fillA, fillT, List.foldl_cons, List.foldl_nil, Act.put, nb4, nb5, nb6]
            have a38 := HS.out.p 3 _ _ rfl
            have a39 := HS.out.p 2 _ _ rfl
            have a40 := HS.out.p 1 _ _ rfl
            have a41 := HS.out.p 0 _ _ rfl
            go_simp
            go_wp2_with (go_at_call 69; (with_reducible refine (rsub_any p0 p1 r0 r1 _ _ _ (rngP a38 a39) (rngP a40 a41) (szR_mono SQ0.out (by omega)) (szR_mono SQ1.out (by omega)) (szR_mono SP0.out (by omega)) (szR_mono SP1.out (by omega))).mono ?_); rintro e w34 ⟨v34, rfl, ⟨z34a, z34b, rfl, hv34, hw34⟩, hb34⟩)
            exact hK.out _ _ (.agg #[.bool z34a.b, .slice z34a.a z34a.n z34a.c, .slice z34a.d z34a.m z34a.e, .bool z34b.b, .slice z34b.a z34b.n z34b.c, .slice z34b.d z34b.m z34b.e]) (by simp only [fillA, fillT, List.foldl_cons, List.foldl_nil, Act.put, nb4, nb5, nb6, nb1, nb2, nb3]) ⟨z34a, z34b, rfl, hv34, hw34⟩ (fun h => absurd h (by decide)) hb34
          ·
            refine StepM.of rfl (fun f w' hb hp K hK => ?_)
            obtain ⟨z33a, z33b, e2, h2_0, h2_1⟩ : ∃ z33a z33b : R3, f 43 = .agg #[.bool z33a.b, .slice z33a.a z33a.n z33a.c, .slice z33a.d z33a.m z33a.e, .bool z33b.b, .slice z33b.a z33b.n z33b.c, .slice z33b.d z33b.m z33b.e] ∧ Fr true w' z33a.val V ∧ Fr true w' z33b.val V := hp 2 (by decide)
            obtain ⟨z34a, z34b, e12, h12_0, h12_1⟩ : ∃ z34a z34b : R3, f 53 = .agg #[.bool z34a.b, .slice z34a.a z34a.n z34a.c, .slice z34a.d z34a.m z34a.e, .bool z34b.b, .slice z34b.a z34b.n z34b.c, .slice z34b.d z34b.m z34b.e] ∧ Fr true w' z34a.val (p0 + -r1) ∧ Fr true w' z34b.val (p1 + -r0) := hp 12 (by decide)
            have HSB := HS
            replace HS := Lib.hid (HS.out.below hb)
            replace HS := Lib.hid (HS.out.addP h2_0)
            replace HS := Lib.hid (HS.out.addP h2_1)
            replace HS := Lib.hid (HS.out.addP h12_0)
            replace HS := Lib.hid (HS.out.addP h12_1)
            simp only [fillA, fillT, List.foldl_cons, List.foldl_nil, Act.put, nb4, nb5, nb6, e2, e12]
            have a42 := HS.out.p 3 _ _ rfl
            have a43 := HS.out.p 2 _ _ rfl
            have a44 := HS.out.p 1 _ _ rfl
            have a45 := HS.out.p 0 _ _ rfl
            go_simp
            go_wp2_with (go_at_call 68; (with_reducible refine (rmul_any V V (p0 + -r1) (p1 + -r0) _ _ _ (rngP a42 a43) (rngP a44 a45) (szR_mono SV.out (by omega)) (szR_mono SV.out (by omega)) (szR_mono (szR_add SQ0.out (szR_neg SP1.out)) (by omega)) (szR_mono (szR_add SQ1.out (szR_neg SP0.out)) (by omega))).mono ?_); rintro e w35 ⟨v35, rfl, ⟨z35a, z35b, rfl, hv35, hw35⟩, hb35⟩)
            exact hK.out _ _ (.agg #[.bool z35a.b, .slice z35a.a z35a.n z35a.c, .slice z35a.d z35a.m z35a.e, .bool z35b.b, .slice z35b.a z35b.n z35b.c, .slice z35b.d z35b.m z35b.e]) (by simp only [fillA, fillT, List.foldl_cons, List.foldl_nil, Act.put, nb4, nb5, nb6, nb1, nb2, nb3, e2, e12]) ⟨z35a, z35b, rfl, hv35, hw35⟩ (fun h => absurd h (by decide)) hb35
          ·
            refine StepM.of rfl (fun f w' hb hp K hK => ?_)
            obtain ⟨z35a, z35b, e13, h13_0, h13_1⟩ : ∃ z35a z35b : R3, f 54 = .agg #[.bool z35a.b, .slice z35a.a z35a.n z35a.c, .slice z35a.d z35a.m z35a.e, .bool z35b.b, .slice z35b.a z35b.n z35b.c, .slice z35b.d z35b.m z35b.e] ∧ Fr true w' z35a.val (loQ (loQ (V * (p0 + -r1)) (V * (p1 + -r0))) (loQ (V * (p0 + -r1)) (V * (p1 + -r0)))) ∧ Fr true w' z35b.val (hiQ (hiQ (V * (p0 + -r1)) (V * (p1 + -r0))) (hiQ (V * (p0 + -r1)) (V * (p1 + -r0)))) := hp 13 (by decide)
            have HSB := HS
            replace HS := Lib.hid (HS.out.below hb)
            replace HS := Lib.hid (HS.out.addP h13_0)
            replace HS := Lib.hid (HS.out.addP h13_1)
            simp only [fillA, fillT, List.foldl_cons, List.foldl_nil, Act.put, nb4, nb5, nb6, e13]
            have a46 := HS.out.p 7 _ _ rfl
            have a47 := HS.out.p 6 _ _ rfl
            have a48 := HS.out.p 1 _ _ rfl
            have a49 := HS.out.p 0 _ _ rfl
            go_simp
            go_wp2_with (go_at_call 67; (with_reducible refine (radd_any f0 f1 (loQ (loQ (V * (p0 + -r1)) (V * (p1 + -r0))) (loQ (V * (p0 + -r1)) (V * (p1 + -r0)))) (hiQ (hiQ (V * (p0 + -r1)) (V * (p1 + -r0))) (hiQ (V * (p0 + -r1)) (V * (p1 + -r0)))) _ _ _ (rngP a46 a47) (rngP a48 a49) (szR_mono SF0.out (by omega)) (szR_mono SF1.out (by omega)) (szR_mono (loN_sz (loN_sz (szR_mul SV0.out (szR_add SQ0.out (szR_neg SP1.out))) (szR_mul SV0.out (szR_add SQ1.out (szR_neg SP0.out)))) (loN_sz (szR_mul SV0.out (szR_add SQ0.out (szR_neg SP1.out))) (szR_mul SV0.out (szR_add SQ1.out (szR_neg SP0.out))))) (by omega)) (szR_mono (hiN_sz (hiN_sz (szR_mul SV0.out (szR_add SQ0.out (szR_neg SP1.out))) (szR_mul SV0.out (szR_add SQ1.out (szR_neg SP0.out)))) (hiN_sz (szR_mul SV0.out (szR_add SQ0.out (szR_neg SP1.out))) (szR_mul SV0.out (szR_add SQ1.out (szR_neg SP0.out))))) (by omega))).mono ?_); rintro e w36 ⟨v36, rfl, ⟨z36a, z36b, rfl, hv36, hw36⟩, hb36⟩)
            exact hK.out _ _ (.agg #[.bool z36a.b, .slice z36a.a z36a.n z36a.c, .slice z36a.d z36a.m z36a.e, .bool z36b.b, .slice z36b.a z36b.n z36b.c, .slice z36b.d z36b.m z36b.e]) (by simp only [fillA, fillT, List.foldl_cons, List.foldl_nil, Act.put, nb4, nb5, nb6, nb1, nb2, nb3, e13]) ⟨z36a, z36b, rfl, hv36, hw36⟩ (fun h => absurd h (by decide)) hb36
          ·
            refine StepM.of rfl (fun f w' hb hp K hK => ?_)
            have HSB := HS
            replace HS := Lib.hid (HS.out.below hb)
            simp only [fillA, fillT, List.foldl_cons, List.foldl_nil, Act.put, nb4, nb5, nb6]
            go_simp
            exact hK.out _ _ (.pointer (some ⟨w'.heap.size, 0, none⟩)) (by simp only [fillA, fillT, List.foldl_cons, List.foldl_nil, Act.put, nb4, nb5, nb6, nb1, nb2, nb3]) ⟨_, rfl, hb.size, blk_new _ _ _⟩ (fun _ => rfl) (below1 w' _)
          ·
            intro f wr10 hb hp hd
            obtain ⟨z33a, z33b, e2, h2_0, h2_1⟩ : ∃ z33a z33b : R3, f 43 = .agg #[.bool z33a.b, .slice z33a.a z33a.n z33a.c, .slice z33a.d z33a.m z33a.e, .bool z33b.b, .slice z33b.a z33b.n z33b.c, .slice z33b.d z33b.m z33b.e] ∧ Fr true wr10 z33a.val V ∧ Fr true wr10 z33b.val V := hp 2 (by decide)
            obtain ⟨z34a, z34b, e12, h12_0, h12_1⟩ : ∃ z34a z34b : R3, f 53 = .agg #[.bool z34a.b, .slice z34a.a z34a.n z34a.c, .slice z34a.d z34a.m z34a.e, .bool z34b.b, .slice z34b.a z34b.n z34b.c, .slice z34b.d z34b.m z34b.e] ∧ Fr true wr10 z34a.val (p0 + -r1) ∧ Fr true wr10 z34b.val (p1 + -r0) := hp 12 (by decide)
            obtain ⟨z35a, z35b, e13, h13_0, h13_1⟩ : ∃ z35a z35b : R3, f 54 = .agg #[.bool z35a.b, .slice z35a.a z35a.n z35a.c, .slice z35a.d z35a.m z35a.e, .bool z35b.b, .slice z35b.a z35b.n z35b.c, .slice z35b.d z35b.m z35b.e] ∧ Fr true wr10 z35a.val (loQ (loQ (V * (p0 + -r1)) (V * (p1 + -r0))) (loQ (V * (p0 + -r1)) (V * (p1 + -r0)))) ∧ Fr true wr10 z35b.val (hiQ (hiQ (V * (p0 + -r1)) (V * (p1 + -r0))) (hiQ (V * (p0 + -r1)) (V * (p1 + -r0)))) := hp 13 (by decide)
            obtain ⟨z36a, z36b, e14, h14_0, h14_1⟩ : ∃ z36a z36b : R3, f 55 = .agg #[.bool z36a.b, .slice z36a.a z36a.n z36a.c, .slice z36a.d z36a.m z36a.e, .bool z36b.b, .slice z36b.a z36b.n z36b.c, .slice z36b.d z36b.m z36b.e] ∧ Fr true wr10 z36a.val (f0 + (loQ (loQ (V * (p0 + -r1)) (V * (p1 + -r0))) (loQ (V * (p0 + -r1)) (V * (p1 + -r0))))) ∧ Fr true wr10 z36b.val (f1 + (hiQ (hiQ (V * (p0 + -r1)) (V * (p1 + -r0))) (hiQ (V * (p0 + -r1)) (V * (p1 + -r0))))) := hp 14 (by decide)
            obtain ⟨Br10_15, e15, g15, k15⟩ : ∃ Br10_15 : Nat, f 11 = .pointer (some ⟨Br10_15, 0, none⟩) ∧ W9.drew.heap.size ≤ Br10_15 ∧ wr10.heap[Br10_15]? = some (.cells #[.bool false, .slice none 0 0, .slice none 0 0, .bool false, .slice none 0 0, .slice none 0 0] 36 (0, 0)) := hp 15 (by decide)
            replace hh := Sx.below hh hb
            have hlt := HS.out.lt
            replace HS := Lib.hid (HS.out.below hb)
            replace HS := Lib.hid (HS.out.addP h2_0)
            replace HS := Lib.hid (HS.out.addP h2_1)
            replace HS := Lib.hid (HS.out.addP h12_0)
            replace HS := Lib.hid (HS.out.addP h12_1)
            replace HS := Lib.hid (HS.out.addP h13_0)
            replace HS := Lib.hid (HS.out.addP h13_1)
            replace HS := Lib.hid (HS.out.addP h14_0)
            replace HS := Lib.hid (HS.out.addP h14_1)
            have hge15 : w.heap.size ≤ Br10_15 := Nat.le_trans HSW.out g15
            have hne15 : ∀ b, b ∈ [(wr8.heap.size, arr6 Fx Fy, 36), (w4.heap.size, arr6 m1 m2, 36), (w.heap.size + 1, #[.bool false, .slice none 0 0, .slice none 0 0, .bool false, .slice none 0 0, .slice none 0 0], 36), (w.heap.size, x1.arr, 34)] → b.1 ≠ Br10_15 := by
              intro b hb
              simp only [List.mem_cons, List.not_mem_nil, or_false] at hb
              rcases hb with rfl | rfl | rfl | rfl
              · have := hlt _ (List.mem_iff_getElem?.2 ⟨0, rfl⟩); dsimp only at this ⊢; omega
              · have := hlt _ (List.mem_iff_getElem?.2 ⟨1, rfl⟩); dsimp only at this ⊢; omega
              · have := hlt _ (List.mem_iff_getElem?.2 ⟨2, rfl⟩); dsimp only at this ⊢; omega
              · have := hlt _ (List.mem_iff_getElem?.2 ⟨3, rfl⟩); dsimp only at this ⊢; omega
            replace HS := Lib.hid (HS.out.addBox k15 hge15 (by rfl) hne15)
            simp only [fillA, fillT, List.foldl_cons, List.foldl_nil, Act.put, nb4, nb5, nb6, e2, e12, e13, e14, e15]
            clear hp hd hb hlt e2 e12 e13 e14 e15
            refine rdA (i := 16) rfl (fun K hK => ?_)
            have b4e := (HS.out.at 0 _ _ _ rfl)
            have b4c0 := blk_cell b4e 0 (.bool false) rfl
            have b4c1 := blk_cell b4e 1 (.slice none 0 0) rfl
            have b4c2 := blk_cell b4e 2 (.slice none 0 0) rfl
            have b4c3 := blk_cell b4e 3 (.bool false) rfl
            have b4c4 := blk_cell b4e 4 (.slice none 0 0) rfl
            have b4c5 := blk_cell b4e 5 (.slice none 0 0) rfl
            have b4f0 := blk_frozen b4e 0
            have b4f1 := blk_frozen b4e 1
            have b4f2 := blk_frozen b4e 2
            have b4f3 := blk_frozen b4e 3
            have b4f4 := blk_frozen b4e 4
            have b4f5 := blk_frozen b4e 5
            have b4l := blk_lt b4e
            clear b4e
            go_simp
            refine hK.out _ _ ((((HS.out).st_RR 0 r30 r30 z36a z36b rfl)).erase 0) (fun hh => ?_)
            clear hK K b4c0 b4c1 b4c2 b4c3 b4c4 b4c5 b4f0 b4f1 b4f2 b4f3 b4f4 b4f5 b4l
            try simp only [nb1, nb2, nb3, Act.put, nb4, nb5, nb6]
            generalize hW50 : ((((((wr10).setCell _ _).setCell _ _).setCell _ _).setCell _ _).setCell _ _).setCell _ _ = W50 at *
            replace HS : Hid (Sx w W50 [(Br10_15, arr6 z36a z36b, 36), (wr8.heap.size, arr6 Fx Fy, 36), (w4.heap.size, arr6 m1 m2, 36), (w.heap.size + 1, #[.bool false, .slice none 0 0, .slice none 0 0, .bool false, .slice none 0 0, .slice none 0 0], 36), (w.heap.size, x1.arr, 34)] [(true, z36b.val, (f1 + (hiQ (hiQ (V * (p0 + -r1)) (V * (p1 + -r0))) (hiQ (V * (p0 + -r1)) (V * (p1 + -r0)))))), (true, z36a.val, (f0 + (loQ (loQ (V * (p0 + -r1)) (V * (p1 + -r0))) (loQ (V * (p0 + -r1)) (V * (p1 + -r0)))))), (true, z35b.val, (hiQ (hiQ (V * (p0 + -r1)) (V * (p1 + -r0))) (hiQ (V * (p0 + -r1)) (V * (p1 + -r0))))), (true, z35a.val, (loQ (loQ (V * (p0 + -r1)) (V * (p1 + -r0))) (loQ (V * (p0 + -r1)) (V * (p1 + -r0))))), (true, z34b.val, (p1 + -r0)), (true, z34a.val, (p0 + -r1)), (true, z33b.val, V), (true, z33a.val, V), (true, Py.val, r1), (true, Px.val, r0), (true, Qy.val, p1), (true, Qx.val, p0), (true, Fy.val, f1), (true, Fx.val, f0), (true, m2.val, (lkUp V ps fs i).2.1), (true, m1.val, (lkUp V ps fs i).1), (true, x1.val, V)]) := by subst hW50; exact (HS.out).st_RR 0 r30 r30 z36a z36b rfl
            clear hW50
            refine wpAnyH_done (by kernel_rfl) ?_ _
            by_cases t51p : (i : Int) > 0
            ·
              have t51 : decide ((i : Int) > 0) = true := decide_eq_true t51p
              have T51 := Lib.hid t51p
              clear t51p
              have hpp := T51.out
              generalize (f0 + (loQ (loQ (V * (p0 + -r1)) (V * (p1 + -r0))) (loQ (V * (p0 + -r1)) (V * (p1 + -r0))))) = gL at *
              generalize (f1 + (hiQ (hiQ (V * (p0 + -r1)) (V * (p1 + -r0))) (hiQ (V * (p0 + -r1)) (V * (p1 + -r0))))) = gH at *
              have HPS : Hid (0 < i) := by show _ < _; omega
              have tp1 : decide ((i : Int) > 0) = true := decide_eq_true (by omega)
              have tp2 : decide (0 < i) = true := decide_eq_true (by omega)
              have tp3 : ((i : Int) == 0) = false := beq_eq_false_iff_ne.2 (by omega)
              have tp4 : (i == 0) = false := beq_eq_false_iff_ne.2 (by omega)
              clear hpp
              obtain ⟨b4c0, b4c1, b4c2, b4c3, b4c4, b4c5, b4f0, b4f1, b4f2, b4f3, b4f4, b4f5⟩ := fac6 (x := z36a) (y := z36b) (HS.out.at 0 _ _ _ rfl)
              have b4l := blk_lt (HS.out.at 0 _ _ _ rfl)
              obtain ⟨b2c0, b2c1, b2c2, b2c3, b2c4, b2c5, b2f0, b2f1, b2f2, b2f3, b2f4, b2f5⟩ := fac6 (x := m1) (y := m2) (HS.out.at 2 _ _ _ rfl)
              have b2l := blk_lt (HS.out.at 2 _ _ _ rfl)
              have bn4_2 := HS.out.ne 0 2 rfl rfl (by decide)
              go_wp2_with fail
              clear b4c0 b4c1 b4c2 b4c3 b4c4 b4c5 b4f0 b4f1 b4f2 b4f3 b4f4 b4f5 b4l b2c0 b2c1 b2c2 b2c3 b2c4 b2c5 b2f0 b2f1 b2f2 b2f3 b2f4 b2f5 b2l bn4_2
              by_cases t52p : cmpR (hiQ gL ((lkUp V ps fs i).1)) (loQ gH ((lkUp V ps fs i).2.1)) > 0
              ·
                have t52 : decide (cmpR (hiQ gL ((lkUp V ps fs i).1)) (loQ gH ((lkUp V ps fs i).2.1)) > 0) = true := decide_eq_true t52p
                have T52 := Lib.hid t52p
                clear t52p
                refine (rmeet_no gL gH ((lkUp V ps fs i).1) ((lkUp V ps fs i).2.1) _ _ _ (rngP (HS.out.p 1 _ _ rfl) (HS.out.p 0 _ _ rfl)) (rngP (HS.out.p 15 _ _ rfl) (HS.out.p 14 _ _ rfl)) (szR_mono (by rw [← HXL.out]; exact HLS.out.1) (by omega)) (szR_mono (by rw [← HXH.out]; exact HLS.out.2) (by omega)) (szR_mono HUS.out.1 (by omega)) (szR_mono HUS.out.2 (by omega)) (by have := T52.out; omega)).mono ?_
                rintro e w53 ⟨v53, rfl, ⟨z53a, z53b, rfl, hv53, hw53⟩, hb53⟩
                replace HS := Lib.hid (HS.out.below hb53)
                clear hb53
                replace HS := Lib.hid (HS.out.addP hv53)
                clear hv53
                replace HS := Lib.hid (HS.out.addP hw53)
                clear hw53
                obtain ⟨b4c0, b4c1, b4c2, b4c3, b4c4, b4c5, b4f0, b4f1, b4f2, b4f3, b4f4, b4f5⟩ := fac6 (x := z36a) (y := z36b) (HS.out.at 0 _ _ _ rfl)
                have b4l := blk_lt (HS.out.at 0 _ _ _ rfl)
                have b1e := (HS.out.at 3 _ _ _ rfl)
                have b1c0 := blk_cell b1e 0 (.bool false) rfl
                have b1c1 := blk_cell b1e 1 (.slice none 0 0) rfl
                have b1c2 := blk_cell b1e 2 (.slice none 0 0) rfl
                have b1c3 := blk_cell b1e 3 (.bool false) rfl
                have b1c4 := blk_cell b1e 4 (.slice none 0 0) rfl
                have b1c5 := blk_cell b1e 5 (.slice none 0 0) rfl
                have b1f0 := blk_frozen b1e 0
                have b1f1 := blk_frozen b1e 1
                have b1f2 := blk_frozen b1e 2
                have b1f3 := blk_frozen b1e 3
                have b1f4 := blk_frozen b1e 4
                have b1f5 := blk_frozen b1e 5
                have b1l := blk_lt b1e
                clear b1e
                have bn4_1 := HS.out.ne 0 3 rfl rfl (by decide)
                go_wp2_with fail
                clear b4c0 b4c1 b4c2 b4c3 b4c4 b4c5 b4f0 b4f1 b4f2 b4f3 b4f4 b4f5 b4l b1c0 b1c1 b1c2 b1c3 b1c4 b1c5 b1f0 b1f1 b1f2 b1f3 b1f4 b1f5 b1l bn4_1
                generalize hW54 : ((((((((((((w53).setCell _ _).setCell _ _).setCell _ _).setCell _ _).setCell _ _).setCell _ _).setCell _ _).setCell _ _).setCell _ _).setCell _ _).setCell _ _).setCell _ _ = W54 at *
                replace HS : Hid (Sx w W54 [(Br10_15, arr6 z53a z53b, 36), (wr8.heap.size, arr6 Fx Fy, 36), (w4.heap.size, arr6 m1 m2, 36), (w.heap.size + 1, #[.bool false, .slice none 0 0, .slice none 0 0, .bool false, .slice none 0 0, .slice none 0 0], 36), (w.heap.size, x1.arr, 34)] [(true, z53b.val, 0), (true, z53a.val, 0), (true, z36b.val, gH), (true, z36a.val, gL), (true, z35b.val, (hiQ (hiQ (V * (p0 + -r1)) (V * (p1 + -r0))) (hiQ (V * (p0 + -r1)) (V * (p1 + -r0))))), (true, z35a.val, (loQ (loQ (V * (p0 + -r1)) (V * (p1 + -r0))) (loQ (V * (p0 + -r1)) (V * (p1 + -r0))))), (true, z34b.val, (p1 + -r0)), (true, z34a.val, (p0 + -r1)), (true, z33b.val, V), (true, z33a.val, V), (true, Py.val, r1), (true, Px.val, r0), (true, Qy.val, p1), (true, Qx.val, p0), (true, Fy.val, f1), (true, Fx.val, f0), (true, m2.val, (lkUp V ps fs i).2.1), (true, m1.val, (lkUp V ps fs i).1), (true, x1.val, V)]) := by subst hW54; exact ((HS.out).st_RR 0 z36a z36b z53a z53b rfl).st_RR 3 r30 r30 r30 r30 rfl
                clear hW54
                have HN : Hid (lkUp V ps fs (i + 1) = (0, 0, 5)) := by show _ = _; rw [lkUp_s HOK.out HPS.out, HXL.out, HXH.out]; unfold meetE; rw [if_pos (by have := T52.out; omega)]
                have HR : Hid (lkOf V ps fs = (0, 0, 5)) := by show _ = _; unfold lkOf; rw [if_neg (by have := HLN.out; omega), if_neg (by rw [← HC4.out]; have := T5.out; omega), lkUp_stay (i := i + 1) (by rw [HN.out]; decide) HLT.out, HN.out]
                have b1e := (HS.out.at 3 _ _ _ rfl)
                have b1c0 := blk_cell b1e 0 (.bool false) rfl
                have b1c1 := blk_cell b1e 1 (.slice none 0 0) rfl
                have b1c2 := blk_cell b1e 2 (.slice none 0 0) rfl
                have b1c3 := blk_cell b1e 3 (.bool false) rfl
                have b1c4 := blk_cell b1e 4 (.slice none 0 0) rfl
                have b1c5 := blk_cell b1e 5 (.slice none 0 0) rfl
                clear b1e
                refine bodyPost_ret (v := .tuple #[.agg #[.bool false, .slice none 0 0, .slice none 0 0, .bool false, .slice none 0 0, .slice none 0 0], .int .i64 5]) (by simp [results, Tryz.results17, go_sem, b1c0, b1c1, b1c2, b1c3, b1c4, b1c5]) rfl (by rw [HR.out]; exact ⟨_, rfl, (rngP (isRat_r30 _) (isRat_r30 _)), HS.out.bel⟩)
              ·
                have t52 : decide (cmpR (hiQ gL ((lkUp V ps fs i).1)) (loQ gH ((lkUp V ps fs i).2.1)) > 0) = false := decide_eq_false t52p
                have T52 := Lib.hid t52p
                clear t52p
                refine (rmeet_ok gL gH ((lkUp V ps fs i).1) ((lkUp V ps fs i).2.1) _ _ _ (rngP (HS.out.p 1 _ _ rfl) (HS.out.p 0 _ _ rfl)) (rngP (HS.out.p 15 _ _ rfl) (HS.out.p 14 _ _ rfl)) (szR_mono (by rw [← HXL.out]; exact HLS.out.1) (by omega)) (szR_mono (by rw [← HXH.out]; exact HLS.out.2) (by omega)) (szR_mono HUS.out.1 (by omega)) (szR_mono HUS.out.2 (by omega)) (by have := T52.out; omega)).mono ?_
                rintro e w55 ⟨v55, rfl, ⟨z55a, z55b, rfl, hv55, hw55⟩, hb55⟩
                replace HS := Lib.hid (HS.out.below hb55)
                clear hb55
                replace HS := Lib.hid (HS.out.addP hv55)
                clear hv55
                replace HS := Lib.hid (HS.out.addP hw55)
                clear hw55
                obtain ⟨b4c0, b4c1, b4c2, b4c3, b4c4, b4c5, b4f0, b4f1, b4f2, b4f3, b4f4, b4f5⟩ := fac6 (x := z36a) (y := z36b) (HS.out.at 0 _ _ _ rfl)
                have b4l := blk_lt (HS.out.at 0 _ _ _ rfl)
                obtain ⟨b2c0, b2c1, b2c2, b2c3, b2c4, b2c5, b2f0, b2f1, b2f2, b2f3, b2f4, b2f5⟩ := fac6 (x := m1) (y := m2) (HS.out.at 2 _ _ _ rfl)
                have b2l := blk_lt (HS.out.at 2 _ _ _ rfl)
                have bn4_2 := HS.out.ne 0 2 rfl rfl (by decide)
                go_wp2_with fail
                clear b4c0 b4c1 b4c2 b4c3 b4c4 b4c5 b4f0 b4f1 b4f2 b4f3 b4f4 b4f5 b4l b2c0 b2c1 b2c2 b2c3 b2c4 b2c5 b2f0 b2f1 b2f2 b2f3 b2f4 b2f5 b2l bn4_2
                generalize hW56 : ((((((((((((w55).setCell _ _).setCell _ _).setCell _ _).setCell _ _).setCell _ _).setCell _ _).setCell _ _).setCell _ _).setCell _ _).setCell _ _).setCell _ _).setCell _ _ = W56 at *
                replace HS : Hid (Sx w W56 [(Br10_15, arr6 z55a z55b, 36), (wr8.heap.size, arr6 Fx Fy, 36), (w4.heap.size, arr6 z55a z55b, 36), (w.heap.size + 1, #[.bool false, .slice none 0 0, .slice none 0 0, .bool false, .slice none 0 0, .slice none 0 0], 36), (w.heap.size, x1.arr, 34)] [(true, z55b.val, (loQ gH ((lkUp V ps fs i).2.1))), (true, z55a.val, (hiQ gL ((lkUp V ps fs i).1))), (true, z36b.val, gH), (true, z36a.val, gL), (true, z35b.val, (hiQ (hiQ (V * (p0 + -r1)) (V * (p1 + -r0))) (hiQ (V * (p0 + -r1)) (V * (p1 + -r0))))), (true, z35a.val, (loQ (loQ (V * (p0 + -r1)) (V * (p1 + -r0))) (loQ (V * (p0 + -r1)) (V * (p1 + -r0))))), (true, z34b.val, (p1 + -r0)), (true, z34a.val, (p0 + -r1)), (true, z33b.val, V), (true, z33a.val, V), (true, Py.val, r1), (true, Px.val, r0), (true, Qy.val, p1), (true, Qx.val, p0), (true, Fy.val, f1), (true, Fx.val, f0), (true, m2.val, (lkUp V ps fs i).2.1), (true, m1.val, (lkUp V ps fs i).1), (true, x1.val, V)]) := by subst hW56; exact ((HS.out).st_RR 0 z36a z36b z55a z55b rfl).st_RR 2 m1 m2 z55a z55b rfl
                clear hW56
                try rw [show (i1 : Int) = (i : Int) + 1 from by have := HI1.out; omega]
                have HN : Hid (lkUp V ps fs (i + 1) = ((hiQ gL ((lkUp V ps fs i).1)), (loQ gH ((lkUp V ps fs i).2.1)), 0)) := by show _ = _; rw [lkUp_s HOK.out HPS.out, HXL.out, HXH.out]; unfold meetE; rw [if_neg (by have := T52.out; omega)]
                have EQ1 : Hid ((lkUp V ps fs (i + 1)).1 = (hiQ gL ((lkUp V ps fs i).1))) := by show _ = _; rw [HN.out]
                have EQ2 : Hid ((lkUp V ps fs (i + 1)).2.1 = (loQ gH ((lkUp V ps fs i).2.1))) := by show _ = _; rw [HN.out]
                exact ⟨⟨i + 1, z55a, z55b, by have := HLT.out; omega, by go_num, (by show _ = _; rw [HN.out]), Lib.hid ((((((HS.out).erase 0).erase 0).addP (HS.out.p 18 _ _ rfl)).addP (by rw [EQ1.out]; exact (HS.out.p 1 _ _ rfl))).addP (by rw [EQ2.out]; exact (HS.out.p 0 _ _ rfl)))⟩, meas_up HLT.out⟩
            ·
              have t51 : decide ((i : Int) > 0) = false := decide_eq_false t51p
              have T51 := Lib.hid t51p
              clear t51p
              have hpp := T51.out
              generalize (f0 + (loQ (loQ (V * (p0 + -r1)) (V * (p1 + -r0))) (loQ (V * (p0 + -r1)) (V * (p1 + -r0))))) = gL at *
              generalize (f1 + (hiQ (hiQ (V * (p0 + -r1)) (V * (p1 + -r0))) (hiQ (V * (p0 + -r1)) (V * (p1 + -r0))))) = gH at *
              have HPZ : Hid (i = 0) := by show _ = _; omega
              have tp1 : decide ((i : Int) > 0) = false := decide_eq_false (by omega)
              have tp2 : decide (0 < i) = false := decide_eq_false (by omega)
              have tp3 : ((i : Int) == 0) = true := beq_iff_eq.2 (by omega)
              have tp4 : (i == 0) = true := beq_iff_eq.2 (by omega)
              clear hpp
              obtain ⟨b4c0, b4c1, b4c2, b4c3, b4c4, b4c5, b4f0, b4f1, b4f2, b4f3, b4f4, b4f5⟩ := fac6 (x := z36a) (y := z36b) (HS.out.at 0 _ _ _ rfl)
              have b4l := blk_lt (HS.out.at 0 _ _ _ rfl)
              obtain ⟨b2c0, b2c1, b2c2, b2c3, b2c4, b2c5, b2f0, b2f1, b2f2, b2f3, b2f4, b2f5⟩ := fac6 (x := m1) (y := m2) (HS.out.at 2 _ _ _ rfl)
              have b2l := blk_lt (HS.out.at 2 _ _ _ rfl)
              have bn4_2 := HS.out.ne 0 2 rfl rfl (by decide)
              go_wp2_with fail
              clear b4c0 b4c1 b4c2 b4c3 b4c4 b4c5 b4f0 b4f1 b4f2 b4f3 b4f4 b4f5 b4l b2c0 b2c1 b2c2 b2c3 b2c4 b2c5 b2f0 b2f1 b2f2 b2f3 b2f4 b2f5 b2l bn4_2
              generalize hW57 : ((((((W50).setCell _ _).setCell _ _).setCell _ _).setCell _ _).setCell _ _).setCell _ _ = W57 at *
              replace HS : Hid (Sx w W57 [(Br10_15, arr6 z36a z36b, 36), (wr8.heap.size, arr6 Fx Fy, 36), (w4.heap.size, arr6 z36a z36b, 36), (w.heap.size + 1, #[.bool false, .slice none 0 0, .slice none 0 0, .bool false, .slice none 0 0, .slice none 0 0], 36), (w.heap.size, x1.arr, 34)] [(true, z36b.val, gH), (true, z36a.val, gL), (true, z35b.val, (hiQ (hiQ (V * (p0 + -r1)) (V * (p1 + -r0))) (hiQ (V * (p0 + -r1)) (V * (p1 + -r0))))), (true, z35a.val, (loQ (loQ (V * (p0 + -r1)) (V * (p1 + -r0))) (loQ (V * (p0 + -r1)) (V * (p1 + -r0))))), (true, z34b.val, (p1 + -r0)), (true, z34a.val, (p0 + -r1)), (true, z33b.val, V), (true, z33a.val, V), (true, Py.val, r1), (true, Px.val, r0), (true, Qy.val, p1), (true, Qx.val, p0), (true, Fy.val, f1), (true, Fx.val, f0), (true, m2.val, (lkUp V ps fs i).2.1), (true, m1.val, (lkUp V ps fs i).1), (true, x1.val, V)]) := by subst hW57; exact (HS.out).st_RR 2 m1 m2 z36a z36b rfl
              clear hW57
              try rw [show (i1 : Int) = (i : Int) + 1 from by have := HI1.out; omega]
              have HN : Hid (lkUp V ps fs (i + 1) = (gL, gH, 0)) := by show _ = _; rw [← HXL.out, ← HXH.out, HPZ.out]; rfl
              have EQ1 : Hid ((lkUp V ps fs (i + 1)).1 = gL) := by show _ = _; rw [HN.out]
              have EQ2 : Hid ((lkUp V ps fs (i + 1)).2.1 = gH) := by show _ = _; rw [HN.out]
              exact ⟨⟨i + 1, z36a, z36b, by have := HLT.out; omega, by go_num, (by show _ = _; rw [HN.out]), Lib.hid ((((((HS.out).erase 0).erase 0).addP (HS.out.p 16 _ _ rfl)).addP (by rw [EQ1.out]; exact (HS.out.p 1 _ _ rfl))).addP (by rw [EQ2.out]; exact (HS.out.p 0 _ _ rfl)))⟩, meas_up HLT.out⟩
        ·
          obtain rfl : i = fs.length := by omega
          have HR : Hid (lkOf V ps fs = ((lkUp V ps fs fs.length).1, (lkUp V ps fs fs.length).2.1, 0)) := by show _ = _; unfold lkOf; rw [if_neg (by have := HLN.out; omega), if_neg (by rw [← HC4.out]; have := T5.out; omega), ← HOK.out]
          obtain ⟨b2c0, b2c1, b2c2, b2c3, b2c4, b2c5, b2f0, b2f1, b2f2, b2f3, b2f4, b2f5⟩ := fac6 (x := m1) (y := m2) (HS.out.at 0 _ _ _ rfl)
          have b2l := blk_lt (HS.out.at 0 _ _ _ rfl)
          have b1e := (HS.out.at 1 _ _ _ rfl)
          have b1c0 := blk_cell b1e 0 (.bool false) rfl
          have b1c1 := blk_cell b1e 1 (.slice none 0 0) rfl
          have b1c2 := blk_cell b1e 2 (.slice none 0 0) rfl
          have b1c3 := blk_cell b1e 3 (.bool false) rfl
          have b1c4 := blk_cell b1e 4 (.slice none 0 0) rfl
          have b1c5 := blk_cell b1e 5 (.slice none 0 0) rfl
          have b1f0 := blk_frozen b1e 0
          have b1f1 := blk_frozen b1e 1
          have b1f2 := blk_frozen b1e 2
          have b1f3 := blk_frozen b1e 3
          have b1f4 := blk_frozen b1e 4
          have b1f5 := blk_frozen b1e 5
          have b1l := blk_lt b1e
          clear b1e
          go_wp2_with fail
          clear b2c0 b2c1 b2c2 b2c3 b2c4 b2c5 b2f0 b2f1 b2f2 b2f3 b2f4 b2f5 b2l b1c0 b1c1 b1c2 b1c3 b1c4 b1c5 b1f0 b1f1 b1f2 b1f3 b1f4 b1f5 b1l
          generalize hW58 : ((((((wr8).setCell _ _).setCell _ _).setCell _ _).setCell _ _).setCell _ _).setCell _ _ = W58 at *
          replace HS : Hid (Sx w W58 [(w4.heap.size, arr6 m1 m2, 36), (w.heap.size + 1, arr6 m1 m2, 36), (w.heap.size, x1.arr, 34)] [(true, m2.val, (lkUp V ps fs fs.length).2.1), (true, m1.val, (lkUp V ps fs fs.length).1), (true, x1.val, V)]) := by subst hW58; exact (HS.out).st_RR 1 r30 r30 m1 m2 rfl
          clear hW58
          obtain ⟨b1c0, b1c1, b1c2, b1c3, b1c4, b1c5, _⟩ := fac6 (x := m1) (y := m2) (HS.out.at 1 _ _ _ rfl)
          refine bodyPost_ret (v := .tuple #[.agg #[.bool m1.b, .slice m1.a m1.n m1.c, .slice m1.d m1.m m1.e, .bool m2.b, .slice m2.a m2.n m2.c, .slice m2.d m2.m m2.e], .int .i64 0]) (by simp [results, Tryz.results17, go_sem, b1c0, b1c1, b1c2, b1c3, b1c4, b1c5]) rfl (by rw [HR.out]; exact ⟨_, rfl, (rngP (HS.out.p 1 _ _ rfl) (HS.out.p 0 _ _ rfl)), HS.out.bel⟩)
  ·
    have HR : Hid (lkOf V ps fs = (0, 0, 4)) := by show _ = _; unfold lkOf; rw [if_pos (by omega)]
    have t1 : decide ((fs.length : Int) < 1) = false := decide_eq_false (by omega)
    have t1b : decide (fs.length < 1) = false := decide_eq_false (by omega)
    have t2 : decide ((fs.length : Int) > 256) = false := decide_eq_false (by omega)
    have t2b : decide (256 < fs.length) = false := decide_eq_false (by omega)
    have t3 : ((ps.length : Int) != (fs.length : Int) + 1) = true := by simp; omega
    have t3b : (ps.length != fs.length + 1) = true := by simp; omega
    have t3c : ((ps.length : Int) == (fs.length : Int) + 1) = false := by simp; omega
    clear h1 h2 h3
    go_enter Tryz.func17, Tryz.ntmps17
    go_wp2_with fail
    generalize hW59 : ((w).alloc (.cells _ _)).alloc (.cells _ _) = W59 at *
    replace HS : Hid (Sx w W59 [(w.heap.size + 1, #[.bool false, .slice none 0 0, .slice none 0 0, .bool false, .slice none 0 0, .slice none 0 0], 36), (w.heap.size, x1.arr, 34)] [(true, x1.val, V)]) := by subst hW59; exact ((HS.out).alloc (B := w.heap.size) rfl (by rfl)).alloc (B := w.heap.size + 1) (by simp) (by rfl)
    clear hW59
    have b1e := (HS.out.at 0 _ _ _ rfl)
    have b1c0 := blk_cell b1e 0 (.bool false) rfl
    have b1c1 := blk_cell b1e 1 (.slice none 0 0) rfl
    have b1c2 := blk_cell b1e 2 (.slice none 0 0) rfl
    have b1c3 := blk_cell b1e 3 (.bool false) rfl
    have b1c4 := blk_cell b1e 4 (.slice none 0 0) rfl
    have b1c5 := blk_cell b1e 5 (.slice none 0 0) rfl
    clear b1e
    refine bodyPost_ret (v := .tuple #[.agg #[.bool false, .slice none 0 0, .slice none 0 0, .bool false, .slice none 0 0, .slice none 0 0], .int .i64 4]) (by simp [results, Tryz.results17, go_sem, b1c0, b1c1, b1c2, b1c3, b1c4, b1c5]) rfl (by rw [HR.out]; exact ⟨_, rfl, (rngP (isRat_r30 _) (isRat_r30 _)), HS.out.bel⟩)
end Go.Proofs.YthdgeindjphklaaGreat
