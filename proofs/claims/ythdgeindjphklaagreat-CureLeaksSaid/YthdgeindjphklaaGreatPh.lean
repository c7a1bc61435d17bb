/- Part h of the lemmas and walks. -/
import Derived.Test.YthdgeindjphklaaGreatPg

namespace Go.Proofs.YthdgeindjphklaaGreat
open Go.RowKit

set_option maxRecDepth 100000 in
set_option maxHeartbeats 4000000 in
theorem qsmul_any (a b c d : Rat) (vx vy : Value) (w : World) (hx : IsRngQ w vx a b) (hy : IsRngQ w vy c d) (sa : szR a 1000000000) (sb : szR b 1000000000) (sc : szR c 1000000000) (sd : szR d 1000000000) :
    Calls Tryz.prog 74 #[vx, vy] w (RetRngQ (loQ (loQ (a * c) (a * d)) (loQ (b * c) (b * d))) (hiQ (hiQ (a * c) (a * d)) (hiQ (b * c) (b * d))) w) := by
  obtain ⟨x1, x2, rfl, h1, h2⟩ := hx
  obtain ⟨y1, y2, rfl, h3, h4⟩ := hy
  have HS := Lib.hid (((((Sx.init w).addQ h1).addQ h2).addQ h3).addQ h4)
  have Sa := Lib.hid sa
  have Sb := Lib.hid sb
  have Sc := Lib.hid sc
  have Sd := Lib.hid sd
  clear h1 h2 h3 h4 sa sb sc sd
  go_enter Tryz.func74, Tryz.ntmps74
  go_wp2_with fail
  generalize hW1 : (((w).alloc (.cells _ _)).alloc (.cells _ _)).alloc (.cells _ _) = W1 at *
  replace HS : Hid (Sx w W1 [(w.heap.size + 2, #[.bool false, .slice none 0 0, .slice none 0 0, .bool false, .slice none 0 0, .slice none 0 0], 42), (w.heap.size + 1, arr6 y1 y2, 42), (w.heap.size, arr6 x1 x2, 42)] [(false, y2.val, d), (false, y1.val, c), (false, x2.val, b), (false, x1.val, a)]) := by subst hW1; exact (((HS.out).alloc (B := w.heap.size) rfl (by rfl)).alloc (B := w.heap.size + 1) (by simp) (by rfl)).alloc (B := w.heap.size + 2) (by simp) (by rfl)
  clear hW1
  refine wp_region_held_drew (S := (fun w' => Sx w w' [(w.heap.size + 2, #[.bool false, .slice none 0 0, .slice none 0 0, .bool false, .slice none 0 0, .slice none 0 0], 42), (w.heap.size + 1, arr6 y1 y2, 42), (w.heap.size, arr6 x1 x2, 42)] [])) (by kernel_rfl) ((HS.out.drew).bare) (fun hh => ?_)
  replace HS := Lib.hid HS.out.drew
  have HSW := Lib.hid HS.out.bel.size
  refine tkA (i := 0) (v := ?vpr2_0_k4) rfl (Or.inl ⟨by first | rfl | kernel_rfl, ?hypr2_0_k4⟩) (by assumption) ?repr2_0_k4
  case hypr2_0_k4 => (intro u hSu; (first | (go_simp; done) | (go_simp; with_reducible rfl)))
  try simp only [nb1, nb2, nb3, Act.put, nb4, nb5, nb6]
  refine tkA (i := 1) (v := ?vpr2_1_k6) rfl (Or.inl ⟨by first | rfl | kernel_rfl, ?hypr2_1_k6⟩) (by assumption) ?repr2_1_k6
  case hypr2_1_k6 => (intro u hSu; (try dsimp only at hSu); obtain ⟨qb0c0, qb0c1, qb0c2, qb0c3, qb0c4, qb0c5, _⟩ := fac6 (x := x1) (y := x2) (hSu.at 2 _ _ _ rfl); clear hSu; (first | (go_simp; done) | (go_simp; with_reducible rfl)))
  try simp only [nb1, nb2, nb3, Act.put, nb4, nb5, nb6]
  refine tkA (i := 2) (v := ?vpr2_2_k8) rfl (Or.inl ⟨by first | rfl | kernel_rfl, ?hypr2_2_k8⟩) (by assumption) ?repr2_2_k8
  case hypr2_2_k8 => (intro u hSu; (first | (go_simp; done) | (go_simp; with_reducible rfl)))
  try simp only [nb1, nb2, nb3, Act.put, nb4, nb5, nb6]
  refine tkA (i := 3) (v := ?vpr2_3_k10) rfl (Or.inl ⟨by first | rfl | kernel_rfl, ?hypr2_3_k10⟩) (by assumption) ?repr2_3_k10
  case hypr2_3_k10 => (intro u hSu; (try dsimp only at hSu); obtain ⟨qb1c0, qb1c1, qb1c2, qb1c3, qb1c4, qb1c5, _⟩ := fac6 (x := y1) (y := y2) (hSu.at 1 _ _ _ rfl); clear hSu; (first | (go_simp; done) | (go_simp; with_reducible rfl)))
  try simp only [nb1, nb2, nb3, Act.put, nb4, nb5, nb6]
  refine tkA (i := 6) (v := ?vpr2_6_k12) rfl (Or.inl ⟨by first | rfl | kernel_rfl, ?hypr2_6_k12⟩) (by assumption) ?repr2_6_k12
  case hypr2_6_k12 => (intro u hSu; (first | (go_simp; done) | (go_simp; with_reducible rfl)))
  try simp only [nb1, nb2, nb3, Act.put, nb4, nb5, nb6]
  refine tkA (i := 7) (v := ?vpr2_7_k14) rfl (Or.inl ⟨by first | rfl | kernel_rfl, ?hypr2_7_k14⟩) (by assumption) ?repr2_7_k14
  case hypr2_7_k14 => (intro u hSu; (try dsimp only at hSu); obtain ⟨qb0c0, qb0c1, qb0c2, qb0c3, qb0c4, qb0c5, _⟩ := fac6 (x := x1) (y := x2) (hSu.at 2 _ _ _ rfl); clear hSu; (first | (go_simp; done) | (go_simp; with_reducible rfl)))
  try simp only [nb1, nb2, nb3, Act.put, nb4, nb5, nb6]
  refine tkA (i := 8) (v := ?vpr2_8_k16) rfl (Or.inl ⟨by first | rfl | kernel_rfl, ?hypr2_8_k16⟩) (by assumption) ?repr2_8_k16
  case hypr2_8_k16 => (intro u hSu; (first | (go_simp; done) | (go_simp; with_reducible rfl)))
  try simp only [nb1, nb2, nb3, Act.put, nb4, nb5, nb6]
  refine tkA (i := 9) (v := ?vpr2_9_k18) rfl (Or.inl ⟨by first | rfl | kernel_rfl, ?hypr2_9_k18⟩) (by assumption) ?repr2_9_k18
  case hypr2_9_k18 => (intro u hSu; (try dsimp only at hSu); obtain ⟨qb1c0, qb1c1, qb1c2, qb1c3, qb1c4, qb1c5, _⟩ := fac6 (x := y1) (y := y2) (hSu.at 1 _ _ _ rfl); clear hSu; (first | (go_simp; done) | (go_simp; with_reducible rfl)))
  try simp only [nb1, nb2, nb3, Act.put, nb4, nb5, nb6]
  refine wpAnyH_modular [4, 5, 10, 11, 12, 13] [4, 5, 10, 11, 12, 13] [] [13, 14, 19, 20, 5, 6] #[true, true, true, true, true, true, true, true, true, true, true, true, true, true, false, false] 2 [(4, 13), (5, 14), (10, 19), (11, 20), (12, 5), (13, 6)] [(4, []), (5, [4]), (10, [5]), (11, [10]), (12, []), (13, [])] [12, 13] [(4, fun v w => ∃ z19 : R3, v = z19.val ∧ Fr false w z19.val (a * c)), (5, fun v w => ∃ z20a z20b : R3, v = .agg #[.bool z20a.b, .slice z20a.a z20a.n z20a.c, .slice z20a.d z20a.m z20a.e, .bool z20b.b, .slice z20b.a z20b.n z20b.c, .slice z20b.d z20b.m z20b.e] ∧ Fr false w z20a.val (a * c) ∧ Fr false w z20b.val (a * c)), (10, fun v w => ∃ z21 : R3, v = z21.val ∧ Fr false w z21.val (a * d)), (11, fun v w => ∃ z22a z22b : R3, v = .agg #[.bool z22a.b, .slice z22a.a z22a.n z22a.c, .slice z22a.d z22a.m z22a.e, .bool z22b.b, .slice z22b.a z22b.n z22b.c, .slice z22b.d z22b.m z22b.e] ∧ Fr false w z22a.val (a * d) ∧ Fr false w z22b.val (a * d)), (12, fun v w => ∃ Br2_12 : Nat, v = .pointer (some ⟨Br2_12, 0, none⟩) ∧ W1.drew.heap.size ≤ Br2_12 ∧ w.heap[Br2_12]? = some (.cells #[.bool false, .slice none 0 0, .slice none 0 0, .bool false, .slice none 0 0, .slice none 0 0] 42 (0, 0))), (13, fun v w => ∃ Br2_13 : Nat, v = .pointer (some ⟨Br2_13, 0, none⟩) ∧ W1.drew.heap.size ≤ Br2_13 ∧ w.heap[Br2_13]? = some (.cells #[.bool false, .slice none 0 0, .slice none 0 0, .bool false, .slice none 0 0, .slice none 0 0] 42 (0, 0)))]
    rfl (by kernel_rfl) (by decide) rfl ⟨(fun v w w' hb ⟨z0, e, h0⟩ => ⟨z0, e, Fr.below h0 hb⟩), ⟨(fun v w w' hb ⟨z0, z1, e, h0, h1⟩ => ⟨z0, z1, e, Fr.below h0 hb, Fr.below h1 hb⟩), ⟨(fun v w w' hb ⟨z0, e, h0⟩ => ⟨z0, e, Fr.below h0 hb⟩), ⟨(fun v w w' hb ⟨z0, z1, e, h0, h1⟩ => ⟨z0, z1, e, Fr.below h0 hb, Fr.below h1 hb⟩), ⟨(fun v w w' hb ⟨B, e, g, k⟩ => ⟨B, e, g, blk_keep k hb (blk_lt k)⟩), ⟨(fun v w w' hb ⟨B, e, g, k⟩ => ⟨B, e, g, blk_keep k hb (blk_lt k)⟩), trivial⟩⟩⟩⟩⟩⟩ ⟨fun v w ⟨B, e, g, k⟩ => ⟨B, e, blk_lt k⟩, ⟨fun v w ⟨B, e, g, k⟩ => ⟨B, e, blk_lt k⟩, trivial⟩⟩ (fun w' hb => Sx.below hh hb) ⟨?_, ?_, ?_, ?_, ?_, ?_, trivial⟩ trivial (by decide) ?_
  ·
    refine StepM.of rfl (fun f w' hb hp K hK => ?_)
    have HSB := HS
    replace HS := Lib.hid (HS.out.below hb)
    simp only [fillA, fillT, List.foldl_cons, List.foldl_nil, Act.put, nb4, nb5, nb6]
    have a23 := HS.out.q 3 _ _ rfl
    have a24 := HS.out.q 1 _ _ rfl
    go_simp
    go_wp2_with (go_at_call 135; (with_reducible refine (qmul_any a c _ _ _ a23 a24 (szQ_mono (szQ_of Sa.out) (by omega)) (szQ_mono (szQ_of Sc.out) (by omega))).mono ?_); rintro e w19 ⟨v19, rfl, hv19, hb19⟩; obtain ⟨z19, rfl⟩ := hv19.open3)
    exact hK.out _ _ (z19.val) (by simp only [fillA, fillT, List.foldl_cons, List.foldl_nil, Act.put, nb4, nb5, nb6, nb1, nb2, nb3]) ⟨z19, rfl, hv19⟩ (fun h => absurd h (by decide)) hb19
  ·
    refine StepM.of rfl (fun f w' hb hp K hK => ?_)
    obtain ⟨z19, e4, h4_0⟩ : ∃ z19 : R3, f 13 = z19.val ∧ Fr false w' z19.val (a * c) := hp 4 (by decide)
    have HSB := HS
    replace HS := Lib.hid (HS.out.below hb)
    replace HS := Lib.hid (HS.out.addQ h4_0)
    simp only [fillA, fillT, List.foldl_cons, List.foldl_nil, Act.put, nb4, nb5, nb6, e4]
    have a25 := HS.out.q 0 _ _ rfl
    go_simp
    go_wp2_with (go_at_call 65; (with_reducible refine (qonly_any (a * c) _ _ a25).mono ?_); rintro e w20 ⟨v20, rfl, ⟨z20a, z20b, rfl, hv20, hw20⟩, hb20⟩)
    exact hK.out _ _ (.agg #[.bool z20a.b, .slice z20a.a z20a.n z20a.c, .slice z20a.d z20a.m z20a.e, .bool z20b.b, .slice z20b.a z20b.n z20b.c, .slice z20b.d z20b.m z20b.e]) (by simp only [fillA, fillT, List.foldl_cons, List.foldl_nil, Act.put, nb4, nb5, nb6, nb1, nb2, nb3, e4]) ⟨z20a, z20b, rfl, hv20, hw20⟩ (fun h => absurd h (by decide)) hb20
  ·
    refine StepM.of rfl (fun f w' hb hp K hK => ?_)
    have HSB := HS
    replace HS := Lib.hid (HS.out.below hb)
    simp only [fillA, fillT, List.foldl_cons, List.foldl_nil, Act.put, nb4, nb5, nb6]
    have a26 := HS.out.q 3 _ _ rfl
    have a27 := HS.out.q 0 _ _ rfl
    go_simp
    go_wp2_with (go_at_call 135; (with_reducible refine (qmul_any a d _ _ _ a26 a27 (szQ_mono (szQ_of Sa.out) (by omega)) (szQ_mono (szQ_of Sd.out) (by omega))).mono ?_); rintro e w21 ⟨v21, rfl, hv21, hb21⟩; obtain ⟨z21, rfl⟩ := hv21.open3)
    exact hK.out _ _ (z21.val) (by simp only [fillA, fillT, List.foldl_cons, List.foldl_nil, Act.put, nb4, nb5, nb6, nb1, nb2, nb3]) ⟨z21, rfl, hv21⟩ (fun h => absurd h (by decide)) hb21
  ·
    refine StepM.of rfl (fun f w' hb hp K hK => ?_)
    obtain ⟨z21, e10, h10_0⟩ : ∃ z21 : R3, f 19 = z21.val ∧ Fr false w' z21.val (a * d) := hp 10 (by decide)
    have HSB := HS
    replace HS := Lib.hid (HS.out.below hb)
    replace HS := Lib.hid (HS.out.addQ h10_0)
    simp only [fillA, fillT, List.foldl_cons, List.foldl_nil, Act.put, nb4, nb5, nb6, e10]
    have a28 := HS.out.q 0 _ _ rfl
    go_simp
    go_wp2_with (go_at_call 65; (with_reducible refine (qonly_any (a * d) _ _ a28).mono ?_); rintro e w22 ⟨v22, rfl, ⟨z22a, z22b, rfl, hv22, hw22⟩, hb22⟩)
    exact hK.out _ _ (.agg #[.bool z22a.b, .slice z22a.a z22a.n z22a.c, .slice z22a.d z22a.m z22a.e, .bool z22b.b, .slice z22b.a z22b.n z22b.c, .slice z22b.d z22b.m z22b.e]) (by simp only [fillA, fillT, List.foldl_cons, List.foldl_nil, Act.put, nb4, nb5, nb6, nb1, nb2, nb3, e10]) ⟨z22a, z22b, rfl, hv22, hw22⟩ (fun h => absurd h (by decide)) hb22
  ·
    refine StepM.of rfl (fun f w' hb hp K hK => ?_)
    have HSB := HS
    replace HS := Lib.hid (HS.out.below hb)
    simp only [fillA, fillT, List.foldl_cons, List.foldl_nil, Act.put, nb4, nb5, nb6]
    go_simp
    exact hK.out _ _ (.pointer (some ⟨w'.heap.size, 0, none⟩)) (by simp only [fillA, fillT, List.foldl_cons, List.foldl_nil, Act.put, nb4, nb5, nb6, nb1, nb2, nb3]) ⟨_, rfl, hb.size, blk_new _ _ _⟩ (fun _ => rfl) (below1 w' _)
  ·
    refine StepM.of rfl (fun f w' hb hp K hK => ?_)
    have HSB := HS
    replace HS := Lib.hid (HS.out.below hb)
    simp only [fillA, fillT, List.foldl_cons, List.foldl_nil, Act.put, nb4, nb5, nb6]
    go_simp
    exact hK.out _ _ (.pointer (some ⟨w'.heap.size, 0, none⟩)) (by simp only [fillA, fillT, List.foldl_cons, List.foldl_nil, Act.put, nb4, nb5, nb6, nb1, nb2, nb3]) ⟨_, rfl, hb.size, blk_new _ _ _⟩ (fun _ => rfl) (below1 w' _)
  ·
    intro f wr2 hb hp hd
    obtain ⟨z19, e4, h4_0⟩ : ∃ z19 : R3, f 13 = z19.val ∧ Fr false wr2 z19.val (a * c) := hp 4 (by decide)
    obtain ⟨z20a, z20b, e5, h5_0, h5_1⟩ : ∃ z20a z20b : R3, f 14 = .agg #[.bool z20a.b, .slice z20a.a z20a.n z20a.c, .slice z20a.d z20a.m z20a.e, .bool z20b.b, .slice z20b.a z20b.n z20b.c, .slice z20b.d z20b.m z20b.e] ∧ Fr false wr2 z20a.val (a * c) ∧ Fr false wr2 z20b.val (a * c) := hp 5 (by decide)
    obtain ⟨z21, e10, h10_0⟩ : ∃ z21 : R3, f 19 = z21.val ∧ Fr false wr2 z21.val (a * d) := hp 10 (by decide)
    obtain ⟨z22a, z22b, e11, h11_0, h11_1⟩ : ∃ z22a z22b : R3, f 20 = .agg #[.bool z22a.b, .slice z22a.a z22a.n z22a.c, .slice z22a.d z22a.m z22a.e, .bool z22b.b, .slice z22b.a z22b.n z22b.c, .slice z22b.d z22b.m z22b.e] ∧ Fr false wr2 z22a.val (a * d) ∧ Fr false wr2 z22b.val (a * d) := hp 11 (by decide)
    obtain ⟨Br2_12, e12, g12, k12⟩ : ∃ Br2_12 : Nat, f 5 = .pointer (some ⟨Br2_12, 0, none⟩) ∧ W1.drew.heap.size ≤ Br2_12 ∧ wr2.heap[Br2_12]? = some (.cells #[.bool false, .slice none 0 0, .slice none 0 0, .bool false, .slice none 0 0, .slice none 0 0] 42 (0, 0)) := hp 12 (by decide)
    obtain ⟨Br2_13, e13, g13, k13⟩ : ∃ Br2_13 : Nat, f 6 = .pointer (some ⟨Br2_13, 0, none⟩) ∧ W1.drew.heap.size ≤ Br2_13 ∧ wr2.heap[Br2_13]? = some (.cells #[.bool false, .slice none 0 0, .slice none 0 0, .bool false, .slice none 0 0, .slice none 0 0] 42 (0, 0)) := hp 13 (by decide)
    have hd12_13 : Br2_12 ≠ Br2_13 := fun h => hd 12 13 (by decide) (by decide) (by decide) (by decide) (by decide) (by show f 5 = f 6; rw [e12, e13, h])
    replace hh := Sx.below hh hb
    have hlt := HS.out.lt
    replace HS := Lib.hid (HS.out.below hb)
    replace HS := Lib.hid (HS.out.addQ h4_0)
    replace HS := Lib.hid (HS.out.addQ h5_0)
    replace HS := Lib.hid (HS.out.addQ h5_1)
    replace HS := Lib.hid (HS.out.addQ h10_0)
    replace HS := Lib.hid (HS.out.addQ h11_0)
    replace HS := Lib.hid (HS.out.addQ h11_1)
    have hge12 : w.heap.size ≤ Br2_12 := Nat.le_trans HSW.out g12
    have hne12 : ∀ b, b ∈ [(w.heap.size + 2, #[.bool false, .slice none 0 0, .slice none 0 0, .bool false, .slice none 0 0, .slice none 0 0], 42), (w.heap.size + 1, arr6 y1 y2, 42), (w.heap.size, arr6 x1 x2, 42)] → b.1 ≠ Br2_12 := by
      intro b hb
      simp only [List.mem_cons, List.not_mem_nil, or_false] at hb
      rcases hb with rfl | rfl | rfl
      · have := hlt _ (List.mem_iff_getElem?.2 ⟨0, rfl⟩); dsimp only at this ⊢; omega
      · have := hlt _ (List.mem_iff_getElem?.2 ⟨1, rfl⟩); dsimp only at this ⊢; omega
      · have := hlt _ (List.mem_iff_getElem?.2 ⟨2, rfl⟩); dsimp only at this ⊢; omega
    replace HS := Lib.hid (HS.out.addBox k12 hge12 (by rfl) hne12)
    have hge13 : w.heap.size ≤ Br2_13 := Nat.le_trans HSW.out g13
    have hne13 : ∀ b, b ∈ [(Br2_12, #[.bool false, .slice none 0 0, .slice none 0 0, .bool false, .slice none 0 0, .slice none 0 0], 42), (w.heap.size + 2, #[.bool false, .slice none 0 0, .slice none 0 0, .bool false, .slice none 0 0, .slice none 0 0], 42), (w.heap.size + 1, arr6 y1 y2, 42), (w.heap.size, arr6 x1 x2, 42)] → b.1 ≠ Br2_13 := by
      intro b hb
      simp only [List.mem_cons, List.not_mem_nil, or_false] at hb
      rcases hb with rfl | rfl | rfl | rfl
      · exact hd12_13
      · have := hlt _ (List.mem_iff_getElem?.2 ⟨0, rfl⟩); dsimp only at this ⊢; omega
      · have := hlt _ (List.mem_iff_getElem?.2 ⟨1, rfl⟩); dsimp only at this ⊢; omega
      · have := hlt _ (List.mem_iff_getElem?.2 ⟨2, rfl⟩); dsimp only at this ⊢; omega
    replace HS := Lib.hid (HS.out.addBox k13 hge13 (by rfl) hne13)
    simp only [fillA, fillT, List.foldl_cons, List.foldl_nil, Act.put, nb4, nb5, nb6, e4, e5, e10, e11, e12, e13]
    clear hp hd hb hlt e4 e5 e10 e11 e12 e13
    refine rdA (i := 14) rfl (fun K hK => ?_)
    have b3e := (HS.out.at 1 _ _ _ rfl)
    have b3c0 := blk_cell b3e 0 (.bool false) rfl
    have b3c1 := blk_cell b3e 1 (.slice none 0 0) rfl
    have b3c2 := blk_cell b3e 2 (.slice none 0 0) rfl
    have b3c3 := blk_cell b3e 3 (.bool false) rfl
    have b3c4 := blk_cell b3e 4 (.slice none 0 0) rfl
    have b3c5 := blk_cell b3e 5 (.slice none 0 0) rfl
    have b3f0 := blk_frozen b3e 0
    have b3f1 := blk_frozen b3e 1
    have b3f2 := blk_frozen b3e 2
    have b3f3 := blk_frozen b3e 3
    have b3f4 := blk_frozen b3e 4
    have b3f5 := blk_frozen b3e 5
    have b3l := blk_lt b3e
    clear b3e
    go_simp
    refine hK.out _ _ ((((((HS.out).st_RR 1 r30 r30 z20a z20b rfl)).erase 1)).erase 0) (fun hh => ?_)
    clear hK K b3c0 b3c1 b3c2 b3c3 b3c4 b3c5 b3f0 b3f1 b3f2 b3f3 b3f4 b3f5 b3l
    try simp only [nb1, nb2, nb3, Act.put, nb4, nb5, nb6]
    generalize hW29 : ((((((wr2).setCell _ _).setCell _ _).setCell _ _).setCell _ _).setCell _ _).setCell _ _ = W29 at *
    replace HS : Hid (Sx w W29 [(Br2_13, #[.bool false, .slice none 0 0, .slice none 0 0, .bool false, .slice none 0 0, .slice none 0 0], 42), (Br2_12, arr6 z20a z20b, 42), (w.heap.size + 2, #[.bool false, .slice none 0 0, .slice none 0 0, .bool false, .slice none 0 0, .slice none 0 0], 42), (w.heap.size + 1, arr6 y1 y2, 42), (w.heap.size, arr6 x1 x2, 42)] [(false, z22b.val, (a * d)), (false, z22a.val, (a * d)), (false, z21.val, (a * d)), (false, z20b.val, (a * c)), (false, z20a.val, (a * c)), (false, z19.val, (a * c)), (false, y2.val, d), (false, y1.val, c), (false, x2.val, b), (false, x1.val, a)]) := by subst hW29; exact (HS.out).st_RR 1 r30 r30 z20a z20b rfl
    clear hW29
    refine rdA (i := 15) rfl (fun K hK => ?_)
    have b4e := (HS.out.at 0 _ _ _ rfl)
    have b4c0 := blk_cell b4e 0 (.bool false) rfl
    have b4c1 := blk_cell b4e 1 (.slice none 0 0) rfl
    have b4c2 := blk_cell b4e 2 (.slice none 0 0) rfl
    have b4c3 := blk_cell b4e 3 (.bool false) rfl
    have b4c4 := blk_cell b4e 4 (.slice none 0 0) rfl
    have b4c5 := blk_cell b4e 5 (.slice none 0 0) rfl
    have b4f0 := blk_frozen b4e 0
    have b4f1 := blk_frozen b4e 1
    have b4f2 := blk_frozen b4e 2
    have b4f3 := blk_frozen b4e 3
    have b4f4 := blk_frozen b4e 4
    have b4f5 := blk_frozen b4e 5
    have b4l := blk_lt b4e
    clear b4e
    go_simp
    refine hK.out _ _ ((((((HS.out).st_RR 0 r30 r30 z22a z22b rfl)).erase 1)).erase 0) (fun hh => ?_)
    clear hK K b4c0 b4c1 b4c2 b4c3 b4c4 b4c5 b4f0 b4f1 b4f2 b4f3 b4f4 b4f5 b4l
    try simp only [nb1, nb2, nb3, Act.put, nb4, nb5, nb6]
    generalize hW30 : ((((((W29).setCell _ _).setCell _ _).setCell _ _).setCell _ _).setCell _ _).setCell _ _ = W30 at *
    replace HS : Hid (Sx w W30 [(Br2_13, arr6 z22a z22b, 42), (Br2_12, arr6 z20a z20b, 42), (w.heap.size + 2, #[.bool false, .slice none 0 0, .slice none 0 0, .bool false, .slice none 0 0, .slice none 0 0], 42), (w.heap.size + 1, arr6 y1 y2, 42), (w.heap.size, arr6 x1 x2, 42)] [(false, z22b.val, (a * d)), (false, z22a.val, (a * d)), (false, z21.val, (a * d)), (false, z20b.val, (a * c)), (false, z20a.val, (a * c)), (false, z19.val, (a * c)), (false, y2.val, d), (false, y1.val, c), (false, x2.val, b), (false, x1.val, a)]) := by subst hW30; exact (HS.out).st_RR 0 r30 r30 z22a z22b rfl
    clear hW30
    refine wpAnyH_done (by kernel_rfl) ?_ _
    go_wp2_with fail
    refine wp_region_held_drew (S := (fun w' => Sx w w' [(Br2_13, arr6 z22a z22b, 42), (Br2_12, arr6 z20a z20b, 42), (w.heap.size + 2, #[.bool false, .slice none 0 0, .slice none 0 0, .bool false, .slice none 0 0, .slice none 0 0], 42), (w.heap.size + 1, arr6 y1 y2, 42), (w.heap.size, arr6 x1 x2, 42)] [])) (by kernel_rfl) ((HS.out.drew).bare) (fun hh => ?_)
    replace HS := Lib.hid HS.out.drew
    have HSW := Lib.hid HS.out.bel.size
    refine tkA (i := 0) (v := ?vpr31_0_k33) rfl (Or.inl ⟨by first | rfl | kernel_rfl, ?hypr31_0_k33⟩) (by assumption) ?repr31_0_k33
    case hypr31_0_k33 => (intro u hSu; (first | (go_simp; done) | (go_simp; with_reducible rfl)))
    try simp only [nb1, nb2, nb3, Act.put, nb4, nb5, nb6]
    refine tkA (i := 1) (v := ?vpr31_1_k35) rfl (Or.inl ⟨by first | rfl | kernel_rfl, ?hypr31_1_k35⟩) (by assumption) ?repr31_1_k35
    case hypr31_1_k35 => (intro u hSu; (try dsimp only at hSu); obtain ⟨qb0c0, qb0c1, qb0c2, qb0c3, qb0c4, qb0c5, _⟩ := fac6 (x := x1) (y := x2) (hSu.at 4 _ _ _ rfl); clear hSu; (first | (go_simp; done) | (go_simp; with_reducible rfl)))
    try simp only [nb1, nb2, nb3, Act.put, nb4, nb5, nb6]
    refine tkA (i := 2) (v := ?vpr31_2_k37) rfl (Or.inl ⟨by first | rfl | kernel_rfl, ?hypr31_2_k37⟩) (by assumption) ?repr31_2_k37
    case hypr31_2_k37 => (intro u hSu; (first | (go_simp; done) | (go_simp; with_reducible rfl)))
    try simp only [nb1, nb2, nb3, Act.put, nb4, nb5, nb6]
    refine tkA (i := 3) (v := ?vpr31_3_k39) rfl (Or.inl ⟨by first | rfl | kernel_rfl, ?hypr31_3_k39⟩) (by assumption) ?repr31_3_k39
    case hypr31_3_k39 => (intro u hSu; (try dsimp only at hSu); obtain ⟨qb1c0, qb1c1, qb1c2, qb1c3, qb1c4, qb1c5, _⟩ := fac6 (x := y1) (y := y2) (hSu.at 3 _ _ _ rfl); clear hSu; (first | (go_simp; done) | (go_simp; with_reducible rfl)))
    try simp only [nb1, nb2, nb3, Act.put, nb4, nb5, nb6]
    refine tkA (i := 6) (v := ?vpr31_6_k41) rfl (Or.inl ⟨by first | rfl | kernel_rfl, ?hypr31_6_k41⟩) (by assumption) ?repr31_6_k41
    case hypr31_6_k41 => (intro u hSu; (first | (go_simp; done) | (go_simp; with_reducible rfl)))
    try simp only [nb1, nb2, nb3, Act.put, nb4, nb5, nb6]
    refine tkA (i := 7) (v := ?vpr31_7_k43) rfl (Or.inl ⟨by first | rfl | kernel_rfl, ?hypr31_7_k43⟩) (by assumption) ?repr31_7_k43
    case hypr31_7_k43 => (intro u hSu; (try dsimp only at hSu); obtain ⟨qb0c0, qb0c1, qb0c2, qb0c3, qb0c4, qb0c5, _⟩ := fac6 (x := x1) (y := x2) (hSu.at 4 _ _ _ rfl); clear hSu; (first | (go_simp; done) | (go_simp; with_reducible rfl)))
    try simp only [nb1, nb2, nb3, Act.put, nb4, nb5, nb6]
    refine tkA (i := 8) (v := ?vpr31_8_k45) rfl (Or.inl ⟨by first | rfl | kernel_rfl, ?hypr31_8_k45⟩) (by assumption) ?repr31_8_k45
    case hypr31_8_k45 => (intro u hSu; (first | (go_simp; done) | (go_simp; with_reducible rfl)))
    try simp only [nb1, nb2, nb3, Act.put, nb4, nb5, nb6]
    refine tkA (i := 9) (v := ?vpr31_9_k47) rfl (Or.inl ⟨by first | rfl | kernel_rfl, ?hypr31_9_k47⟩) (by assumption) ?repr31_9_k47
    case hypr31_9_k47 => (intro u hSu; (try dsimp only at hSu); obtain ⟨qb1c0, qb1c1, qb1c2, qb1c3, qb1c4, qb1c5, _⟩ := fac6 (x := y1) (y := y2) (hSu.at 3 _ _ _ rfl); clear hSu; (first | (go_simp; done) | (go_simp; with_reducible rfl)))
    try simp only [nb1, nb2, nb3, Act.put, nb4, nb5, nb6]
    refine wpAnyH_modular [4, 5, 10, 11, 12, 13] [4, 5, 10, 11, 12, 13] [] [25, 26, 31, 32, 7, 8] #[true, true, true, true, true, true, true, true, true, true, true, true, true, true, false, false] 2 [(4, 25), (5, 26), (10, 31), (11, 32), (12, 7), (13, 8)] [(4, []), (5, [4]), (10, [5]), (11, [10]), (12, []), (13, [])] [12, 13] [(4, fun v w => ∃ z48 : R3, v = z48.val ∧ Fr false w z48.val (b * c)), (5, fun v w => ∃ z49a z49b : R3, v = .agg #[.bool z49a.b, .slice z49a.a z49a.n z49a.c, .slice z49a.d z49a.m z49a.e, .bool z49b.b, .slice z49b.a z49b.n z49b.c, .slice z49b.d z49b.m z49b.e] ∧ Fr false w z49a.val (b * c) ∧ Fr false w z49b.val (b * c)), (10, fun v w => ∃ z50 : R3, v = z50.val ∧ Fr false w z50.val (b * d)), (11, fun v w => ∃ z51a z51b : R3, v = .agg #[.bool z51a.b, .slice z51a.a z51a.n z51a.c, .slice z51a.d z51a.m z51a.e, .bool z51b.b, .slice z51b.a z51b.n z51b.c, .slice z51b.d z51b.m z51b.e] ∧ Fr false w z51a.val (b * d) ∧ Fr false w z51b.val (b * d)), (12, fun v w => ∃ Br31_12 : Nat, v = .pointer (some ⟨Br31_12, 0, none⟩) ∧ W30.drew.heap.size ≤ Br31_12 ∧ w.heap[Br31_12]? = some (.cells #[.bool false, .slice none 0 0, .slice none 0 0, .bool false, .slice none 0 0, .slice none 0 0] 42 (0, 0))), (13, fun v w => ∃ Br31_13 : Nat, v = .pointer (some ⟨Br31_13, 0, none⟩) ∧ W30.drew.heap.size ≤ Br31_13 ∧ w.heap[Br31_13]? = some (.cells #[.bool false, .slice none 0 0, .slice none 0 0, .bool false, .slice none 0 0, .slice none 0 0] 42 (0, 0)))]
      rfl (by kernel_rfl) (by decide) rfl ⟨(fun v w w' hb ⟨z0, e, h0⟩ => ⟨z0, e, Fr.below h0 hb⟩), ⟨(fun v w w' hb ⟨z0, z1, e, h0, h1⟩ => ⟨z0, z1, e, Fr.below h0 hb, Fr.below h1 hb⟩), ⟨(fun v w w' hb ⟨z0, e, h0⟩ => ⟨z0, e, Fr.below h0 hb⟩), ⟨(fun v w w' hb ⟨z0, z1, e, h0, h1⟩ => ⟨z0, z1, e, Fr.below h0 hb, Fr.below h1 hb⟩), ⟨(fun v w w' hb ⟨B, e, g, k⟩ => ⟨B, e, g, blk_keep k hb (blk_lt k)⟩), ⟨(fun v w w' hb ⟨B, e, g, k⟩ => ⟨B, e, g, blk_keep k hb (blk_lt k)⟩), trivial⟩⟩⟩⟩⟩⟩ ⟨fun v w ⟨B, e, g, k⟩ => ⟨B, e, blk_lt k⟩, ⟨fun v w ⟨B, e, g, k⟩ => ⟨B, e, blk_lt k⟩, trivial⟩⟩ (fun w' hb => Sx.below hh hb) ⟨?_, ?_, ?_, ?_, ?_, ?_, trivial⟩ trivial (by decide) ?_
    ·
      refine StepM.of rfl (fun f w' hb hp K hK => ?_)
      have HSB := HS
      replace HS := Lib.hid (HS.out.below hb)
      simp only [fillA, fillT, List.foldl_cons, List.foldl_nil, Act.put, nb4, nb5, nb6]
      have a52 := HS.out.q 8 _ _ rfl
      have a53 := HS.out.q 7 _ _ rfl
      go_simp
      go_wp2_with (go_at_call 135; (with_reducible refine (qmul_any b c _ _ _ a52 a53 (szQ_mono (szQ_of Sb.out) (by omega)) (szQ_mono (szQ_of Sc.out) (by omega))).mono ?_); rintro e w48 ⟨v48, rfl, hv48, hb48⟩; obtain ⟨z48, rfl⟩ := hv48.open3)
      exact hK.out _ _ (z48.val) (by simp only [fillA, fillT, List.foldl_cons, List.foldl_nil, Act.put, nb4, nb5, nb6, nb1, nb2, nb3]) ⟨z48, rfl, hv48⟩ (fun h => absurd h (by decide)) hb48
    ·
      refine StepM.of rfl (fun f w' hb hp K hK => ?_)
      obtain ⟨z48, e4, h4_0⟩ : ∃ z48 : R3, f 25 = z48.val ∧ Fr false w' z48.val (b * c) := hp 4 (by decide)
      have HSB := HS
      replace HS := Lib.hid (HS.out.below hb)
      replace HS := Lib.hid (HS.out.addQ h4_0)
      simp only [fillA, fillT, List.foldl_cons, List.foldl_nil, Act.put, nb4, nb5, nb6, e4]
      have a54 := HS.out.q 0 _ _ rfl
      go_simp
      go_wp2_with (go_at_call 65; (with_reducible refine (qonly_any (b * c) _ _ a54).mono ?_); rintro e w49 ⟨v49, rfl, ⟨z49a, z49b, rfl, hv49, hw49⟩, hb49⟩)
      exact hK.out _ _ (.agg #[.bool z49a.b, .slice z49a.a z49a.n z49a.c, .slice z49a.d z49a.m z49a.e, .bool z49b.b, .slice z49b.a z49b.n z49b.c, .slice z49b.d z49b.m z49b.e]) (by simp only [fillA, fillT, List.foldl_cons, List.foldl_nil, Act.put, nb4, nb5, nb6, nb1, nb2, nb3, e4]) ⟨z49a, z49b, rfl, hv49, hw49⟩ (fun h => absurd h (by decide)) hb49
    ·
      refine StepM.of rfl (fun f w' hb hp K hK => ?_)
      have HSB := HS
      replace HS := Lib.hid (HS.out.below hb)
      simp only [fillA, fillT, List.foldl_cons, List.foldl_nil, Act.put, nb4, nb5, nb6]
      have a55 := HS.out.q 8 _ _ rfl
      have a56 := HS.out.q 6 _ _ rfl
      go_simp
      go_wp2_with (go_at_call 135; (with_reducible refine (qmul_any b d _ _ _ a55 a56 (szQ_mono (szQ_of Sb.out) (by omega)) (szQ_mono (szQ_of Sd.out) (by omega))).mono ?_); rintro e w50 ⟨v50, rfl, hv50, hb50⟩; obtain ⟨z50, rfl⟩ := hv50.open3)
      exact hK.out _ _ (z50.val) (by simp only [fillA, fillT, List.foldl_cons, List.foldl_nil, Act.put, nb4, nb5, nb6, nb1, nb2, nb3]) ⟨z50, rfl, hv50⟩ (fun h => absurd h (by decide)) hb50
    ·
      refine StepM.of rfl (fun f w' hb hp K hK => ?_)
      obtain ⟨z50, e10, h10_0⟩ : ∃ z50 : R3, f 31 = z50.val ∧ Fr false w' z50.val (b * d) := hp 10 (by decide)
      have HSB := HS
      replace HS := Lib.hid (HS.out.below hb)
      replace HS := Lib.hid (HS.out.addQ h10_0)
      simp only [fillA, fillT, List.foldl_cons, List.foldl_nil, Act.put, nb4, nb5, nb6, e10]
      have a57 := HS.out.q 0 _ _ rfl
      go_simp
      go_wp2_with (go_at_call 65; (with_reducible refine (qonly_any (b * d) _ _ a57).mono ?_); rintro e w51 ⟨v51, rfl, ⟨z51a, z51b, rfl, hv51, hw51⟩, hb51⟩)
      exact hK.out _ _ (.agg #[.bool z51a.b, .slice z51a.a z51a.n z51a.c, .slice z51a.d z51a.m z51a.e, .bool z51b.b, .slice z51b.a z51b.n z51b.c, .slice z51b.d z51b.m z51b.e]) (by simp only [fillA, fillT, List.foldl_cons, List.foldl_nil, Act.put, nb4, nb5, nb6, nb1, nb2, nb3, e10]) ⟨z51a, z51b, rfl, hv51, hw51⟩ (fun h => absurd h (by decide)) hb51
    ·
      refine StepM.of rfl (fun f w' hb hp K hK => ?_)
      have HSB := HS
      replace HS := Lib.hid (HS.out.below hb)
      simp only [fillA, fillT, List.foldl_cons, List.foldl_nil, Act.put, nb4, nb5, nb6]
      go_simp
      exact hK.out _ _ (.pointer (some ⟨w'.heap.size, 0, none⟩)) (by simp only [fillA, fillT, List.foldl_cons, List.foldl_nil, Act.put, nb4, nb5, nb6, nb1, nb2, nb3]) ⟨_, rfl, hb.size, blk_new _ _ _⟩ (fun _ => rfl) (below1 w' _)
    ·
      refine StepM.of rfl (fun f w' hb hp K hK => ?_)
      have HSB := HS
      replace HS := Lib.hid (HS.out.below hb)
      simp only [fillA, fillT, List.foldl_cons, List.foldl_nil, Act.put, nb4, nb5, nb6]
      go_simp
      exact hK.out _ _ (.pointer (some ⟨w'.heap.size, 0, none⟩)) (by simp only [fillA, fillT, List.foldl_cons, List.foldl_nil, Act.put, nb4, nb5, nb6, nb1, nb2, nb3]) ⟨_, rfl, hb.size, blk_new _ _ _⟩ (fun _ => rfl) (below1 w' _)
    ·
      intro f wr31 hb hp hd
      obtain ⟨z48, e4, h4_0⟩ : ∃ z48 : R3, f 25 = z48.val ∧ Fr false wr31 z48.val (b * c) := hp 4 (by decide)
      obtain ⟨z49a, z49b, e5, h5_0, h5_1⟩ : ∃ z49a z49b : R3, f 26 = .agg #[.bool z49a.b, .slice z49a.a z49a.n z49a.c, .slice z49a.d z49a.m z49a.e, .bool z49b.b, .slice z49b.a z49b.n z49b.c, .slice z49b.d z49b.m z49b.e] ∧ Fr false wr31 z49a.val (b * c) ∧ Fr false wr31 z49b.val (b * c) := hp 5 (by decide)
      obtain ⟨z50, e10, h10_0⟩ : ∃ z50 : R3, f 31 = z50.val ∧ Fr false wr31 z50.val (b * d) := hp 10 (by decide)
      obtain ⟨z51a, z51b, e11, h11_0, h11_1⟩ : ∃ z51a z51b : R3, f 32 = .agg #[.bool z51a.b, .slice z51a.a z51a.n z51a.c, .slice z51a.d z51a.m z51a.e, .bool z51b.b, .slice z51b.a z51b.n z51b.c, .slice z51b.d z51b.m z51b.e] ∧ Fr false wr31 z51a.val (b * d) ∧ Fr false wr31 z51b.val (b * d) := hp 11 (by decide)
      obtain ⟨Br31_12, e12, g12, k12⟩ : ∃ Br31_12 : Nat, f 7 = .pointer (some ⟨Br31_12, 0, none⟩) ∧ W30.drew.heap.size ≤ Br31_12 ∧ wr31.heap[Br31_12]? = some (.cells #[.bool false, .slice none 0 0, .slice none 0 0, .bool false, .slice none 0 0, .slice none 0 0] 42 (0, 0)) := hp 12 (by decide)
      obtain ⟨Br31_13, e13, g13, k13⟩ : ∃ Br31_13 : Nat, f 8 = .pointer (some ⟨Br31_13, 0, none⟩) ∧ W30.drew.heap.size ≤ Br31_13 ∧ wr31.heap[Br31_13]? = some (.cells #[.bool false, .slice none 0 0, .slice none 0 0, .bool false, .slice none 0 0, .slice none 0 0] 42 (0, 0)) := hp 13 (by decide)
      have hd12_13 : Br31_12 ≠ Br31_13 := fun h => hd 12 13 (by decide) (by decide) (by decide) (by decide) (by decide) (by show f 7 = f 8; rw [e12, e13, h])
      replace hh := Sx.below hh hb
      have hlt := HS.out.lt
      replace HS := Lib.hid (HS.out.below hb)
      replace HS := Lib.hid (HS.out.addQ h4_0)
      replace HS := Lib.hid (HS.out.addQ h5_0)
      replace HS := Lib.hid (HS.out.addQ h5_1)
      replace HS := Lib.hid (HS.out.addQ h10_0)
      replace HS := Lib.hid (HS.out.addQ h11_0)
      replace HS := Lib.hid (HS.out.addQ h11_1)
      have hge12 : w.heap.size ≤ Br31_12 := Nat.le_trans HSW.out g12
      have hne12 : ∀ b, b ∈ [(Br2_13, arr6 z22a z22b, 42), (Br2_12, arr6 z20a z20b, 42), (w.heap.size + 2, #[.bool false, .slice none 0 0, .slice none 0 0, .bool false, .slice none 0 0, .slice none 0 0], 42), (w.heap.size + 1, arr6 y1 y2, 42), (w.heap.size, arr6 x1 x2, 42)] → b.1 ≠ Br31_12 := by
        intro b hb
        simp only [List.mem_cons, List.not_mem_nil, or_false] at hb
        rcases hb with rfl | rfl | rfl | rfl | rfl
        · have := hlt _ (List.mem_iff_getElem?.2 ⟨0, rfl⟩); dsimp only at this ⊢; omega
        · have := hlt _ (List.mem_iff_getElem?.2 ⟨1, rfl⟩); dsimp only at this ⊢; omega
        · have := hlt _ (List.mem_iff_getElem?.2 ⟨2, rfl⟩); dsimp only at this ⊢; omega
        · have := hlt _ (List.mem_iff_getElem?.2 ⟨3, rfl⟩); dsimp only at this ⊢; omega
        · have := hlt _ (List.mem_iff_getElem?.2 ⟨4, rfl⟩); dsimp only at this ⊢; omega
      replace HS := Lib.hid (HS.out.addBox k12 hge12 (by rfl) hne12)
      have hge13 : w.heap.size ≤ Br31_13 := Nat.le_trans HSW.out g13
      have hne13 : ∀ b, b ∈ [(Br31_12, #[.bool false, .slice none 0 0, .slice none 0 0, .bool false, .slice none 0 0, .slice none 0 0], 42), (Br2_13, arr6 z22a z22b, 42), (Br2_12, arr6 z20a z20b, 42), (w.heap.size + 2, #[.bool false, .slice none 0 0, .slice none 0 0, .bool false, .slice none 0 0, .slice none 0 0], 42), (w.heap.size + 1, arr6 y1 y2, 42), (w.heap.size, arr6 x1 x2, 42)] → b.1 ≠ Br31_13 := by
        intro b hb
        simp only [List.mem_cons, List.not_mem_nil, or_false] at hb
        rcases hb with rfl | rfl | rfl | rfl | rfl | rfl
        · exact hd12_13
        · have := hlt _ (List.mem_iff_getElem?.2 ⟨0, rfl⟩); dsimp only at this ⊢; omega
        · have := hlt _ (List.mem_iff_getElem?.2 ⟨1, rfl⟩); dsimp only at this ⊢; omega
        · have := hlt _ (List.mem_iff_getElem?.2 ⟨2, rfl⟩); dsimp only at this ⊢; omega
        · have := hlt _ (List.mem_iff_getElem?.2 ⟨3, rfl⟩); dsimp only at this ⊢; omega
        · have := hlt _ (List.mem_iff_getElem?.2 ⟨4, rfl⟩); dsimp only at this ⊢; omega
      replace HS := Lib.hid (HS.out.addBox k13 hge13 (by rfl) hne13)
      simp only [fillA, fillT, List.foldl_cons, List.foldl_nil, Act.put, nb4, nb5, nb6, e4, e5, e10, e11, e12, e13]
      clear hp hd hb hlt e4 e5 e10 e11 e12 e13
      refine rdA (i := 14) rfl (fun K hK => ?_)
      have b5e := (HS.out.at 1 _ _ _ rfl)
      have b5c0 := blk_cell b5e 0 (.bool false) rfl
      have b5c1 := blk_cell b5e 1 (.slice none 0 0) rfl
      have b5c2 := blk_cell b5e 2 (.slice none 0 0) rfl
      have b5c3 := blk_cell b5e 3 (.bool false) rfl
      have b5c4 := blk_cell b5e 4 (.slice none 0 0) rfl
      have b5c5 := blk_cell b5e 5 (.slice none 0 0) rfl
      have b5f0 := blk_frozen b5e 0
      have b5f1 := blk_frozen b5e 1
      have b5f2 := blk_frozen b5e 2
      have b5f3 := blk_frozen b5e 3
      have b5f4 := blk_frozen b5e 4
      have b5f5 := blk_frozen b5e 5
      have b5l := blk_lt b5e
      clear b5e
      go_simp
      refine hK.out _ _ ((((((HS.out).st_RR 1 r30 r30 z49a z49b rfl)).erase 1)).erase 0) (fun hh => ?_)
      clear hK K b5c0 b5c1 b5c2 b5c3 b5c4 b5c5 b5f0 b5f1 b5f2 b5f3 b5f4 b5f5 b5l
      try simp only [nb1, nb2, nb3, Act.put, nb4, nb5, nb6]
      generalize hW58 : ((((((wr31).setCell _ _).setCell _ _).setCell _ _).setCell _ _).setCell _ _).setCell _ _ = W58 at *
      replace HS : Hid (Sx w W58 [(Br31_13, #[.bool false, .slice none 0 0, .slice none 0 0, .bool false, .slice none 0 0, .slice none 0 0], 42), (Br31_12, arr6 z49a z49b, 42), (Br2_13, arr6 z22a z22b, 42), (Br2_12, arr6 z20a z20b, 42), (w.heap.size + 2, #[.bool false, .slice none 0 0, .slice none 0 0, .bool false, .slice none 0 0, .slice none 0 0], 42), (w.heap.size + 1, arr6 y1 y2, 42), (w.heap.size, arr6 x1 x2, 42)] [(false, z51b.val, (b * d)), (false, z51a.val, (b * d)), (false, z50.val, (b * d)), (false, z49b.val, (b * c)), (false, z49a.val, (b * c)), (false, z48.val, (b * c)), (false, z22b.val, (a * d)), (false, z22a.val, (a * d)), (false, z21.val, (a * d)), (false, z20b.val, (a * c)), (false, z20a.val, (a * c)), (false, z19.val, (a * c)), (false, y2.val, d), (false, y1.val, c), (false, x2.val, b), (false, x1.val, a)]) := by subst hW58; exact (HS.out).st_RR 1 r30 r30 z49a z49b rfl
      clear hW58
      refine rdA (i := 15) rfl (fun K hK => ?_)
      have b6e := (HS.out.at 0 _ _ _ rfl)
      have b6c0 := blk_cell b6e 0 (.bool false) rfl
      have b6c1 := blk_cell b6e 1 (.slice none 0 0) rfl
      have b6c2 := blk_cell b6e 2 (.slice none 0 0) rfl
      have b6c3 := blk_cell b6e 3 (.bool false) rfl
      have b6c4 := blk_cell b6e 4 (.slice none 0 0) rfl
      have b6c5 := blk_cell b6e 5 (.slice none 0 0) rfl
      have b6f0 := blk_frozen b6e 0
      have b6f1 := blk_frozen b6e 1
      have b6f2 := blk_frozen b6e 2
      have b6f3 := blk_frozen b6e 3
      have b6f4 := blk_frozen b6e 4
      have b6f5 := blk_frozen b6e 5
      have b6l := blk_lt b6e
      clear b6e
      go_simp
      refine hK.out _ _ ((((((HS.out).st_RR 0 r30 r30 z51a z51b rfl)).erase 1)).erase 0) (fun hh => ?_)
      clear hK K b6c0 b6c1 b6c2 b6c3 b6c4 b6c5 b6f0 b6f1 b6f2 b6f3 b6f4 b6f5 b6l
      try simp only [nb1, nb2, nb3, Act.put, nb4, nb5, nb6]
      generalize hW59 : ((((((W58).setCell _ _).setCell _ _).setCell _ _).setCell _ _).setCell _ _).setCell _ _ = W59 at *
      replace HS : Hid (Sx w W59 [(Br31_13, arr6 z51a z51b, 42), (Br31_12, arr6 z49a z49b, 42), (Br2_13, arr6 z22a z22b, 42), (Br2_12, arr6 z20a z20b, 42), (w.heap.size + 2, #[.bool false, .slice none 0 0, .slice none 0 0, .bool false, .slice none 0 0, .slice none 0 0], 42), (w.heap.size + 1, arr6 y1 y2, 42), (w.heap.size, arr6 x1 x2, 42)] [(false, z51b.val, (b * d)), (false, z51a.val, (b * d)), (false, z50.val, (b * d)), (false, z49b.val, (b * c)), (false, z49a.val, (b * c)), (false, z48.val, (b * c)), (false, z22b.val, (a * d)), (false, z22a.val, (a * d)), (false, z21.val, (a * d)), (false, z20b.val, (a * c)), (false, z20a.val, (a * c)), (false, z19.val, (a * c)), (false, y2.val, d), (false, y1.val, c), (false, x2.val, b), (false, x1.val, a)]) := by subst hW59; exact (HS.out).st_RR 0 r30 r30 z51a z51b rfl
      clear hW59
      refine wpAnyH_done (by kernel_rfl) ?_ _
      go_wp2_with fail
      refine wp_region_held_drew (S := (fun w' => Sx w w' [(Br31_13, arr6 z51a z51b, 42), (Br31_12, arr6 z49a z49b, 42), (Br2_13, arr6 z22a z22b, 42), (Br2_12, arr6 z20a z20b, 42), (w.heap.size + 1, arr6 y1 y2, 42), (w.heap.size, arr6 x1 x2, 42)] [])) (by kernel_rfl) ((HS.out.drew).erase 4) (fun hh => ?_)
      replace HS := Lib.hid HS.out.drew
      refine tkA (i := 0) (v := ?vpr60_0_k62) rfl (Or.inl ⟨by first | rfl | kernel_rfl, ?hypr60_0_k62⟩) (by assumption) ?repr60_0_k62
      case hypr60_0_k62 => (intro u hSu; (try dsimp only at hSu); obtain ⟨qb3c0, qb3c1, qb3c2, qb3c3, qb3c4, qb3c5, _⟩ := fac6 (x := z20a) (y := z20b) (hSu.at 3 _ _ _ rfl); clear hSu; (first | (go_simp; done) | (go_simp; with_reducible rfl)))
      try simp only [nb1, nb2, nb3, Act.put, nb4, nb5, nb6]
      refine tkA (i := 1) (v := ?vpr60_1_k64) rfl (Or.inl ⟨by first | rfl | kernel_rfl, ?hypr60_1_k64⟩) (by assumption) ?repr60_1_k64
      case hypr60_1_k64 => (intro u hSu; (try dsimp only at hSu); obtain ⟨qb4c0, qb4c1, qb4c2, qb4c3, qb4c4, qb4c5, _⟩ := fac6 (x := z22a) (y := z22b) (hSu.at 2 _ _ _ rfl); clear hSu; (first | (go_simp; done) | (go_simp; with_reducible rfl)))
      try simp only [nb1, nb2, nb3, Act.put, nb4, nb5, nb6]
      refine tkA (i := 3) (v := ?vpr60_3_k66) rfl (Or.inl ⟨by first | rfl | kernel_rfl, ?hypr60_3_k66⟩) (by assumption) ?repr60_3_k66
      case hypr60_3_k66 => (intro u hSu; (try dsimp only at hSu); obtain ⟨qb5c0, qb5c1, qb5c2, qb5c3, qb5c4, qb5c5, _⟩ := fac6 (x := z49a) (y := z49b) (hSu.at 1 _ _ _ rfl); clear hSu; (first | (go_simp; done) | (go_simp; with_reducible rfl)))
      try simp only [nb1, nb2, nb3, Act.put, nb4, nb5, nb6]
      refine tkA (i := 4) (v := ?vpr60_4_k68) rfl (Or.inl ⟨by first | rfl | kernel_rfl, ?hypr60_4_k68⟩) (by assumption) ?repr60_4_k68
      case hypr60_4_k68 => (intro u hSu; (try dsimp only at hSu); obtain ⟨qb6c0, qb6c1, qb6c2, qb6c3, qb6c4, qb6c5, _⟩ := fac6 (x := z51a) (y := z51b) (hSu.at 0 _ _ _ rfl); clear hSu; (first | (go_simp; done) | (go_simp; with_reducible rfl)))
      try simp only [nb1, nb2, nb3, Act.put, nb4, nb5, nb6]
      refine rdA (i := 2) rfl (fun K hK => ?_)
      go_simp
      have a70 := HS.out.q 10 _ _ rfl
      have a71 := HS.out.q 9 _ _ rfl
      have a72 := HS.out.q 7 _ _ rfl
      have a73 := HS.out.q 6 _ _ rfl
      go_wp2_with (go_at_call 64; (with_reducible refine (qhull_any (a * c) (a * c) (a * d) (a * d) _ _ _ (rngQ a70 a71) (rngQ a72 a73) (szQ_mono (szQ_of (szR_mul Sa.out Sc.out)) (by omega)) (szQ_mono (szQ_of (szR_mul Sa.out Sc.out)) (by omega)) (szQ_mono (szQ_of (szR_mul Sa.out Sd.out)) (by omega)) (szQ_mono (szQ_of (szR_mul Sa.out Sd.out)) (by omega))).mono ?_); rintro e w69 ⟨v69, rfl, ⟨z69a, z69b, rfl, hv69, hw69⟩, hb69⟩)
      refine hK.out _ _ (Sx.below hh hb69) (fun hh => ?_)
      clear hK K
      try simp only [nb1, nb2, nb3, Act.put, nb4, nb5, nb6]
      replace HS := Lib.hid (HS.out.below hb69)
      clear hb69 a70 a71 a72 a73
      replace HS := Lib.hid (HS.out.addQ hv69)
      clear hv69
      replace HS := Lib.hid (HS.out.addQ hw69)
      clear hw69
      refine rdA (i := 5) rfl (fun K hK => ?_)
      go_simp
      have a75 := HS.out.q 6 _ _ rfl
      have a76 := HS.out.q 5 _ _ rfl
      have a77 := HS.out.q 3 _ _ rfl
      have a78 := HS.out.q 2 _ _ rfl
      go_wp2_with (go_at_call 64; (with_reducible refine (qhull_any (b * c) (b * c) (b * d) (b * d) _ _ _ (rngQ a75 a76) (rngQ a77 a78) (szQ_mono (szQ_of (szR_mul Sb.out Sc.out)) (by omega)) (szQ_mono (szQ_of (szR_mul Sb.out Sc.out)) (by omega)) (szQ_mono (szQ_of (szR_mul Sb.out Sd.out)) (by omega)) (szQ_mono (szQ_of (szR_mul Sb.out Sd.out)) (by omega))).mono ?_); rintro e w74 ⟨v74, rfl, ⟨z74a, z74b, rfl, hv74, hw74⟩, hb74⟩)
      refine hK.out _ _ (Sx.below hh hb74) (fun hh => ?_)
      clear hK K
      try simp only [nb1, nb2, nb3, Act.put, nb4, nb5, nb6]
      replace HS := Lib.hid (HS.out.below hb74)
      clear hb74 a75 a76 a77 a78
      replace HS := Lib.hid (HS.out.addQ hv74)
      clear hv74
      replace HS := Lib.hid (HS.out.addQ hw74)
      clear hw74
      refine rdA (i := 6) rfl (fun K hK => ?_)
      go_simp
      have a80 := HS.out.q 3 _ _ rfl
      have a81 := HS.out.q 2 _ _ rfl
      have a82 := HS.out.q 1 _ _ rfl
      have a83 := HS.out.q 0 _ _ rfl
      go_wp2_with (go_at_call 64; (with_reducible refine (qhull_any (loQ (a * c) (a * d)) (hiQ (a * c) (a * d)) (loQ (b * c) (b * d)) (hiQ (b * c) (b * d)) _ _ _ (rngQ a80 a81) (rngQ a82 a83) (szQ_mono (szQ_of (loN_sz (szR_mul Sa.out Sc.out) (szR_mul Sa.out Sd.out))) (by omega)) (szQ_mono (szQ_of (hiN_sz (szR_mul Sa.out Sc.out) (szR_mul Sa.out Sd.out))) (by omega)) (szQ_mono (szQ_of (loN_sz (szR_mul Sb.out Sc.out) (szR_mul Sb.out Sd.out))) (by omega)) (szQ_mono (szQ_of (hiN_sz (szR_mul Sb.out Sc.out) (szR_mul Sb.out Sd.out))) (by omega))).mono ?_); rintro e w79 ⟨v79, rfl, ⟨z79a, z79b, rfl, hv79, hw79⟩, hb79⟩)
      refine hK.out _ _ (Sx.below hh hb79) (fun hh => ?_)
      clear hK K
      try simp only [nb1, nb2, nb3, Act.put, nb4, nb5, nb6]
      replace HS := Lib.hid (HS.out.below hb79)
      clear hb79 a80 a81 a82 a83
      replace HS := Lib.hid (HS.out.addQ hv79)
      clear hv79
      replace HS := Lib.hid (HS.out.addQ hw79)
      clear hw79
      refine rdA (i := 7) rfl (fun K hK => ?_)
      have b2e := (HS.out.at 4 _ _ _ rfl)
      have b2c0 := blk_cell b2e 0 (.bool false) rfl
      have b2c1 := blk_cell b2e 1 (.slice none 0 0) rfl
      have b2c2 := blk_cell b2e 2 (.slice none 0 0) rfl
      have b2c3 := blk_cell b2e 3 (.bool false) rfl
      have b2c4 := blk_cell b2e 4 (.slice none 0 0) rfl
      have b2c5 := blk_cell b2e 5 (.slice none 0 0) rfl
      have b2f0 := blk_frozen b2e 0
      have b2f1 := blk_frozen b2e 1
      have b2f2 := blk_frozen b2e 2
      have b2f3 := blk_frozen b2e 3
      have b2f4 := blk_frozen b2e 4
      have b2f5 := blk_frozen b2e 5
      have b2l := blk_lt b2e
      clear b2e
      go_simp
      refine hK.out _ _ ((((HS.out).st_RR 4 r30 r30 z79a z79b rfl)).erase 4) (fun hh => ?_)
      clear hK K b2c0 b2c1 b2c2 b2c3 b2c4 b2c5 b2f0 b2f1 b2f2 b2f3 b2f4 b2f5 b2l
      try simp only [nb1, nb2, nb3, Act.put, nb4, nb5, nb6]
      generalize hW84 : ((((((w79).setCell _ _).setCell _ _).setCell _ _).setCell _ _).setCell _ _).setCell _ _ = W84 at *
      replace HS : Hid (Sx w W84 [(Br31_13, arr6 z51a z51b, 42), (Br31_12, arr6 z49a z49b, 42), (Br2_13, arr6 z22a z22b, 42), (Br2_12, arr6 z20a z20b, 42), (w.heap.size + 2, arr6 z79a z79b, 42), (w.heap.size + 1, arr6 y1 y2, 42), (w.heap.size, arr6 x1 x2, 42)] [(false, z79b.val, (hiQ (hiQ (a * c) (a * d)) (hiQ (b * c) (b * d)))), (false, z79a.val, (loQ (loQ (a * c) (a * d)) (loQ (b * c) (b * d)))), (false, z74b.val, (hiQ (b * c) (b * d))), (false, z74a.val, (loQ (b * c) (b * d))), (false, z69b.val, (hiQ (a * c) (a * d))), (false, z69a.val, (loQ (a * c) (a * d))), (false, z51b.val, (b * d)), (false, z51a.val, (b * d)), (false, z50.val, (b * d)), (false, z49b.val, (b * c)), (false, z49a.val, (b * c)), (false, z48.val, (b * c)), (false, z22b.val, (a * d)), (false, z22a.val, (a * d)), (false, z21.val, (a * d)), (false, z20b.val, (a * c)), (false, z20a.val, (a * c)), (false, z19.val, (a * c)), (false, y2.val, d), (false, y1.val, c), (false, x2.val, b), (false, x1.val, a)]) := by subst hW84; exact (HS.out).st_RR 4 r30 r30 z79a z79b rfl
      clear hW84
      refine wpAnyH_done (by kernel_rfl) ?_ _
      obtain ⟨b2c0, b2c1, b2c2, b2c3, b2c4, b2c5, b2f0, b2f1, b2f2, b2f3, b2f4, b2f5⟩ := fac6 (x := z79a) (y := z79b) (HS.out.at 4 _ _ _ rfl)
      have b2l := blk_lt (HS.out.at 4 _ _ _ rfl)
      go_wp2_with fail
      clear b2c0 b2c1 b2c2 b2c3 b2c4 b2c5 b2f0 b2f1 b2f2 b2f3 b2f4 b2f5 b2l
      obtain ⟨b2c0, b2c1, b2c2, b2c3, b2c4, b2c5, _⟩ := fac6 (x := z79a) (y := z79b) (HS.out.at 4 _ _ _ rfl)
      refine bodyPost_ret (v := .agg #[.bool z79a.b, .slice z79a.a z79a.n z79a.c, .slice z79a.d z79a.m z79a.e, .bool z79b.b, .slice z79b.a z79b.n z79b.c, .slice z79b.d z79b.m z79b.e]) (by simp [results, Tryz.results74, go_sem, b2c0, b2c1, b2c2, b2c3, b2c4, b2c5]) rfl ⟨_, rfl, (rngQ (HS.out.q 1 _ _ rfl) (HS.out.q 0 _ _ rfl)), HS.out.bel⟩
end Go.Proofs.YthdgeindjphklaaGreat

namespace Go.Proofs.YthdgeindjphklaaGreat
open Go.RowKit

theorem qmeet_no (a b c d : Rat) (vx vy : Value) (w : World) (hx : IsRngQ w vx a b) (hy : IsRngQ w vy c d) (s1 : szR a 1000000000) (s2 : szR b 1000000000) (s3 : szR c 1000000000) (s4 : szR d 1000000000) (h : cmpR (hiQ a c) (loQ b d) > 0) : Calls Tryz.prog 76 #[vx, vy] w (RetRngQE 0 0 5 w) := by
  have := qmeet_any a b c d vx vy w hx hy s1 s2 s3 s4
  unfold meetE at this
  rw [if_pos h] at this
  exact this
theorem qmeet_ok (a b c d : Rat) (vx vy : Value) (w : World) (hx : IsRngQ w vx a b) (hy : IsRngQ w vy c d) (s1 : szR a 1000000000) (s2 : szR b 1000000000) (s3 : szR c 1000000000) (s4 : szR d 1000000000) (h : ¬ cmpR (hiQ a c) (loQ b d) > 0) : Calls Tryz.prog 76 #[vx, vy] w (RetRngQE (hiQ a c) (loQ b d) 0 w) := by
  have := qmeet_any a b c d vx vy w hx hy s1 s2 s3 s4
  unfold meetE at this
  rw [if_neg h] at this
  exact this
set_option maxRecDepth 100000 in
set_option maxHeartbeats 16000000 in
theorem qleak_any (V : Rat) (ps fs : List (List Rat)) (vV vp vf : Value) (w : World) (hV : IsR w vV V) (hp : RecsOf false 2 w vp ps) (hf : RecsOf false 2 w vf fs) (hl1 : ps.length ≤ 300) (hl2 : fs.length ≤ 300) (sV : szR V 1000) (sp : recS ps) (sf : recS fs) :
    Calls Tryz.prog 19 #[vV, vp, vf] w (RetMtQ (lkOf V ps fs) w) := by
  obtain ⟨x1, rfl⟩ := hV.open3
  have HS := Lib.hid ((Sx.init w).addQ hV)
  have HZp := Lib.hid sp
  have HZf := Lib.hid sf
  have SV := Lib.hid sV
  have SV0 := Lib.hid sV
  obtain ⟨aps, cps, rfl, hEp⟩ := hp
  obtain ⟨afs, cfs, rfl, hEf⟩ := hf
  have HEp := Lib.hid hEp
  have HEf := Lib.hid hEf
  clear hEp hEf hV sp sf sV
  by_cases h1 : fs.length < 1
  ·
    have HR : Hid (lkOf V ps fs = (0, 0, 4)) := by show _ = _; unfold lkOf; rw [if_pos (by omega)]
    have t1 : decide ((fs.length : Int) < 1) = true := decide_eq_true (by omega)
    have t1b : decide (fs.length < 1) = true := decide_eq_true (by omega)
    go_enter Tryz.func19, Tryz.ntmps19
    go_wp2_with fail
    generalize hW1 : ((w).alloc (.cells _ _)).alloc (.cells _ _) = W1 at *
    replace HS : Hid (Sx w W1 [(w.heap.size + 1, #[.bool false, .slice none 0 0, .slice none 0 0, .bool false, .slice none 0 0, .slice none 0 0], 42), (w.heap.size, x1.arr, 40)] [(false, x1.val, V)]) := by subst hW1; exact ((HS.out).alloc (B := w.heap.size) rfl (by rfl)).alloc (B := w.heap.size + 1) (by simp) (by rfl)
    clear hW1
    refine (none_any _).mono ?_
    rintro e w2 ⟨v2, rfl, ⟨z2a, z2b, rfl, hv2, hw2⟩, hb2⟩
    replace HS := Lib.hid (HS.out.below hb2)
    clear hb2
    replace HS := Lib.hid (HS.out.addQ hv2)
    clear hv2
    replace HS := Lib.hid (HS.out.addQ hw2)
    clear hw2
    have b1e := (HS.out.at 0 _ _ _ rfl)
    have b1c0 := blk_cell b1e 0 (.bool false) rfl
    have b1c1 := blk_cell b1e 1 (.slice none 0 0) rfl
    have b1c2 := blk_cell b1e 2 (.slice none 0 0) rfl
    have b1c3 := blk_cell b1e 3 (.bool false) rfl
    have b1c4 := blk_cell b1e 4 (.slice none 0 0) rfl
    have b1c5 := blk_cell b1e 5 (.slice none 0 0) rfl
    have b1f0 := blk_frozen b1e 0
    have b1f1 := blk_frozen b1e 1
    have b1f2 := blk_frozen b1e 2
    have b1f3 := blk_frozen b1e 3
    have b1f4 := blk_frozen b1e 4
    have b1f5 := blk_frozen b1e 5
    have b1l := blk_lt b1e
    clear b1e
    go_wp2_with fail
    clear b1c0 b1c1 b1c2 b1c3 b1c4 b1c5 b1f0 b1f1 b1f2 b1f3 b1f4 b1f5 b1l
    generalize hW3 : ((((((w2).setCell _ _).setCell _ _).setCell _ _).setCell _ _).setCell _ _).setCell _ _ = W3 at *
    replace HS : Hid (Sx w W3 [(w.heap.size + 1, arr6 z2a z2b, 42), (w.heap.size, x1.arr, 40)] [(false, z2b.val, 0), (false, z2a.val, 0), (false, x1.val, V)]) := by subst hW3; exact (HS.out).st_RR 0 r30 r30 z2a z2b rfl
    clear hW3
    obtain ⟨b1c0, b1c1, b1c2, b1c3, b1c4, b1c5, _⟩ := fac6 (x := z2a) (y := z2b) (HS.out.at 0 _ _ _ rfl)
    refine bodyPost_ret (v := .tuple #[.agg #[.bool z2a.b, .slice z2a.a z2a.n z2a.c, .slice z2a.d z2a.m z2a.e, .bool z2b.b, .slice z2b.a z2b.n z2b.c, .slice z2b.d z2b.m z2b.e], .int .i64 4]) (by simp [results, Tryz.results19, go_sem, b1c0, b1c1, b1c2, b1c3, b1c4, b1c5]) rfl (by rw [HR.out]; exact ⟨_, rfl, (rngQ (HS.out.q 1 _ _ rfl) (HS.out.q 0 _ _ rfl)), HS.out.bel⟩)
  by_cases h2 : 256 < fs.length
  ·
    have HR : Hid (lkOf V ps fs = (0, 0, 4)) := by show _ = _; unfold lkOf; rw [if_pos (by omega)]
    have t1 : decide ((fs.length : Int) < 1) = false := decide_eq_false (by omega)
    have t1b : decide (fs.length < 1) = false := decide_eq_false (by omega)
    have t2 : decide ((fs.length : Int) > 256) = true := decide_eq_true (by omega)
    have t2b : decide (256 < fs.length) = true := decide_eq_true (by omega)
    clear h1 h2
    go_enter Tryz.func19, Tryz.ntmps19
    go_wp2_with fail
    generalize hW4 : ((w).alloc (.cells _ _)).alloc (.cells _ _) = W4 at *
    replace HS : Hid (Sx w W4 [(w.heap.size + 1, #[.bool false, .slice none 0 0, .slice none 0 0, .bool false, .slice none 0 0, .slice none 0 0], 42), (w.heap.size, x1.arr, 40)] [(false, x1.val, V)]) := by subst hW4; exact ((HS.out).alloc (B := w.heap.size) rfl (by rfl)).alloc (B := w.heap.size + 1) (by simp) (by rfl)
    clear hW4
    refine (none_any _).mono ?_
    rintro e w5 ⟨v5, rfl, ⟨z5a, z5b, rfl, hv5, hw5⟩, hb5⟩
    replace HS := Lib.hid (HS.out.below hb5)
    clear hb5
    replace HS := Lib.hid (HS.out.addQ hv5)
    clear hv5
    replace HS := Lib.hid (HS.out.addQ hw5)
    clear hw5
    have b1e := (HS.out.at 0 _ _ _ rfl)
    have b1c0 := blk_cell b1e 0 (.bool false) rfl
    have b1c1 := blk_cell b1e 1 (.slice none 0 0) rfl
    have b1c2 := blk_cell b1e 2 (.slice none 0 0) rfl
    have b1c3 := blk_cell b1e 3 (.bool false) rfl
    have b1c4 := blk_cell b1e 4 (.slice none 0 0) rfl
    have b1c5 := blk_cell b1e 5 (.slice none 0 0) rfl
    have b1f0 := blk_frozen b1e 0
    have b1f1 := blk_frozen b1e 1
    have b1f2 := blk_frozen b1e 2
    have b1f3 := blk_frozen b1e 3
    have b1f4 := blk_frozen b1e 4
    have b1f5 := blk_frozen b1e 5
    have b1l := blk_lt b1e
    clear b1e
    go_wp2_with fail
    clear b1c0 b1c1 b1c2 b1c3 b1c4 b1c5 b1f0 b1f1 b1f2 b1f3 b1f4 b1f5 b1l
    generalize hW6 : ((((((w5).setCell _ _).setCell _ _).setCell _ _).setCell _ _).setCell _ _).setCell _ _ = W6 at *
    replace HS : Hid (Sx w W6 [(w.heap.size + 1, arr6 z5a z5b, 42), (w.heap.size, x1.arr, 40)] [(false, z5b.val, 0), (false, z5a.val, 0), (false, x1.val, V)]) := by subst hW6; exact (HS.out).st_RR 0 r30 r30 z5a z5b rfl
    clear hW6
    obtain ⟨b1c0, b1c1, b1c2, b1c3, b1c4, b1c5, _⟩ := fac6 (x := z5a) (y := z5b) (HS.out.at 0 _ _ _ rfl)
    refine bodyPost_ret (v := .tuple #[.agg #[.bool z5a.b, .slice z5a.a z5a.n z5a.c, .slice z5a.d z5a.m z5a.e, .bool z5b.b, .slice z5b.a z5b.n z5b.c, .slice z5b.d z5b.m z5b.e], .int .i64 4]) (by simp [results, Tryz.results19, go_sem, b1c0, b1c1, b1c2, b1c3, b1c4, b1c5]) rfl (by rw [HR.out]; exact ⟨_, rfl, (rngQ (HS.out.q 1 _ _ rfl) (HS.out.q 0 _ _ rfl)), HS.out.bel⟩)
  by_cases h3 : ps.length = fs.length + 1
  ·
    have HLN : Hid (¬ fs.length < 1 ∧ ¬ 256 < fs.length ∧ ps.length = fs.length + 1) := ⟨h1, h2, h3⟩
    have t1 : decide ((fs.length : Int) < 1) = false := decide_eq_false (by omega)
    have t1b : decide (fs.length < 1) = false := decide_eq_false (by omega)
    have t2 : decide ((fs.length : Int) > 256) = false := decide_eq_false (by omega)
    have t2b : decide (256 < fs.length) = false := decide_eq_false (by omega)
    have t3 : ((ps.length : Int) != (fs.length : Int) + 1) = false := by simp; omega
    have t3b : (ps.length != fs.length + 1) = false := by simp; omega
    have t3c : ((ps.length : Int) == (fs.length : Int) + 1) = true := by simp; omega
    clear h1 h2 h3
    go_enter Tryz.func19, Tryz.ntmps19
    go_wp2_with fail
    generalize hW7 : ((w).alloc (.cells _ _)).alloc (.cells _ _) = W7 at *
    replace HS : Hid (Sx w W7 [(w.heap.size + 1, #[.bool false, .slice none 0 0, .slice none 0 0, .bool false, .slice none 0 0, .slice none 0 0], 42), (w.heap.size, x1.arr, 40)] [(false, x1.val, V)]) := by subst hW7; exact ((HS.out).alloc (B := w.heap.size) rfl (by rfl)).alloc (B := w.heap.size + 1) (by simp) (by rfl)
    clear hW7
    obtain ⟨c8, hc8⟩ : ∃ κ, κ = sgnI (decide (V.num < 0)) V.num.natAbs := ⟨_, rfl⟩
    have HC8 := Lib.hid hc8
    clear hc8
    refine (qsignR_any V _ _ (HS.out.q 0 _ _ rfl)).mono ?_
    rw [← HC8.out]
    rintro e w8 ⟨rfl, hb8⟩
    replace HS := Lib.hid (HS.out.below hb8)
    clear hb8
    by_cases t9p : c8 ≤ 0
    ·
      have t9 : decide (c8 ≤ 0) = true := decide_eq_true t9p
      have T9 := Lib.hid t9p
      clear t9p
      go_wp2_with fail
      refine (none_any _).mono ?_
      rintro e w10 ⟨v10, rfl, ⟨z10a, z10b, rfl, hv10, hw10⟩, hb10⟩
      replace HS := Lib.hid (HS.out.below hb10)
      clear hb10
      replace HS := Lib.hid (HS.out.addQ hv10)
      clear hv10
      replace HS := Lib.hid (HS.out.addQ hw10)
      clear hw10
      have b1e := (HS.out.at 0 _ _ _ rfl)
      have b1c0 := blk_cell b1e 0 (.bool false) rfl
      have b1c1 := blk_cell b1e 1 (.slice none 0 0) rfl
      have b1c2 := blk_cell b1e 2 (.slice none 0 0) rfl
      have b1c3 := blk_cell b1e 3 (.bool false) rfl
      have b1c4 := blk_cell b1e 4 (.slice none 0 0) rfl
      have b1c5 := blk_cell b1e 5 (.slice none 0 0) rfl
      have b1f0 := blk_frozen b1e 0
      have b1f1 := blk_frozen b1e 1
      have b1f2 := blk_frozen b1e 2
      have b1f3 := blk_frozen b1e 3
      have b1f4 := blk_frozen b1e 4
      have b1f5 := blk_frozen b1e 5
      have b1l := blk_lt b1e
      clear b1e
      go_wp2_with fail
      clear b1c0 b1c1 b1c2 b1c3 b1c4 b1c5 b1f0 b1f1 b1f2 b1f3 b1f4 b1f5 b1l
      generalize hW11 : ((((((w10).setCell _ _).setCell _ _).setCell _ _).setCell _ _).setCell _ _).setCell _ _ = W11 at *
      replace HS : Hid (Sx w W11 [(w.heap.size + 1, arr6 z10a z10b, 42), (w.heap.size, x1.arr, 40)] [(false, z10b.val, 0), (false, z10a.val, 0), (false, x1.val, V)]) := by subst hW11; exact (HS.out).st_RR 0 r30 r30 z10a z10b rfl
      clear hW11
      have HR : Hid (lkOf V ps fs = (0, 0, 1)) := by show _ = _; unfold lkOf; rw [if_neg (by have := HLN.out; omega), if_pos (by rw [← HC8.out]; have := T9.out; omega)]
      obtain ⟨b1c0, b1c1, b1c2, b1c3, b1c4, b1c5, _⟩ := fac6 (x := z10a) (y := z10b) (HS.out.at 0 _ _ _ rfl)
      refine bodyPost_ret (v := .tuple #[.agg #[.bool z10a.b, .slice z10a.a z10a.n z10a.c, .slice z10a.d z10a.m z10a.e, .bool z10b.b, .slice z10b.a z10b.n z10b.c, .slice z10b.d z10b.m z10b.e], .int .i64 1]) (by simp [results, Tryz.results19, go_sem, b1c0, b1c1, b1c2, b1c3, b1c4, b1c5]) rfl (by rw [HR.out]; exact ⟨_, rfl, (rngQ (HS.out.q 1 _ _ rfl) (HS.out.q 0 _ _ rfl)), HS.out.bel⟩)
    ·
      have t9 : decide (c8 ≤ 0) = false := decide_eq_false t9p
      have T9 := Lib.hid t9p
      clear t9p
      go_wp2_with fail
      generalize hW12 : (w8).alloc (.cells _ _) = W12 at *
      replace HS : Hid (Sx w W12 [(w8.heap.size, #[.bool false, .slice none 0 0, .slice none 0 0, .bool false, .slice none 0 0, .slice none 0 0], 42), (w.heap.size + 1, #[.bool false, .slice none 0 0, .slice none 0 0, .bool false, .slice none 0 0, .slice none 0 0], 42), (w.heap.size, x1.arr, 40)] [(false, x1.val, V)]) := by subst hW12; exact (HS.out).alloc (B := w8.heap.size) rfl (by rfl)
      clear hW12
      go_loopw [9] (fun u9 wr => ∃ (i : Nat) (m1 m2 : R3), i ≤ fs.length ∧ u9 = .int .i64 i ∧ Hid ((lkUp V ps fs i).2.2 = 0) ∧ Hid (Sx w wr [(w8.heap.size, arr6 m1 m2, 42), (w.heap.size + 1, #[.bool false, .slice none 0 0, .slice none 0 0, .bool false, .slice none 0 0, .slice none 0 0], 42), (w.heap.size, x1.arr, 40)] [(false, m2.val, (lkUp V ps fs i).2.1), (false, m1.val, (lkUp V ps fs i).1), (false, x1.val, V)]))
        (fun u _ => fs.length - (intOf u).toNat)
      case atStart => exact ⟨0, r30, r30, Nat.zero_le _, rfl, Lib.hid rfl, Lib.hid ((((HS.out.bare).addQ (HS.out.q 0 _ _ rfl)).addQ (IsR.zero _)).addQ (IsR.zero _))⟩
      case round =>
        obtain ⟨wr13, hwr13⟩ : ∃ z, z = wr := ⟨_, rfl⟩
        subst hwr13
        clear HS
        obtain ⟨i, m1, m2, hi, rfl, HOK, HS⟩ := hrel
        by_cases hlt : i < fs.length
        ·
          have hlt' : (i : Int) < fs.length := by omega
          have hge' : (0 : Int) ≤ i := by omega
          have HLT := Lib.hid hlt
          obtain ⟨bfs, ofs, rfl, hbf, hEEfs⟩ := HEf.out (by omega)
          have HBLfs := Lib.hid hbf
          obtain ⟨i1, hi1⟩ : ∃ j, j = i + 1 := ⟨_, rfl⟩
          have HI1 := Lib.hid hi1
          have hl1 : i1 < ps.length := by have := HLN.out.2.2; omega
          have hl0 : i < ps.length := by omega
          obtain ⟨bps, ops, rfl, hbp, hEEps⟩ := HEp.out (by omega)
          have HBLps := Lib.hid hbp
          clear hbf hbp
          obtain ⟨Fx, Fg0, Fg1, Fg2, Fhx⟩ := hEEfs i hlt 0 (by omega)
          have F0 : Hid (w.cell? ⟨bfs, ofs + i * 6, none⟩ = some (.bool Fx.b)) := Fg0
          have F1 : Hid (w.cell? ⟨bfs, ofs + i * 6 + 1, none⟩ = some (.slice Fx.a Fx.n Fx.c)) := Fg1
          have F2 : Hid (w.cell? ⟨bfs, ofs + i * 6 + 2, none⟩ = some (.slice Fx.d Fx.m Fx.e)) := Fg2
          clear Fg0 Fg1 Fg2
          obtain ⟨Fy, Fg0, Fg1, Fg2, Fhy⟩ := hEEfs i hlt 1 (by omega)
          have F3 : Hid (w.cell? ⟨bfs, ofs + i * 6 + 3, none⟩ = some (.bool Fy.b)) := Fg0
          have F4 : Hid (w.cell? ⟨bfs, ofs + i * 6 + 4, none⟩ = some (.slice Fy.a Fy.n Fy.c)) := Fg1
          have F5 : Hid (w.cell? ⟨bfs, ofs + i * 6 + 5, none⟩ = some (.slice Fy.d Fy.m Fy.e)) := Fg2
          clear Fg0 Fg1 Fg2
          replace HS := Lib.hid ((HS.out.addQ (Fr.below Fhx HS.out.bel)).addQ (Fr.below Fhy HS.out.bel))
          clear Fhx Fhy
          obtain ⟨Qx, Qg0, Qg1, Qg2, Qhx⟩ := hEEps i1 hl1 0 (by omega)
          have Q0 : Hid (w.cell? ⟨bps, ops + i1 * 6, none⟩ = some (.bool Qx.b)) := Qg0
          have Q1 : Hid (w.cell? ⟨bps, ops + i1 * 6 + 1, none⟩ = some (.slice Qx.a Qx.n Qx.c)) := Qg1
          have Q2 : Hid (w.cell? ⟨bps, ops + i1 * 6 + 2, none⟩ = some (.slice Qx.d Qx.m Qx.e)) := Qg2
          clear Qg0 Qg1 Qg2
          obtain ⟨Qy, Qg0, Qg1, Qg2, Qhy⟩ := hEEps i1 hl1 1 (by omega)
          have Q3 : Hid (w.cell? ⟨bps, ops + i1 * 6 + 3, none⟩ = some (.bool Qy.b)) := Qg0
          have Q4 : Hid (w.cell? ⟨bps, ops + i1 * 6 + 4, none⟩ = some (.slice Qy.a Qy.n Qy.c)) := Qg1
          have Q5 : Hid (w.cell? ⟨bps, ops + i1 * 6 + 5, none⟩ = some (.slice Qy.d Qy.m Qy.e)) := Qg2
          clear Qg0 Qg1 Qg2
          replace HS := Lib.hid ((HS.out.addQ (Fr.below Qhx HS.out.bel)).addQ (Fr.below Qhy HS.out.bel))
          clear Qhx Qhy
          obtain ⟨Px, Pg0, Pg1, Pg2, Phx⟩ := hEEps i hl0 0 (by omega)
          have P0 : Hid (w.cell? ⟨bps, ops + i * 6, none⟩ = some (.bool Px.b)) := Pg0
          have P1 : Hid (w.cell? ⟨bps, ops + i * 6 + 1, none⟩ = some (.slice Px.a Px.n Px.c)) := Pg1
          have P2 : Hid (w.cell? ⟨bps, ops + i * 6 + 2, none⟩ = some (.slice Px.d Px.m Px.e)) := Pg2
          clear Pg0 Pg1 Pg2
          obtain ⟨Py, Pg0, Pg1, Pg2, Phy⟩ := hEEps i hl0 1 (by omega)
          have P3 : Hid (w.cell? ⟨bps, ops + i * 6 + 3, none⟩ = some (.bool Py.b)) := Pg0
          have P4 : Hid (w.cell? ⟨bps, ops + i * 6 + 4, none⟩ = some (.slice Py.a Py.n Py.c)) := Pg1
          have P5 : Hid (w.cell? ⟨bps, ops + i * 6 + 5, none⟩ = some (.slice Py.d Py.m Py.e)) := Pg2
          clear Pg0 Pg1 Pg2
          replace HS := Lib.hid ((HS.out.addQ (Fr.below Phx HS.out.bel)).addQ (Fr.below Phy HS.out.bel))
          clear Phx Phy
          have HXL : Hid (lkLo V ps fs i = (fs.getD i []).getD 0 0 + loQ (loQ (V * ((ps.getD i1 []).getD 0 0 + -((ps.getD i []).getD 1 0))) (V * ((ps.getD i1 []).getD 1 0 + -((ps.getD i []).getD 0 0)))) (loQ (V * ((ps.getD i1 []).getD 0 0 + -((ps.getD i []).getD 1 0))) (V * ((ps.getD i1 []).getD 1 0 + -((ps.getD i []).getD 0 0))))) := by rw [hi1]; rfl
          have HXH : Hid (lkHi V ps fs i = (fs.getD i []).getD 1 0 + hiQ (hiQ (V * ((ps.getD i1 []).getD 0 0 + -((ps.getD i []).getD 1 0))) (V * ((ps.getD i1 []).getD 1 0 + -((ps.getD i []).getD 0 0)))) (hiQ (V * ((ps.getD i1 []).getD 0 0 + -((ps.getD i []).getD 1 0))) (V * ((ps.getD i1 []).getD 1 0 + -((ps.getD i []).getD 0 0))))) := by rw [hi1]; rfl
          have SF0 := Lib.hid (HZf.out i 0)
          have SF1 := Lib.hid (HZf.out i 1)
          have SQ0 := Lib.hid (HZp.out i1 0)
          have SQ1 := Lib.hid (HZp.out i1 1)
          have SP0 := Lib.hid (HZp.out i 0)
          have SP1 := Lib.hid (HZp.out i 1)
          have HLS := Lib.hid (lk_sz SV0.out HZp.out HZf.out i)
          have HUS := Lib.hid (lkUp_sz SV0.out HZp.out HZf.out i)
          have hw : IntKind.i64.wrap ((i : Int) + 1) = (i1 : Int) := (IntWalk.i64_in _ (by omega)).trans (by omega)
          have hj1 : (0 : Int) ≤ i1 := by omega
          have hj2 : (i1 : Int) < ps.length := by omega
          have hj3 : (i : Int) < ps.length := by omega
          clear hEEfs hEEps hi1 hl1 hl0
          generalize (fs.getD i []).getD 0 0 = f0 at *
          generalize (fs.getD i []).getD 1 0 = f1 at *
          generalize (ps.getD i1 []).getD 0 0 = p0 at *
          generalize (ps.getD i1 []).getD 1 0 = p1 at *
          generalize (ps.getD i []).getD 0 0 = r0 at *
          generalize (ps.getD i []).getD 1 0 = r1 at *
          clear hlt
          go_wp2_with fail
          refine wp_region_held_drew (S := (fun w' => Sx w w' [(w8.heap.size, arr6 m1 m2, 42), (w.heap.size + 1, #[.bool false, .slice none 0 0, .slice none 0 0, .bool false, .slice none 0 0, .slice none 0 0], 42), (w.heap.size, x1.arr, 40)] [])) (by kernel_rfl) ((HS.out.drew).bare) (fun hh => ?_)
          replace HS := Lib.hid HS.out.drew
          have HSW := Lib.hid HS.out.bel.size
          refine tkA (i := 0) (v := ?vpr14_0_k16) rfl (Or.inl ⟨by first | rfl | kernel_rfl, ?hypr14_0_k16⟩) (by assumption) ?repr14_0_k16
          case hypr14_0_k16 => (intro u hSu; (first | (go_simp; done) | (go_simp; with_reducible rfl)))
          try simp only [nb1, nb2, nb3, Act.put, nb4, nb5, nb6]
          refine tkA (i := 1) (v := ?vpr14_1_k18) rfl (Or.inl ⟨by first | rfl | kernel_rfl, ?hypr14_1_k18⟩) (by assumption) ?repr14_1_k18
          case hypr14_1_k18 => (intro u hSu; (first | (go_simp; done) | (go_simp; with_reducible rfl)))
          try simp only [nb1, nb2, nb3, Act.put, nb4, nb5, nb6]
          refine tkA (i := 2) (v := ?vpr14_2_k20) rfl (Or.inl ⟨by first | rfl | kernel_rfl, ?hypr14_2_k20⟩) (by assumption) ?repr14_2_k20
          case hypr14_2_k20 => (intro u hSu; (first | (go_simp; done) | (go_simp; with_reducible rfl)))
          try simp only [nb1, nb2, nb3, Act.put, nb4, nb5, nb6]
          refine tkA (i := 3) (v := ?vpr14_3_k22) rfl (Or.inl ⟨by first | rfl | kernel_rfl, ?hypr14_3_k22⟩) (by assumption) ?repr14_3_k22
          case hypr14_3_k22 => (intro u hSu; (try dsimp only at hSu); have Fc0 := (hSu.bel.cell (p := ⟨bfs, ofs + i * 6, none⟩) HBLfs.out).trans F0.out; have Fc1 := (hSu.bel.cell (p := ⟨bfs, ofs + i * 6 + 1, none⟩) HBLfs.out).trans F1.out; have Fc2 := (hSu.bel.cell (p := ⟨bfs, ofs + i * 6 + 2, none⟩) HBLfs.out).trans F2.out; have Fc3 := (hSu.bel.cell (p := ⟨bfs, ofs + i * 6 + 3, none⟩) HBLfs.out).trans F3.out; have Fc4 := (hSu.bel.cell (p := ⟨bfs, ofs + i * 6 + 4, none⟩) HBLfs.out).trans F4.out; have Fc5 := (hSu.bel.cell (p := ⟨bfs, ofs + i * 6 + 5, none⟩) HBLfs.out).trans F5.out; clear hSu; (first | (go_simp; done) | (go_simp; with_reducible rfl)))
          try simp only [nb1, nb2, nb3, Act.put, nb4, nb5, nb6]
          refine tkA (i := 4) (v := ?vpr14_4_k24) rfl (Or.inl ⟨by first | rfl | kernel_rfl, ?hypr14_4_k24⟩) (by assumption) ?repr14_4_k24
          case hypr14_4_k24 => (intro u hSu; (try dsimp only at hSu); obtain ⟨qb0c0, qb0c1, qb0c2, _⟩ := fac3 (x := x1) (hSu.at 2 _ _ _ rfl); clear hSu; (first | (go_simp; done) | (go_simp; with_reducible rfl)))
          try simp only [nb1, nb2, nb3, Act.put, nb4, nb5, nb6]
          refine tkA (i := 6) (v := ?vpr14_6_k26) rfl (Or.inl ⟨by first | rfl | kernel_rfl, ?hypr14_6_k26⟩) (by assumption) ?repr14_6_k26
          case hypr14_6_k26 => (intro u hSu; (first | (go_simp; done) | (go_simp; with_reducible rfl)))
          try simp only [nb1, nb2, nb3, Act.put, nb4, nb5, nb6]
          refine tkA (i := 7) (v := ?vpr14_7_k28) rfl (Or.inl ⟨by first | rfl | kernel_rfl, ?hypr14_7_k28⟩) (by assumption) ?repr14_7_k28
          case hypr14_7_k28 => (intro u hSu; (first | (go_simp; done) | (go_simp; with_reducible rfl)))
          try simp only [nb1, nb2, nb3, Act.put, nb4, nb5, nb6]
          refine tkA (i := 8) (v := ?vpr14_8_k30) rfl (Or.inl ⟨by first | rfl | kernel_rfl, ?hypr14_8_k30⟩) (by assumption) ?repr14_8_k30
          case hypr14_8_k30 => (intro u hSu; (first | (go_simp; done) | (go_simp; with_reducible rfl)))
          try simp only [nb1, nb2, nb3, Act.put, nb4, nb5, nb6]
          refine tkA (i := 9) (v := ?vpr14_9_k32) rfl (Or.inl ⟨by first | rfl | kernel_rfl, ?hypr14_9_k32⟩) (by assumption) ?repr14_9_k32
          case hypr14_9_k32 => (intro u hSu; (first | (go_simp; done) | (go_simp; with_reducible rfl)))
          try simp only [nb1, nb2, nb3, Act.put, nb4, nb5, nb6]
          refine tkA (i := 10) (v := ?vpr14_10_k34) rfl (Or.inl ⟨by first | rfl | kernel_rfl, ?hypr14_10_k34⟩) (by assumption) ?repr14_10_k34
          case hypr14_10_k34 => (intro u hSu; (try dsimp only at hSu); have Qc0 := (hSu.bel.cell (p := ⟨bps, ops + i1 * 6, none⟩) HBLps.out).trans Q0.out; have Qc1 := (hSu.bel.cell (p := ⟨bps, ops + i1 * 6 + 1, none⟩) HBLps.out).trans Q1.out; have Qc2 := (hSu.bel.cell (p := ⟨bps, ops + i1 * 6 + 2, none⟩) HBLps.out).trans Q2.out; have Qc3 := (hSu.bel.cell (p := ⟨bps, ops + i1 * 6 + 3, none⟩) HBLps.out).trans Q3.out; have Qc4 := (hSu.bel.cell (p := ⟨bps, ops + i1 * 6 + 4, none⟩) HBLps.out).trans Q4.out; have Qc5 := (hSu.bel.cell (p := ⟨bps, ops + i1 * 6 + 5, none⟩) HBLps.out).trans Q5.out; clear hSu; (first | (go_simp; done) | (go_simp; with_reducible rfl)))
          try simp only [nb1, nb2, nb3, Act.put, nb4, nb5, nb6]
          refine tkA (i := 11) (v := ?vpr14_11_k36) rfl (Or.inl ⟨by first | rfl | kernel_rfl, ?hypr14_11_k36⟩) (by assumption) ?repr14_11_k36
          case hypr14_11_k36 => (intro u hSu; (first | (go_simp; done) | (go_simp; with_reducible rfl)))
          try simp only [nb1, nb2, nb3, Act.put, nb4, nb5, nb6]
          refine tkA (i := 12) (v := ?vpr14_12_k38) rfl (Or.inl ⟨by first | rfl | kernel_rfl, ?hypr14_12_k38⟩) (by assumption) ?repr14_12_k38
          case hypr14_12_k38 => (intro u hSu; (first | (go_simp; done) | (go_simp; with_reducible rfl)))
          try simp only [nb1, nb2, nb3, Act.put, nb4, nb5, nb6]
          refine tkA (i := 13) (v := ?vpr14_13_k40) rfl (Or.inl ⟨by first | rfl | kernel_rfl, ?hypr14_13_k40⟩) (by assumption) ?repr14_13_k40
          case hypr14_13_k40 => (intro u hSu; (first | (go_simp; done) | (go_simp; with_reducible rfl)))
          try simp only [nb1, nb2, nb3, Act.put, nb4, nb5, nb6]
          refine tkA (i := 14) (v := ?vpr14_14_k42) rfl (Or.inl ⟨by first | rfl | kernel_rfl, ?hypr14_14_k42⟩) (by assumption) ?repr14_14_k42
          case hypr14_14_k42 => (intro u hSu; (try dsimp only at hSu); have Pc0 := (hSu.bel.cell (p := ⟨bps, ops + i * 6, none⟩) HBLps.out).trans P0.out; have Pc1 := (hSu.bel.cell (p := ⟨bps, ops + i * 6 + 1, none⟩) HBLps.out).trans P1.out; have Pc2 := (hSu.bel.cell (p := ⟨bps, ops + i * 6 + 2, none⟩) HBLps.out).trans P2.out; have Pc3 := (hSu.bel.cell (p := ⟨bps, ops + i * 6 + 3, none⟩) HBLps.out).trans P3.out; have Pc4 := (hSu.bel.cell (p := ⟨bps, ops + i * 6 + 4, none⟩) HBLps.out).trans P4.out; have Pc5 := (hSu.bel.cell (p := ⟨bps, ops + i * 6 + 5, none⟩) HBLps.out).trans P5.out; clear hSu; (first | (go_simp; done) | (go_simp; with_reducible rfl)))
          try simp only [nb1, nb2, nb3, Act.put, nb4, nb5, nb6]
          refine wpAnyH_modular [5, 15, 16, 17, 18] [5, 15, 16, 17, 18] [] [45, 55, 56, 57, 10] #[true, true, true, true, true, true, true, true, true, true, true, true, true, true, true, true, true, true, true, false] 1 [(5, 45), (15, 55), (16, 56), (17, 57), (18, 10)] [(5, []), (15, [5]), (16, [5, 15]), (17, [16]), (18, [])] [18] [(5, fun v w => ∃ z43a z43b : R3, v = .agg #[.bool z43a.b, .slice z43a.a z43a.n z43a.c, .slice z43a.d z43a.m z43a.e, .bool z43b.b, .slice z43b.a z43b.n z43b.c, .slice z43b.d z43b.m z43b.e] ∧ Fr false w z43a.val V ∧ Fr false w z43b.val V), (15, fun v w => ∃ z44a z44b : R3, v = .agg #[.bool z44a.b, .slice z44a.a z44a.n z44a.c, .slice z44a.d z44a.m z44a.e, .bool z44b.b, .slice z44b.a z44b.n z44b.c, .slice z44b.d z44b.m z44b.e] ∧ Fr false w z44a.val (p0 + -r1) ∧ Fr false w z44b.val (p1 + -r0)), (16, fun v w => ∃ z45a z45b : R3, v = .agg #[.bool z45a.b, .slice z45a.a z45a.n z45a.c, .slice z45a.d z45a.m z45a.e, .bool z45b.b, .slice z45b.a z45b.n z45b.c, .slice z45b.d z45b.m z45b.e] ∧ Fr false w z45a.val (loQ (loQ (V * (p0 + -r1)) (V * (p1 + -r0))) (loQ (V * (p0 + -r1)) (V * (p1 + -r0)))) ∧ Fr false w z45b.val (hiQ (hiQ (V * (p0 + -r1)) (V * (p1 + -r0))) (hiQ (V * (p0 + -r1)) (V * (p1 + -r0))))), (17, fun v w => ∃ z46a z46b : R3, v = .agg #[.bool z46a.b, .slice z46a.a z46a.n z46a.c, .slice z46a.d z46a.m z46a.e, .bool z46b.b, .slice z46b.a z46b.n z46b.c, .slice z46b.d z46b.m z46b.e] ∧ Fr false w z46a.val (f0 + (loQ (loQ (V * (p0 + -r1)) (V * (p1 + -r0))) (loQ (V * (p0 + -r1)) (V * (p1 + -r0))))) ∧ Fr false w z46b.val (f1 + (hiQ (hiQ (V * (p0 + -r1)) (V * (p1 + -r0))) (hiQ (V * (p0 + -r1)) (V * (p1 + -r0)))))), (18, fun v w => ∃ Br14_18 : Nat, v = .pointer (some ⟨Br14_18, 0, none⟩) ∧ wr13.drew.heap.size ≤ Br14_18 ∧ w.heap[Br14_18]? = some (.cells #[.bool false, .slice none 0 0, .slice none 0 0, .bool false, .slice none 0 0, .slice none 0 0] 42 (0, 0)))]
            rfl (by kernel_rfl) (by decide) rfl ⟨(fun v w w' hb ⟨z0, z1, e, h0, h1⟩ => ⟨z0, z1, e, Fr.below h0 hb, Fr.below h1 hb⟩), ⟨(fun v w w' hb ⟨z0, z1, e, h0, h1⟩ => ⟨z0, z1, e, Fr.below h0 hb, Fr.below h1 hb⟩), ⟨(fun v w w' hb ⟨z0, z1, e, h0, h1⟩ => ⟨z0, z1, e, Fr.below h0 hb, Fr.below h1 hb⟩), ⟨(fun v w w' hb ⟨z0, z1, e, h0, h1⟩ => ⟨z0, z1, e, Fr.below h0 hb, Fr.below h1 hb⟩), ⟨(fun v w w' hb ⟨B, e, g, k⟩ => ⟨B, e, g, blk_keep k hb (blk_lt k)⟩), trivial⟩⟩⟩⟩⟩ ⟨fun v w ⟨B, e, g, k⟩ => ⟨B, e, blk_lt k⟩, trivial⟩ (fun w' hb => Sx.below hh hb) ⟨?_, ?_, ?_, ?_, ?_, trivial⟩ trivial (by decide) ?_
          ·
            refine StepM.of rfl (fun f w' hb hp K hK => ?_)
            have HSB := HS
            replace HS := Lib.hid (HS.out.below hb)
            simp only [fillA, fillT, List.foldl_cons, List.foldl_nil, Act.put, nb4, nb5, nb6]
            have a47 := HS.out.q 8 _ _ rfl
            go_simp
            go_wp2_with (go_at_call 65; (with_reducible refine (qonly_any V _ _ a47).mono ?_); rintro e w43 ⟨v43, rfl, ⟨z43a, z43b, rfl, hv43, hw43⟩, hb43⟩)
            exact hK.out _ _ (.agg #[.bool z43a.b, .slice z43a.a z43a.n z43a.c, .slice z43a.d z43a.m z43a.e, .bool z43b.b, .slice z43b.a z43b.n z43b.c, .slice z43b.d z43b.m z43b.e]) (by simp only [fillA, fillT, List.foldl_cons, List.foldl_nil, Act.put, nb4, nb5, nb6, nb1, nb2, nb3]) ⟨z43a, z43b, rfl, hv43, hw43⟩ (fun h => absurd h (by decide)) hb43
          ·
            refine StepM.of rfl (fun f w' hb hp K hK => ?_)
            have HSB := HS
            replace HS := Lib.hid (HS.out.below hb)
            simp only [fillA, fillT, List.foldl_cons, List.foldl_nil, Act.put, nb4, nb5, nb6]
            have a48 := HS.out.q 3 _ _ rfl
            have a49 := HS.out.q 2 _ _ rfl
            have a50 := HS.out.q 1 _ _ rfl
            have a51 := HS.out.q 0 _ _ rfl
            go_simp
            go_wp2_with (go_at_call 75; (with_reducible refine (qssub_any p0 p1 r0 r1 _ _ _ (rngQ a48 a49) (rngQ a50 a51) (szR_mono SQ0.out (by omega)) (szR_mono SQ1.out (by omega)) (szR_mono SP0.out (by omega)) (szR_mono SP1.out (by omega))).mono ?_); rintro e w44 ⟨v44, rfl, ⟨z44a, z44b, rfl, hv44, hw44⟩, hb44⟩)
            exact hK.out _ _ (.agg #[.bool z44a.b, .slice z44a.a z44a.n z44a.c, .slice z44a.d z44a.m z44a.e, .bool z44b.b, .slice z44b.a z44b.n z44b.c, .slice z44b.d z44b.m z44b.e]) (by simp only [fillA, fillT, List.foldl_cons, List.foldl_nil, Act.put, nb4, nb5, nb6, nb1, nb2, nb3]) ⟨z44a, z44b, rfl, hv44, hw44⟩ (fun h => absurd h (by decide)) hb44
          ·
            refine StepM.of rfl (fun f w' hb hp K hK => ?_)
            obtain ⟨z43a, z43b, e5, h5_0, h5_1⟩ : ∃ z43a z43b : R3, f 45 = .agg #[.bool z43a.b, .slice z43a.a z43a.n z43a.c, .slice z43a.d z43a.m z43a.e, .bool z43b.b, .slice z43b.a z43b.n z43b.c, .slice z43b.d z43b.m z43b.e] ∧ Fr false w' z43a.val V ∧ Fr false w' z43b.val V := hp 5 (by decide)
            obtain ⟨z44a, z44b, e15, h15_0, h15_1⟩ : ∃ z44a z44b : R3, f 55 = .agg #[.bool z44a.b, .slice z44a.a z44a.n z44a.c, .slice z44a.d z44a.m z44a.e, .bool z44b.b, .slice z44b.a z44b.n z44b.c, .slice z44b.d z44b.m z44b.e] ∧ Fr false w' z44a.val (p0 + -r1) ∧ Fr false w' z44b.val (p1 + -r0) := hp 15 (by decide)
            have HSB := HS
            replace HS := Lib.hid (HS.out.below hb)
            replace HS := Lib.hid (HS.out.addQ h5_0)
            replace HS := Lib.hid (HS.out.addQ h5_1)
            replace HS := Lib.hid (HS.out.addQ h15_0)
            replace HS := Lib.hid (HS.out.addQ h15_1)
            simp only [fillA, fillT, List.foldl_cons, List.foldl_nil, Act.put, nb4, nb5, nb6, e5, e15]
            have a52 := HS.out.q 3 _ _ rfl
            have a53 := HS.out.q 2 _ _ rfl
            have a54 := HS.out.q 1 _ _ rfl
            have a55 := HS.out.q 0 _ _ rfl
            go_simp
            go_wp2_with (go_at_call 74; (with_reducible refine (qsmul_any V V (p0 + -r1) (p1 + -r0) _ _ _ (rngQ a52 a53) (rngQ a54 a55) (szR_mono SV.out (by omega)) (szR_mono SV.out (by omega)) (szR_mono (szR_add SQ0.out (szR_neg SP1.out)) (by omega)) (szR_mono (szR_add SQ1.out (szR_neg SP0.out)) (by omega))).mono ?_); rintro e w45 ⟨v45, rfl, ⟨z45a, z45b, rfl, hv45, hw45⟩, hb45⟩)
            exact hK.out _ _ (.agg #[.bool z45a.b, .slice z45a.a z45a.n z45a.c, .slice z45a.d z45a.m z45a.e, .bool z45b.b, .slice z45b.a z45b.n z45b.c, .slice z45b.d z45b.m z45b.e]) (by simp only [fillA, fillT, List.foldl_cons, List.foldl_nil, Act.put, nb4, nb5, nb6, nb1, nb2, nb3, e5, e15]) ⟨z45a, z45b, rfl, hv45, hw45⟩ (fun h => absurd h (by decide)) hb45
          ·
            refine StepM.of rfl (fun f w' hb hp K hK => ?_)
            obtain ⟨z45a, z45b, e16, h16_0, h16_1⟩ : ∃ z45a z45b : R3, f 56 = .agg #[.bool z45a.b, .slice z45a.a z45a.n z45a.c, .slice z45a.d z45a.m z45a.e, .bool z45b.b, .slice z45b.a z45b.n z45b.c, .slice z45b.d z45b.m z45b.e] ∧ Fr false w' z45a.val (loQ (loQ (V * (p0 + -r1)) (V * (p1 + -r0))) (loQ (V * (p0 + -r1)) (V * (p1 + -r0)))) ∧ Fr false w' z45b.val (hiQ (hiQ (V * (p0 + -r1)) (V * (p1 + -r0))) (hiQ (V * (p0 + -r1)) (V * (p1 + -r0)))) := hp 16 (by decide)
            have HSB := HS
            replace HS := Lib.hid (HS.out.below hb)
            replace HS := Lib.hid (HS.out.addQ h16_0)
            replace HS := Lib.hid (HS.out.addQ h16_1)
            simp only [fillA, fillT, List.foldl_cons, List.foldl_nil, Act.put, nb4, nb5, nb6, e16]
            have a56 := HS.out.q 7 _ _ rfl
            have a57 := HS.out.q 6 _ _ rfl
            have a58 := HS.out.q 1 _ _ rfl
            have a59 := HS.out.q 0 _ _ rfl
            go_simp
            go_wp2_with (go_at_call 73; (with_reducible refine (qsadd_any f0 f1 (loQ (loQ (V * (p0 + -r1)) (V * (p1 + -r0))) (loQ (V * (p0 + -r1)) (V * (p1 + -r0)))) (hiQ (hiQ (V * (p0 + -r1)) (V * (p1 + -r0))) (hiQ (V * (p0 + -r1)) (V * (p1 + -r0)))) _ _ _ (rngQ a56 a57) (rngQ a58 a59) (szR_mono SF0.out (by omega)) (szR_mono SF1.out (by omega)) (szR_mono (loN_sz (loN_sz (szR_mul SV0.out (szR_add SQ0.out (szR_neg SP1.out))) (szR_mul SV0.out (szR_add SQ1.out (szR_neg SP0.out)))) (loN_sz (szR_mul SV0.out (szR_add SQ0.out (szR_neg SP1.out))) (szR_mul SV0.out (szR_add SQ1.out (szR_neg SP0.out))))) (by omega)) (szR_mono (hiN_sz (hiN_sz (szR_mul SV0.out (szR_add SQ0.out (szR_neg SP1.out))) (szR_mul SV0.out (szR_add SQ1.out (szR_neg SP0.out)))) (hiN_sz (szR_mul SV0.out (szR_add SQ0.out (szR_neg SP1.out))) (szR_mul SV0.out (szR_add SQ1.out (szR_neg SP0.out))))) (by omega))).mono ?_); rintro e w46 ⟨v46, rfl, ⟨z46a, z46b, rfl, hv46, hw46⟩, hb46⟩)
            exact hK.out _ _ (.agg #[.bool z46a.b, .slice z46a.a z46a.n z46a.c, .slice z46a.d z46a.m z46a.e, .bool z46b.b, .slice z46b.a z46b.n z46b.c, .slice z46b.d z46b.m z46b.e]) (by simp only [fillA, fillT, List.foldl_cons, List.foldl_nil, Act.put, nb4, nb5, nb6, nb1, nb2, nb3, e16]) ⟨z46a, z46b, rfl, hv46, hw46⟩ (fun h => absurd h (by decide)) hb46
          ·
            refine StepM.of rfl (fun f w' hb hp K hK => ?_)
            have HSB := HS
            replace HS := Lib.hid (HS.out.below hb)
            simp only [fillA, fillT, List.foldl_cons, List.foldl_nil, Act.put, nb4, nb5, nb6]
            go_simp
            exact hK.out _ _ (.pointer (some ⟨w'.heap.size, 0, none⟩)) (by simp only [fillA, fillT, List.foldl_cons, List.foldl_nil, Act.put, nb4, nb5, nb6, nb1, nb2, nb3]) ⟨_, rfl, hb.size, blk_new _ _ _⟩ (fun _ => rfl) (below1 w' _)
          ·
            intro f wr14 hb hp hd
            obtain ⟨z43a, z43b, e5, h5_0, h5_1⟩ : ∃ z43a z43b : R3, f 45 = .agg #[.bool z43a.b, .slice z43a.a z43a.n z43a.c, .slice z43a.d z43a.m z43a.e, .bool z43b.b, .slice z43b.a z43b.n z43b.c, .slice z43b.d z43b.m z43b.e] ∧ Fr false wr14 z43a.val V ∧ Fr false wr14 z43b.val V := hp 5 (by decide)
            obtain ⟨z44a, z44b, e15, h15_0, h15_1⟩ : ∃ z44a z44b : R3, f 55 = .agg #[.bool z44a.b, .slice z44a.a z44a.n z44a.c, .slice z44a.d z44a.m z44a.e, .bool z44b.b, .slice z44b.a z44b.n z44b.c, .slice z44b.d z44b.m z44b.e] ∧ Fr false wr14 z44a.val (p0 + -r1) ∧ Fr false wr14 z44b.val (p1 + -r0) := hp 15 (by decide)
            obtain ⟨z45a, z45b, e16, h16_0, h16_1⟩ : ∃ z45a z45b : R3, f 56 = .agg #[.bool z45a.b, .slice z45a.a z45a.n z45a.c, .slice z45a.d z45a.m z45a.e, .bool z45b.b, .slice z45b.a z45b.n z45b.c, .slice z45b.d z45b.m z45b.e] ∧ Fr false wr14 z45a.val (loQ (loQ (V * (p0 + -r1)) (V * (p1 + -r0))) (loQ (V * (p0 + -r1)) (V * (p1 + -r0)))) ∧ Fr false wr14 z45b.val (hiQ (hiQ (V * (p0 + -r1)) (V * (p1 + -r0))) (hiQ (V * (p0 + -r1)) (V * (p1 + -r0)))) := hp 16 (by decide)
            obtain ⟨z46a, z46b, e17, h17_0, h17_1⟩ : ∃ z46a z46b : R3, f 57 = .agg #[.bool z46a.b, .slice z46a.a z46a.n z46a.c, .slice z46a.d z46a.m z46a.e, .bool z46b.b, .slice z46b.a z46b.n z46b.c, .slice z46b.d z46b.m z46b.e] ∧ Fr false wr14 z46a.val (f0 + (loQ (loQ (V * (p0 + -r1)) (V * (p1 + -r0))) (loQ (V * (p0 + -r1)) (V * (p1 + -r0))))) ∧ Fr false wr14 z46b.val (f1 + (hiQ (hiQ (V * (p0 + -r1)) (V * (p1 + -r0))) (hiQ (V * (p0 + -r1)) (V * (p1 + -r0))))) := hp 17 (by decide)
            obtain ⟨Br14_18, e18, g18, k18⟩ : ∃ Br14_18 : Nat, f 10 = .pointer (some ⟨Br14_18, 0, none⟩) ∧ wr13.drew.heap.size ≤ Br14_18 ∧ wr14.heap[Br14_18]? = some (.cells #[.bool false, .slice none 0 0, .slice none 0 0, .bool false, .slice none 0 0, .slice none 0 0] 42 (0, 0)) := hp 18 (by decide)
            replace hh := Sx.below hh hb
            have hlt := HS.out.lt
            replace HS := Lib.hid (HS.out.below hb)
            replace HS := Lib.hid (HS.out.addQ h5_0)
            replace HS := Lib.hid (HS.out.addQ h5_1)
            replace HS := Lib.hid (HS.out.addQ h15_0)
            replace HS := Lib.hid (HS.out.addQ h15_1)
            replace HS := Lib.hid (HS.out.addQ h16_0)
            replace HS := Lib.hid (HS.out.addQ h16_1)
            replace HS := Lib.hid (HS.out.addQ h17_0)
            replace HS := Lib.hid (HS.out.addQ h17_1)
            have hge18 : w.heap.size ≤ Br14_18 := Nat.le_trans HSW.out g18
            have hne18 : ∀ b, b ∈ [(w8.heap.size, arr6 m1 m2, 42), (w.heap.size + 1, #[.bool false, .slice none 0 0, .slice none 0 0, .bool false, .slice none 0 0, .slice none 0 0], 42), (w.heap.size, x1.arr, 40)] → b.1 ≠ Br14_18 := by
              intro b hb
              simp only [List.mem_cons, List.not_mem_nil, or_false] at hb
              rcases hb with rfl | rfl | rfl
              · have := hlt _ (List.mem_iff_getElem?.2 ⟨0, rfl⟩); dsimp only at this ⊢; omega
              · have := hlt _ (List.mem_iff_getElem?.2 ⟨1, rfl⟩); dsimp only at this ⊢; omega
              · have := hlt _ (List.mem_iff_getElem?.2 ⟨2, rfl⟩); dsimp only at this ⊢; omega
            replace HS := Lib.hid (HS.out.addBox k18 hge18 (by rfl) hne18)
            simp only [fillA, fillT, List.foldl_cons, List.foldl_nil, Act.put, nb4, nb5, nb6, e5, e15, e16, e17, e18]
            clear hp hd hb hlt e5 e15 e16 e17 e18
            refine rdA (i := 19) rfl (fun K hK => ?_)
            have b3e := (HS.out.at 0 _ _ _ rfl)
            have b3c0 := blk_cell b3e 0 (.bool false) rfl
            have b3c1 := blk_cell b3e 1 (.slice none 0 0) rfl
            have b3c2 := blk_cell b3e 2 (.slice none 0 0) rfl
            have b3c3 := blk_cell b3e 3 (.bool false) rfl
            have b3c4 := blk_cell b3e 4 (.slice none 0 0) rfl
            have b3c5 := blk_cell b3e 5 (.slice none 0 0) rfl
            have b3f0 := blk_frozen b3e 0
            have b3f1 := blk_frozen b3e 1
            have b3f2 := blk_frozen b3e 2
            have b3f3 := blk_frozen b3e 3
            have b3f4 := blk_frozen b3e 4
            have b3f5 := blk_frozen b3e 5
            have b3l := blk_lt b3e
            clear b3e
            go_simp
            refine hK.out _ _ ((((HS.out).st_RR 0 r30 r30 z46a z46b rfl)).erase 0) (fun hh => ?_)
            clear hK K b3c0 b3c1 b3c2 b3c3 b3c4 b3c5 b3f0 b3f1 b3f2 b3f3 b3f4 b3f5 b3l
            try simp only [nb1, nb2, nb3, Act.put, nb4, nb5, nb6]
            generalize hW60 : ((((((wr14).setCell _ _).setCell _ _).setCell _ _).setCell _ _).setCell _ _).setCell _ _ = W60 at *
            replace HS : Hid (Sx w W60 [(Br14_18, arr6 z46a z46b, 42), (w8.heap.size, arr6 m1 m2, 42), (w.heap.size + 1, #[.bool false, .slice none 0 0, .slice none 0 0, .bool false, .slice none 0 0, .slice none 0 0], 42), (w.heap.size, x1.arr, 40)] [(false, z46b.val, (f1 + (hiQ (hiQ (V * (p0 + -r1)) (V * (p1 + -r0))) (hiQ (V * (p0 + -r1)) (V * (p1 + -r0)))))), (false, z46a.val, (f0 + (loQ (loQ (V * (p0 + -r1)) (V * (p1 + -r0))) (loQ (V * (p0 + -r1)) (V * (p1 + -r0)))))), (false, z45b.val, (hiQ (hiQ (V * (p0 + -r1)) (V * (p1 + -r0))) (hiQ (V * (p0 + -r1)) (V * (p1 + -r0))))), (false, z45a.val, (loQ (loQ (V * (p0 + -r1)) (V * (p1 + -r0))) (loQ (V * (p0 + -r1)) (V * (p1 + -r0))))), (false, z44b.val, (p1 + -r0)), (false, z44a.val, (p0 + -r1)), (false, z43b.val, V), (false, z43a.val, V), (false, Py.val, r1), (false, Px.val, r0), (false, Qy.val, p1), (false, Qx.val, p0), (false, Fy.val, f1), (false, Fx.val, f0), (false, m2.val, (lkUp V ps fs i).2.1), (false, m1.val, (lkUp V ps fs i).1), (false, x1.val, V)]) := by subst hW60; exact (HS.out).st_RR 0 r30 r30 z46a z46b rfl
            clear hW60
            refine wpAnyH_done (by kernel_rfl) ?_ _
            cases t61 : ((i : Int) == 0) with
            | true =>
              have hpp : (i : Int) = 0 := beq_iff_eq.1 t61
              generalize (f0 + (loQ (loQ (V * (p0 + -r1)) (V * (p1 + -r0))) (loQ (V * (p0 + -r1)) (V * (p1 + -r0))))) = gL at *
              generalize (f1 + (hiQ (hiQ (V * (p0 + -r1)) (V * (p1 + -r0))) (hiQ (V * (p0 + -r1)) (V * (p1 + -r0))))) = gH at *
              have HPZ : Hid (i = 0) := by show _ = _; omega
              have tp1 : decide ((i : Int) > 0) = false := decide_eq_false (by omega)
              have tp2 : decide (0 < i) = false := decide_eq_false (by omega)
              have tp3 : ((i : Int) == 0) = true := beq_iff_eq.2 (by omega)
              have tp4 : (i == 0) = true := beq_iff_eq.2 (by omega)
              clear hpp
              obtain ⟨b3c0, b3c1, b3c2, b3c3, b3c4, b3c5, b3f0, b3f1, b3f2, b3f3, b3f4, b3f5⟩ := fac6 (x := z46a) (y := z46b) (HS.out.at 0 _ _ _ rfl)
              have b3l := blk_lt (HS.out.at 0 _ _ _ rfl)
              obtain ⟨b2c0, b2c1, b2c2, b2c3, b2c4, b2c5, b2f0, b2f1, b2f2, b2f3, b2f4, b2f5⟩ := fac6 (x := m1) (y := m2) (HS.out.at 1 _ _ _ rfl)
              have b2l := blk_lt (HS.out.at 1 _ _ _ rfl)
              have bn3_2 := HS.out.ne 0 1 rfl rfl (by decide)
              go_wp2_with fail
              clear b3c0 b3c1 b3c2 b3c3 b3c4 b3c5 b3f0 b3f1 b3f2 b3f3 b3f4 b3f5 b3l b2c0 b2c1 b2c2 b2c3 b2c4 b2c5 b2f0 b2f1 b2f2 b2f3 b2f4 b2f5 b2l bn3_2
              generalize hW62 : ((((((W60).setCell _ _).setCell _ _).setCell _ _).setCell _ _).setCell _ _).setCell _ _ = W62 at *
              replace HS : Hid (Sx w W62 [(Br14_18, arr6 z46a z46b, 42), (w8.heap.size, arr6 z46a z46b, 42), (w.heap.size + 1, #[.bool false, .slice none 0 0, .slice none 0 0, .bool false, .slice none 0 0, .slice none 0 0], 42), (w.heap.size, x1.arr, 40)] [(false, z46b.val, gH), (false, z46a.val, gL), (false, z45b.val, (hiQ (hiQ (V * (p0 + -r1)) (V * (p1 + -r0))) (hiQ (V * (p0 + -r1)) (V * (p1 + -r0))))), (false, z45a.val, (loQ (loQ (V * (p0 + -r1)) (V * (p1 + -r0))) (loQ (V * (p0 + -r1)) (V * (p1 + -r0))))), (false, z44b.val, (p1 + -r0)), (false, z44a.val, (p0 + -r1)), (false, z43b.val, V), (false, z43a.val, V), (false, Py.val, r1), (false, Px.val, r0), (false, Qy.val, p1), (false, Qx.val, p0), (false, Fy.val, f1), (false, Fx.val, f0), (false, m2.val, (lkUp V ps fs i).2.1), (false, m1.val, (lkUp V ps fs i).1), (false, x1.val, V)]) := by subst hW62; exact (HS.out).st_RR 1 m1 m2 z46a z46b rfl
              clear hW62
              try rw [show (i1 : Int) = (i : Int) + 1 from by have := HI1.out; omega]
              have HN : Hid (lkUp V ps fs (i + 1) = (gL, gH, 0)) := by show _ = _; rw [← HXL.out, ← HXH.out, HPZ.out]; rfl
              have EQ1 : Hid ((lkUp V ps fs (i + 1)).1 = gL) := by show _ = _; rw [HN.out]
              have EQ2 : Hid ((lkUp V ps fs (i + 1)).2.1 = gH) := by show _ = _; rw [HN.out]
              exact ⟨⟨i + 1, z46a, z46b, by have := HLT.out; omega, by go_num, (by show _ = _; rw [HN.out]), Lib.hid (((((HS.out).erase 0).addQ (HS.out.q 16 _ _ rfl)).addQ (by rw [EQ1.out]; exact (HS.out.q 1 _ _ rfl))).addQ (by rw [EQ2.out]; exact (HS.out.q 0 _ _ rfl)))⟩, meas_up HLT.out⟩
            | false =>
              have hpp : (i : Int) ≠ 0 := beq_eq_false_iff_ne.1 t61
              generalize (f0 + (loQ (loQ (V * (p0 + -r1)) (V * (p1 + -r0))) (loQ (V * (p0 + -r1)) (V * (p1 + -r0))))) = gL at *
              generalize (f1 + (hiQ (hiQ (V * (p0 + -r1)) (V * (p1 + -r0))) (hiQ (V * (p0 + -r1)) (V * (p1 + -r0))))) = gH at *
              have HPS : Hid (0 < i) := by show _ < _; omega
              have tp1 : decide ((i : Int) > 0) = true := decide_eq_true (by omega)
              have tp2 : decide (0 < i) = true := decide_eq_true (by omega)
              have tp3 : ((i : Int) == 0) = false := beq_eq_false_iff_ne.2 (by omega)
              have tp4 : (i == 0) = false := beq_eq_false_iff_ne.2 (by omega)
              clear hpp
              obtain ⟨b2c0, b2c1, b2c2, b2c3, b2c4, b2c5, b2f0, b2f1, b2f2, b2f3, b2f4, b2f5⟩ := fac6 (x := m1) (y := m2) (HS.out.at 1 _ _ _ rfl)
              have b2l := blk_lt (HS.out.at 1 _ _ _ rfl)
              obtain ⟨b3c0, b3c1, b3c2, b3c3, b3c4, b3c5, b3f0, b3f1, b3f2, b3f3, b3f4, b3f5⟩ := fac6 (x := z46a) (y := z46b) (HS.out.at 0 _ _ _ rfl)
              have b3l := blk_lt (HS.out.at 0 _ _ _ rfl)
              have bn2_3 := HS.out.ne 1 0 rfl rfl (by decide)
              go_wp2_with fail
              clear b2c0 b2c1 b2c2 b2c3 b2c4 b2c5 b2f0 b2f1 b2f2 b2f3 b2f4 b2f5 b2l b3c0 b3c1 b3c2 b3c3 b3c4 b3c5 b3f0 b3f1 b3f2 b3f3 b3f4 b3f5 b3l bn2_3
              by_cases t63p : cmpR (hiQ ((lkUp V ps fs i).1) gL) (loQ ((lkUp V ps fs i).2.1) gH) > 0
              ·
                have t63 : decide (cmpR (hiQ ((lkUp V ps fs i).1) gL) (loQ ((lkUp V ps fs i).2.1) gH) > 0) = true := decide_eq_true t63p
                have T63 := Lib.hid t63p
                clear t63p
                refine (qmeet_no ((lkUp V ps fs i).1) ((lkUp V ps fs i).2.1) gL gH _ _ _ (rngQ (HS.out.q 15 _ _ rfl) (HS.out.q 14 _ _ rfl)) (rngQ (HS.out.q 1 _ _ rfl) (HS.out.q 0 _ _ rfl)) (szR_mono HUS.out.1 (by omega)) (szR_mono HUS.out.2 (by omega)) (szR_mono (by rw [← HXL.out]; exact HLS.out.1) (by omega)) (szR_mono (by rw [← HXH.out]; exact HLS.out.2) (by omega)) (by have := T63.out; omega)).mono ?_
                rintro e w64 ⟨v64, rfl, ⟨z64a, z64b, rfl, hv64, hw64⟩, hb64⟩
                replace HS := Lib.hid (HS.out.below hb64)
                clear hb64
                replace HS := Lib.hid (HS.out.addQ hv64)
                clear hv64
                replace HS := Lib.hid (HS.out.addQ hw64)
                clear hw64
                go_wp2_with fail
                generalize hW65 : (w64).alloc (.cells _ _) = W65 at *
                replace HS : Hid (Sx w W65 [(w64.heap.size, arr6 z64a z64b, 42), (Br14_18, arr6 z46a z46b, 42), (w8.heap.size, arr6 m1 m2, 42), (w.heap.size + 1, #[.bool false, .slice none 0 0, .slice none 0 0, .bool false, .slice none 0 0, .slice none 0 0], 42), (w.heap.size, x1.arr, 40)] [(false, z64b.val, 0), (false, z64a.val, 0), (false, z46b.val, gH), (false, z46a.val, gL), (false, z45b.val, (hiQ (hiQ (V * (p0 + -r1)) (V * (p1 + -r0))) (hiQ (V * (p0 + -r1)) (V * (p1 + -r0))))), (false, z45a.val, (loQ (loQ (V * (p0 + -r1)) (V * (p1 + -r0))) (loQ (V * (p0 + -r1)) (V * (p1 + -r0))))), (false, z44b.val, (p1 + -r0)), (false, z44a.val, (p0 + -r1)), (false, z43b.val, V), (false, z43a.val, V), (false, Py.val, r1), (false, Px.val, r0), (false, Qy.val, p1), (false, Qx.val, p0), (false, Fy.val, f1), (false, Fx.val, f0), (false, m2.val, (lkUp V ps fs i).2.1), (false, m1.val, (lkUp V ps fs i).1), (false, x1.val, V)]) := by subst hW65; exact (HS.out).alloc (B := w64.heap.size) rfl (by rfl)
                clear hW65
                refine (none_any _).mono ?_
                rintro e w66 ⟨v66, rfl, ⟨z66a, z66b, rfl, hv66, hw66⟩, hb66⟩
                replace HS := Lib.hid (HS.out.below hb66)
                clear hb66
                replace HS := Lib.hid (HS.out.addQ hv66)
                clear hv66
                replace HS := Lib.hid (HS.out.addQ hw66)
                clear hw66
                have b1e := (HS.out.at 3 _ _ _ rfl)
                have b1c0 := blk_cell b1e 0 (.bool false) rfl
                have b1c1 := blk_cell b1e 1 (.slice none 0 0) rfl
                have b1c2 := blk_cell b1e 2 (.slice none 0 0) rfl
                have b1c3 := blk_cell b1e 3 (.bool false) rfl
                have b1c4 := blk_cell b1e 4 (.slice none 0 0) rfl
                have b1c5 := blk_cell b1e 5 (.slice none 0 0) rfl
                have b1f0 := blk_frozen b1e 0
                have b1f1 := blk_frozen b1e 1
                have b1f2 := blk_frozen b1e 2
                have b1f3 := blk_frozen b1e 3
                have b1f4 := blk_frozen b1e 4
                have b1f5 := blk_frozen b1e 5
                have b1l := blk_lt b1e
                clear b1e
                go_wp2_with fail
                clear b1c0 b1c1 b1c2 b1c3 b1c4 b1c5 b1f0 b1f1 b1f2 b1f3 b1f4 b1f5 b1l
                generalize hW67 : ((((((w66).setCell _ _).setCell _ _).setCell _ _).setCell _ _).setCell _ _).setCell _ _ = W67 at *
                replace HS : Hid (Sx w W67 [(w64.heap.size, arr6 z64a z64b, 42), (Br14_18, arr6 z46a z46b, 42), (w8.heap.size, arr6 m1 m2, 42), (w.heap.size + 1, arr6 z66a z66b, 42), (w.heap.size, x1.arr, 40)] [(false, z66b.val, 0), (false, z66a.val, 0), (false, z64b.val, 0), (false, z64a.val, 0), (false, z46b.val, gH), (false, z46a.val, gL), (false, z45b.val, (hiQ (hiQ (V * (p0 + -r1)) (V * (p1 + -r0))) (hiQ (V * (p0 + -r1)) (V * (p1 + -r0))))), (false, z45a.val, (loQ (loQ (V * (p0 + -r1)) (V * (p1 + -r0))) (loQ (V * (p0 + -r1)) (V * (p1 + -r0))))), (false, z44b.val, (p1 + -r0)), (false, z44a.val, (p0 + -r1)), (false, z43b.val, V), (false, z43a.val, V), (false, Py.val, r1), (false, Px.val, r0), (false, Qy.val, p1), (false, Qx.val, p0), (false, Fy.val, f1), (false, Fx.val, f0), (false, m2.val, (lkUp V ps fs i).2.1), (false, m1.val, (lkUp V ps fs i).1), (false, x1.val, V)]) := by subst hW67; exact (HS.out).st_RR 3 r30 r30 z66a z66b rfl
                clear hW67
                have HN : Hid (lkUp V ps fs (i + 1) = (0, 0, 5)) := by show _ = _; rw [lkUp_s HOK.out HPS.out, HXL.out, HXH.out]; unfold meetE; rw [hiQ_comm _ (lkUp V ps fs i).1, loQ_comm _ (lkUp V ps fs i).2.1, if_pos (by have := T63.out; omega)]
                have HR : Hid (lkOf V ps fs = (0, 0, 5)) := by show _ = _; unfold lkOf; rw [if_neg (by have := HLN.out; omega), if_neg (by rw [← HC8.out]; have := T9.out; omega), lkUp_stay (i := i + 1) (by rw [HN.out]; decide) HLT.out, HN.out]
                obtain ⟨b1c0, b1c1, b1c2, b1c3, b1c4, b1c5, _⟩ := fac6 (x := z66a) (y := z66b) (HS.out.at 3 _ _ _ rfl)
                refine bodyPost_ret (v := .tuple #[.agg #[.bool z66a.b, .slice z66a.a z66a.n z66a.c, .slice z66a.d z66a.m z66a.e, .bool z66b.b, .slice z66b.a z66b.n z66b.c, .slice z66b.d z66b.m z66b.e], .int .i64 5]) (by simp [results, Tryz.results19, go_sem, b1c0, b1c1, b1c2, b1c3, b1c4, b1c5]) rfl (by rw [HR.out]; exact ⟨_, rfl, (rngQ (HS.out.q 1 _ _ rfl) (HS.out.q 0 _ _ rfl)), HS.out.bel⟩)
              ·
                have t63 : decide (cmpR (hiQ ((lkUp V ps fs i).1) gL) (loQ ((lkUp V ps fs i).2.1) gH) > 0) = false := decide_eq_false t63p
                have T63 := Lib.hid t63p
                clear t63p
                refine (qmeet_ok ((lkUp V ps fs i).1) ((lkUp V ps fs i).2.1) gL gH _ _ _ (rngQ (HS.out.q 15 _ _ rfl) (HS.out.q 14 _ _ rfl)) (rngQ (HS.out.q 1 _ _ rfl) (HS.out.q 0 _ _ rfl)) (szR_mono HUS.out.1 (by omega)) (szR_mono HUS.out.2 (by omega)) (szR_mono (by rw [← HXL.out]; exact HLS.out.1) (by omega)) (szR_mono (by rw [← HXH.out]; exact HLS.out.2) (by omega)) (by have := T63.out; omega)).mono ?_
                rintro e w68 ⟨v68, rfl, ⟨z68a, z68b, rfl, hv68, hw68⟩, hb68⟩
                replace HS := Lib.hid (HS.out.below hb68)
                clear hb68
                replace HS := Lib.hid (HS.out.addQ hv68)
                clear hv68
                replace HS := Lib.hid (HS.out.addQ hw68)
                clear hw68
                obtain ⟨b2c0, b2c1, b2c2, b2c3, b2c4, b2c5, b2f0, b2f1, b2f2, b2f3, b2f4, b2f5⟩ := fac6 (x := m1) (y := m2) (HS.out.at 1 _ _ _ rfl)
                have b2l := blk_lt (HS.out.at 1 _ _ _ rfl)
                go_wp2_with fail
                clear b2c0 b2c1 b2c2 b2c3 b2c4 b2c5 b2f0 b2f1 b2f2 b2f3 b2f4 b2f5 b2l
                generalize hW69 : (((((((w68).setCell _ _).setCell _ _).setCell _ _).setCell _ _).setCell _ _).setCell _ _).alloc (.cells _ _) = W69 at *
                replace HS : Hid (Sx w W69 [(w68.heap.size, arr6 z68a z68b, 42), (Br14_18, arr6 z46a z46b, 42), (w8.heap.size, arr6 z68a z68b, 42), (w.heap.size + 1, #[.bool false, .slice none 0 0, .slice none 0 0, .bool false, .slice none 0 0, .slice none 0 0], 42), (w.heap.size, x1.arr, 40)] [(false, z68b.val, (loQ ((lkUp V ps fs i).2.1) gH)), (false, z68a.val, (hiQ ((lkUp V ps fs i).1) gL)), (false, z46b.val, gH), (false, z46a.val, gL), (false, z45b.val, (hiQ (hiQ (V * (p0 + -r1)) (V * (p1 + -r0))) (hiQ (V * (p0 + -r1)) (V * (p1 + -r0))))), (false, z45a.val, (loQ (loQ (V * (p0 + -r1)) (V * (p1 + -r0))) (loQ (V * (p0 + -r1)) (V * (p1 + -r0))))), (false, z44b.val, (p1 + -r0)), (false, z44a.val, (p0 + -r1)), (false, z43b.val, V), (false, z43a.val, V), (false, Py.val, r1), (false, Px.val, r0), (false, Qy.val, p1), (false, Qx.val, p0), (false, Fy.val, f1), (false, Fx.val, f0), (false, m2.val, (lkUp V ps fs i).2.1), (false, m1.val, (lkUp V ps fs i).1), (false, x1.val, V)]) := by subst hW69; exact ((HS.out).st_RR 1 m1 m2 z68a z68b rfl).alloc (B := w68.heap.size) (by simp) (by rfl)
                clear hW69
                try rw [show (i1 : Int) = (i : Int) + 1 from by have := HI1.out; omega]
                have HN : Hid (lkUp V ps fs (i + 1) = ((hiQ ((lkUp V ps fs i).1) gL), (loQ ((lkUp V ps fs i).2.1) gH), 0)) := by show _ = _; rw [lkUp_s HOK.out HPS.out, HXL.out, HXH.out]; unfold meetE; rw [hiQ_comm _ (lkUp V ps fs i).1, loQ_comm _ (lkUp V ps fs i).2.1, if_neg (by have := T63.out; omega)]
                have EQ1 : Hid ((lkUp V ps fs (i + 1)).1 = (hiQ ((lkUp V ps fs i).1) gL)) := by show _ = _; rw [HN.out]
                have EQ2 : Hid ((lkUp V ps fs (i + 1)).2.1 = (loQ ((lkUp V ps fs i).2.1) gH)) := by show _ = _; rw [HN.out]
                exact ⟨⟨i + 1, z68a, z68b, by have := HLT.out; omega, by go_num, (by show _ = _; rw [HN.out]), Lib.hid ((((((HS.out).erase 0).erase 0).addQ (HS.out.q 18 _ _ rfl)).addQ (by rw [EQ1.out]; exact (HS.out.q 1 _ _ rfl))).addQ (by rw [EQ2.out]; exact (HS.out.q 0 _ _ rfl)))⟩, meas_up HLT.out⟩
        ·
          obtain rfl : i = fs.length := by omega
          have HR : Hid (lkOf V ps fs = ((lkUp V ps fs fs.length).1, (lkUp V ps fs fs.length).2.1, 0)) := by show _ = _; unfold lkOf; rw [if_neg (by have := HLN.out; omega), if_neg (by rw [← HC8.out]; have := T9.out; omega), ← HOK.out]
          obtain ⟨b2c0, b2c1, b2c2, b2c3, b2c4, b2c5, b2f0, b2f1, b2f2, b2f3, b2f4, b2f5⟩ := fac6 (x := m1) (y := m2) (HS.out.at 0 _ _ _ rfl)
          have b2l := blk_lt (HS.out.at 0 _ _ _ rfl)
          have b1e := (HS.out.at 1 _ _ _ rfl)
          have b1c0 := blk_cell b1e 0 (.bool false) rfl
          have b1c1 := blk_cell b1e 1 (.slice none 0 0) rfl
          have b1c2 := blk_cell b1e 2 (.slice none 0 0) rfl
          have b1c3 := blk_cell b1e 3 (.bool false) rfl
          have b1c4 := blk_cell b1e 4 (.slice none 0 0) rfl
          have b1c5 := blk_cell b1e 5 (.slice none 0 0) rfl
          have b1f0 := blk_frozen b1e 0
          have b1f1 := blk_frozen b1e 1
          have b1f2 := blk_frozen b1e 2
          have b1f3 := blk_frozen b1e 3
          have b1f4 := blk_frozen b1e 4
          have b1f5 := blk_frozen b1e 5
          have b1l := blk_lt b1e
          clear b1e
          go_wp2_with fail
          clear b2c0 b2c1 b2c2 b2c3 b2c4 b2c5 b2f0 b2f1 b2f2 b2f3 b2f4 b2f5 b2l b1c0 b1c1 b1c2 b1c3 b1c4 b1c5 b1f0 b1f1 b1f2 b1f3 b1f4 b1f5 b1l
          generalize hW70 : ((((((wr13).setCell _ _).setCell _ _).setCell _ _).setCell _ _).setCell _ _).setCell _ _ = W70 at *
          replace HS : Hid (Sx w W70 [(w8.heap.size, arr6 m1 m2, 42), (w.heap.size + 1, arr6 m1 m2, 42), (w.heap.size, x1.arr, 40)] [(false, m2.val, (lkUp V ps fs fs.length).2.1), (false, m1.val, (lkUp V ps fs fs.length).1), (false, x1.val, V)]) := by subst hW70; exact (HS.out).st_RR 1 r30 r30 m1 m2 rfl
          clear hW70
          obtain ⟨b1c0, b1c1, b1c2, b1c3, b1c4, b1c5, _⟩ := fac6 (x := m1) (y := m2) (HS.out.at 1 _ _ _ rfl)
          refine bodyPost_ret (v := .tuple #[.agg #[.bool m1.b, .slice m1.a m1.n m1.c, .slice m1.d m1.m m1.e, .bool m2.b, .slice m2.a m2.n m2.c, .slice m2.d m2.m m2.e], .int .i64 0]) (by simp [results, Tryz.results19, go_sem, b1c0, b1c1, b1c2, b1c3, b1c4, b1c5]) rfl (by rw [HR.out]; exact ⟨_, rfl, (rngQ (HS.out.q 1 _ _ rfl) (HS.out.q 0 _ _ rfl)), HS.out.bel⟩)
  ·
    have HR : Hid (lkOf V ps fs = (0, 0, 4)) := by show _ = _; unfold lkOf; rw [if_pos (by omega)]
    have t1 : decide ((fs.length : Int) < 1) = false := decide_eq_false (by omega)
    have t1b : decide (fs.length < 1) = false := decide_eq_false (by omega)
    have t2 : decide ((fs.length : Int) > 256) = false := decide_eq_false (by omega)
    have t2b : decide (256 < fs.length) = false := decide_eq_false (by omega)
    have t3 : ((ps.length : Int) != (fs.length : Int) + 1) = true := by simp; omega
    have t3b : (ps.length != fs.length + 1) = true := by simp; omega
    have t3c : ((ps.length : Int) == (fs.length : Int) + 1) = false := by simp; omega
    clear h1 h2 h3
    go_enter Tryz.func19, Tryz.ntmps19
    go_wp2_with fail
    generalize hW71 : ((w).alloc (.cells _ _)).alloc (.cells _ _) = W71 at *
    replace HS : Hid (Sx w W71 [(w.heap.size + 1, #[.bool false, .slice none 0 0, .slice none 0 0, .bool false, .slice none 0 0, .slice none 0 0], 42), (w.heap.size, x1.arr, 40)] [(false, x1.val, V)]) := by subst hW71; exact ((HS.out).alloc (B := w.heap.size) rfl (by rfl)).alloc (B := w.heap.size + 1) (by simp) (by rfl)
    clear hW71
    refine (none_any _).mono ?_
    rintro e w72 ⟨v72, rfl, ⟨z72a, z72b, rfl, hv72, hw72⟩, hb72⟩
    replace HS := Lib.hid (HS.out.below hb72)
    clear hb72
    replace HS := Lib.hid (HS.out.addQ hv72)
    clear hv72
    replace HS := Lib.hid (HS.out.addQ hw72)
    clear hw72
    have b1e := (HS.out.at 0 _ _ _ rfl)
    have b1c0 := blk_cell b1e 0 (.bool false) rfl
    have b1c1 := blk_cell b1e 1 (.slice none 0 0) rfl
    have b1c2 := blk_cell b1e 2 (.slice none 0 0) rfl
    have b1c3 := blk_cell b1e 3 (.bool false) rfl
    have b1c4 := blk_cell b1e 4 (.slice none 0 0) rfl
    have b1c5 := blk_cell b1e 5 (.slice none 0 0) rfl
    have b1f0 := blk_frozen b1e 0
    have b1f1 := blk_frozen b1e 1
    have b1f2 := blk_frozen b1e 2
    have b1f3 := blk_frozen b1e 3
    have b1f4 := blk_frozen b1e 4
    have b1f5 := blk_frozen b1e 5
    have b1l := blk_lt b1e
    clear b1e
    go_wp2_with fail
    clear b1c0 b1c1 b1c2 b1c3 b1c4 b1c5 b1f0 b1f1 b1f2 b1f3 b1f4 b1f5 b1l
    generalize hW73 : ((((((w72).setCell _ _).setCell _ _).setCell _ _).setCell _ _).setCell _ _).setCell _ _ = W73 at *
    replace HS : Hid (Sx w W73 [(w.heap.size + 1, arr6 z72a z72b, 42), (w.heap.size, x1.arr, 40)] [(false, z72b.val, 0), (false, z72a.val, 0), (false, x1.val, V)]) := by subst hW73; exact (HS.out).st_RR 0 r30 r30 z72a z72b rfl
    clear hW73
    obtain ⟨b1c0, b1c1, b1c2, b1c3, b1c4, b1c5, _⟩ := fac6 (x := z72a) (y := z72b) (HS.out.at 0 _ _ _ rfl)
    refine bodyPost_ret (v := .tuple #[.agg #[.bool z72a.b, .slice z72a.a z72a.n z72a.c, .slice z72a.d z72a.m z72a.e, .bool z72b.b, .slice z72b.a z72b.n z72b.c, .slice z72b.d z72b.m z72b.e], .int .i64 4]) (by simp [results, Tryz.results19, go_sem, b1c0, b1c1, b1c2, b1c3, b1c4, b1c5]) rfl (by rw [HR.out]; exact ⟨_, rfl, (rngQ (HS.out.q 1 _ _ rfl) (HS.out.q 0 _ _ rfl)), HS.out.bel⟩)
end Go.Proofs.YthdgeindjphklaaGreat

namespace Go.Proofs.YthdgeindjphklaaGreat
open Go.RowKit

theorem decL_step {t : Nat} (h : t ≠ 0) : decL t = decL (t / 10) ++ [chD (t % 10)] := by
  unfold decL
  rw [dig_pos ten_two h]
  simp
theorem decStep (q k r : Nat) (h : 0 < q ∨ 0 < r) : decL (q * 10 ^ (k + 1) + r) = decL (q * 10 ^ k + r / 10) ++ [chD (r % 10)] := by
  have hp : 0 < 10 ^ (k + 1) := Nat.pow_pos (by omega)
  have e : q * 10 ^ (k + 1) + r = (q * 10 ^ k) * 10 + r := by rw [Nat.pow_succ, Nat.mul_assoc]
  rw [decL_step, e]
  · congr 2
    · omega
    · congr 1; omega
  · rcases h with h | h
    · have := Nat.mul_pos h hp; omega
    · omega
theorem slice_dig0 (w : World) : (Instr.sliceAt 9 (.string { data := #[48, 49, 50, 51, 52, 53, 54, 55, 56, 57] }) (some (.int .u32 0)) (some (.int .u32 1)) none).run Tryz.prog w = .ok (.string (strB [chD 0])) w := by kernel_rfl
theorem slice_dig1 (w : World) : (Instr.sliceAt 9 (.string { data := #[48, 49, 50, 51, 52, 53, 54, 55, 56, 57] }) (some (.int .u32 1)) (some (.int .u32 2)) none).run Tryz.prog w = .ok (.string (strB [chD 1])) w := by kernel_rfl
theorem slice_dig2 (w : World) : (Instr.sliceAt 9 (.string { data := #[48, 49, 50, 51, 52, 53, 54, 55, 56, 57] }) (some (.int .u32 2)) (some (.int .u32 3)) none).run Tryz.prog w = .ok (.string (strB [chD 2])) w := by kernel_rfl
theorem slice_dig3 (w : World) : (Instr.sliceAt 9 (.string { data := #[48, 49, 50, 51, 52, 53, 54, 55, 56, 57] }) (some (.int .u32 3)) (some (.int .u32 4)) none).run Tryz.prog w = .ok (.string (strB [chD 3])) w := by kernel_rfl
theorem slice_dig4 (w : World) : (Instr.sliceAt 9 (.string { data := #[48, 49, 50, 51, 52, 53, 54, 55, 56, 57] }) (some (.int .u32 4)) (some (.int .u32 5)) none).run Tryz.prog w = .ok (.string (strB [chD 4])) w := by kernel_rfl
theorem slice_dig5 (w : World) : (Instr.sliceAt 9 (.string { data := #[48, 49, 50, 51, 52, 53, 54, 55, 56, 57] }) (some (.int .u32 5)) (some (.int .u32 6)) none).run Tryz.prog w = .ok (.string (strB [chD 5])) w := by kernel_rfl
theorem slice_dig6 (w : World) : (Instr.sliceAt 9 (.string { data := #[48, 49, 50, 51, 52, 53, 54, 55, 56, 57] }) (some (.int .u32 6)) (some (.int .u32 7)) none).run Tryz.prog w = .ok (.string (strB [chD 6])) w := by kernel_rfl
theorem slice_dig7 (w : World) : (Instr.sliceAt 9 (.string { data := #[48, 49, 50, 51, 52, 53, 54, 55, 56, 57] }) (some (.int .u32 7)) (some (.int .u32 8)) none).run Tryz.prog w = .ok (.string (strB [chD 7])) w := by kernel_rfl
theorem slice_dig8 (w : World) : (Instr.sliceAt 9 (.string { data := #[48, 49, 50, 51, 52, 53, 54, 55, 56, 57] }) (some (.int .u32 8)) (some (.int .u32 9)) none).run Tryz.prog w = .ok (.string (strB [chD 8])) w := by kernel_rfl
theorem slice_dig9 (w : World) : (Instr.sliceAt 9 (.string { data := #[48, 49, 50, 51, 52, 53, 54, 55, 56, 57] }) (some (.int .u32 9)) (some (.int .u32 10)) none).run Tryz.prog w = .ok (.string (strB [chD 9])) w := by kernel_rfl
theorem slice_dig (d : Nat) (hd : d < 10) (w : World) : (Instr.sliceAt 9 (.string { data := #[48, 49, 50, 51, 52, 53, 54, 55, 56, 57] }) (some (.int .u32 (d : Int))) (some (.int .u32 ((d : Int) + 1))) none).run Tryz.prog w = .ok (.string (strB [chD d])) w := by
  have h : d = 0 ∨ d = 1 ∨ d = 2 ∨ d = 3 ∨ d = 4 ∨ d = 5 ∨ d = 6 ∨ d = 7 ∨ d = 8 ∨ d = 9 := by omega
  rcases h with rfl | rfl | rfl | rfl | rfl | rfl | rfl | rfl | rfl | rfl
  · exact slice_dig0 w
  · exact slice_dig1 w
  · exact slice_dig2 w
  · exact slice_dig3 w
  · exact slice_dig4 w
  · exact slice_dig5 w
  · exact slice_dig6 w
  · exact slice_dig7 w
  · exact slice_dig8 w
  · exact slice_dig9 w
def strLen : Value → Nat
  | .string b => b.size
  | _ => 0
set_option maxRecDepth 100000 in
set_option maxHeartbeats 2000000 in
theorem qdigits_any (n : Nat) (v : Value) (w : World) (h : IsNat .u32 b32 w v n) (hs : (dig b32 n).length ≤ 1099511627776) (hl : (decL n).length ≤ 1374389534720) : Calls Tryz.prog 154 #[v] w (RetStr (decT n) w) := by
  have HN := Lib.hid h
  have HSZ := Lib.hid hs
  obtain ⟨ao, cap, rfl, _⟩ := IsRow.opened h
  rcases Nat.eq_zero_or_pos n with h0 | h0
  · subst h0
    have hd : (dig b32 0).length = 0 := rfl
    clear h hs hl HN HSZ
    rw [hd]
    go_enter Tryz.func154, Tryz.ntmps154
    go_wp2_with fail
    go_ret
    exact ⟨rfl, Below.refl _ _⟩
  · have hlen : 0 < (dig b32 n).length := by
      rcases Nat.eq_zero_or_pos (dig b32 n).length with h1 | h1
      · exact absurd ((dig_nil_iff b32_two _).1 (List.eq_nil_of_length_eq_zero h1)) (by omega)
      · exact h1
    have HT : Hid (decT n = decL n) := by show _ = _; unfold decT; rw [if_neg (by omega)]
    have t0 : ((((dig b32 n).length : Nat) : Int) == 0) = false := beq_eq_false_iff_ne.2 (by omega)
    have t1 : ((dig b32 n).length == 0) = false := beq_eq_false_iff_ne.2 (by omega)
    have HL := Lib.hid hl
    clear h hs h0 hl
    go_enter Tryz.func154, Tryz.ntmps154
    go_wp2_with fail
    go_loopw [0, 3] (fun av sv wr => ∃ (m : Nat) (L : List UInt8), IsNat .u32 b32 wr av m ∧ sv = .string (strB L) ∧ Hid (decL m ++ L = decL n) ∧ Hid (m ≤ n) ∧ Hid (Below w.heap.size w wr))
      (fun _ sv _ => (decL n).length - strLen sv)
    case atStart => exact ⟨n, [], HN.out, rfl, by show _ ++ _ = _; simp, Nat.le_refl _, Below.refl _ _⟩
    case round =>
      obtain ⟨m, L, hav, rfl, HM, HMN, HB⟩ := hrel
      obtain ⟨am, cm, rfl, _⟩ := IsRow.opened hav
      have HAV := Lib.hid hav
      clear hav
      have HLL : Hid (L.length ≤ 1374389534720) := by
        show _ ≤ _
        have h1 := congrArg List.length HM.out
        rw [List.length_append] at h1
        have := HL.out
        omega
      rcases Nat.eq_zero_or_pos m with h0 | h0
      · subst h0
        have hd : (dig b32 0).length = 0 := rfl
        rw [hd]
        have HR : Hid (decT n = L) := by show _ = _; rw [HT.out, ← HM.out]; rfl
        clear hd HAV
        go_wp2_with fail
        go_ret
        exact ⟨by rw [HR.out] <;> rfl, HB.out⟩
      · have hlen : 0 < (dig b32 m).length := by
          rcases Nat.eq_zero_or_pos (dig b32 m).length with h1 | h1
          · exact absurd ((dig_nil_iff b32_two _).1 (List.eq_nil_of_length_eq_zero h1)) (by omega)
          · exact h1
        have HP := Lib.hid h0
        have HDL : Hid ((dig b32 m).length ≤ 1099511627776) := Nat.le_trans (dig_length_mono b32_two HMN.out) HSZ.out
        clear h0
        go_wp2_with fail
        refine (byDigit_any m 1000000000 _ _ HAV.out HDL.out (by omega) (by unfold b32; omega)).mono ?_
        rintro e w1 ⟨va, rfl, hva, hb1⟩
        obtain ⟨aq, cq, rfl, _⟩ := IsRow.opened hva
        have HVA := Lib.hid hva
        have HB1 := Lib.hid (ext_trans HB.out hb1)
        have hrb : m % 1000000000 < 1000000000 := Nat.mod_lt _ (by omega)
        have HDM : Hid (m / 1000000000 * 1000000000 + m % 1000000000 = m) := by show _ = _; omega
        clear hva hb1
        go_wp2_with fail
        go_loopw [3, 5, 6] (fun sv rv kv wx => ∃ (k r : Nat) (L2 : List UInt8), k ≤ 9 ∧ kv = .int .i64 k ∧ rv = .int .u32 r ∧ r < 1000000000 ∧ sv = .string (strB L2) ∧ Hid (decL (m / 1000000000 * 10 ^ (9 - k) + r) ++ L2 = decL n) ∧ Hid (L2.length = L.length + k) ∧ Hid (r < 10 ^ (9 - k)) ∧ w1 = wx)
          (fun _ _ kv _ => 9 - (intOf kv).toNat)
        case atStart => exact ⟨0, m % 1000000000, L, by omega, rfl, by go_num, hrb, rfl, by show _ = _; rw [show m / 1000000000 * 10 ^ (9 - 0) + m % 1000000000 = m from HDM.out]; exact HM.out, rfl, hrb, rfl⟩
        case round =>
          obtain ⟨k, r, L2, hk9, rfl, rfl, hr9, rfl, HM2, HLN, HRB, rfl⟩ := hrel
          have HL2L : Hid (L2.length ≤ 1374389534720) := by
            show _ ≤ _
            have h1 := congrArg List.length HM2.out
            rw [List.length_append] at h1
            have := HL.out
            omega
          by_cases hk : k < 9
          · rcases Nat.eq_zero_or_pos (m / 1000000000) with hq | hq
            · have hd : (dig b32 (m / 1000000000)).length = 0 := by rw [hq]; rfl
              rcases Nat.eq_zero_or_pos r with hr | hr
              · subst hr
                have HQ := Lib.hid hq
                have HD0 := Lib.hid hd
                rw [hd]
                clear hq hd
                go_wp2_with fail
                exact ⟨⟨m / 1000000000, L2, (by have := HVA.out; rw [HD0.out] at this; exact this), rfl, by
                  show _ = _
                  rw [← HM2.out, show m / 1000000000 * 10 ^ (9 - k) + 0 = m / 1000000000 from by rw [HQ.out, Nat.zero_mul]], Nat.le_trans (Nat.div_le_self _ _) HMN.out, HB1.out⟩, by
                  have e1 : (strB L2).size = L2.length := rfl
                  have e2 : (strB L).size = L.length := rfl
                  have h1 := congrArg List.length HM2.out
                  rw [List.length_append] at h1
                  have h2 := HLN.out
                  have h3 : 0 < k := by
                    rcases Nat.eq_zero_or_pos k with h0 | h0
                    · exfalso
                      subst h0
                      have h4 := congrArg List.length (HM2.out.trans HM.out.symm)
                      rw [show m / 1000000000 * 10 ^ (9 - 0) + 0 = 0 by rw [HQ.out, Nat.zero_mul], List.length_append, List.length_append, decL_zero, HLN.out] at h4
                      have h5 : decL m ≠ [] := fun h => absurd ((decL_nil m).1 h) (by have := HP.out; omega)
                      have h6 := List.length_pos_iff.2 h5
                      rw [List.length_nil] at h4
                      omega
                    · exact h0
                  show (decL n).length - (strB L2).size < (decL n).length - (strB L).size
                  rw [e1, e2]
                  omega⟩
              · rw [hd]
                clear hq hd
                have hr10 : r % 10 < 10 := by omega
                have hs1 := slice_dig (r % 10) hr10 w1
                have hs2 := slice_dig (r % 10) hr10 w1
                have e1 : ((r % 10 : Nat) : Int) = (r : Int) % 10 := by omega
                rw [e1] at hs2
                have HC : Hid (strB [chD (r % 10)] ++ strB L2 = strB (chD (r % 10) :: L2)) := by show _ = _; rw [strB_append]; rfl
                have hcat := HC.out
                have hz1 : (strB [chD (r % 10)]).size = 1 := rfl
                have hz2 : (strB L2).size ≤ 1374389534720 := HL2L.out
                have HK := Lib.hid hk
                have HQR : Hid (0 < m / 1000000000 ∨ 0 < r) := .inr hr
                obtain ⟨k', hk'⟩ : ∃ k', 9 - k = k' + 1 := ⟨8 - k, by omega⟩
                have HK' := Lib.hid hk'
                clear e1 hk'
                go_wp2_with fail
                exact ⟨⟨k + 1, r / 10, chD (r % 10) :: L2, by omega, by go_num, by go_num, by omega, rfl, by
                  show _ = _
                  rw [show 9 - (k + 1) = k' by have := HK'.out; omega, ← HM2.out, HK'.out, decStep _ _ _ HQR.out, List.append_assoc]; rfl, by show _ = _; rw [List.length_cons, HLN.out]; omega, by
                  show r / 10 < _
                  have h1 : r < 10 ^ (9 - k) := HRB.out
                  rw [HK'.out, Nat.pow_succ] at h1
                  rw [show 9 - (k + 1) = k' by have := HK'.out; omega]
                  omega, trivial⟩, by simp [intOf]; omega⟩
            · have hd : 0 < (dig b32 (m / 1000000000)).length := by
                rcases Nat.eq_zero_or_pos (dig b32 (m / 1000000000)).length with h1 | h1
                · exact absurd ((dig_nil_iff b32_two _).1 (List.eq_nil_of_length_eq_zero h1)) (by omega)
                · exact h1
              have hr10 : r % 10 < 10 := by omega
              have hs1 := slice_dig (r % 10) hr10 w1
              have hs2 := slice_dig (r % 10) hr10 w1
              have e1 : ((r % 10 : Nat) : Int) = (r : Int) % 10 := by omega
              rw [e1] at hs2
              have HC : Hid (strB [chD (r % 10)] ++ strB L2 = strB (chD (r % 10) :: L2)) := by show _ = _; rw [strB_append]; rfl
              have hcat := HC.out
              have hz1 : (strB [chD (r % 10)]).size = 1 := rfl
              have hz2 : (strB L2).size ≤ 1374389534720 := HL2L.out
              have HK := Lib.hid hk
              have HQR : Hid (0 < m / 1000000000 ∨ 0 < r) := .inl hq
              obtain ⟨k', hk'⟩ : ∃ k', 9 - k = k' + 1 := ⟨8 - k, by omega⟩
              have HK' := Lib.hid hk'
              clear e1 hk'
              go_wp2_with fail
              exact ⟨⟨k + 1, r / 10, chD (r % 10) :: L2, by omega, by go_num, by go_num, by omega, rfl, by
                show _ = _
                rw [show 9 - (k + 1) = k' by have := HK'.out; omega, ← HM2.out, HK'.out, decStep _ _ _ HQR.out, List.append_assoc]; rfl, by show _ = _; rw [List.length_cons, HLN.out]; omega, by
                show r / 10 < _
                have h1 : r < 10 ^ (9 - k) := HRB.out
                rw [HK'.out, Nat.pow_succ] at h1
                rw [show 9 - (k + 1) = k' by have := HK'.out; omega]
                omega, trivial⟩, by simp [intOf]; omega⟩
          · obtain rfl : k = 9 := by omega
            obtain rfl : r = 0 := by
              have h1 : r < 10 ^ (9 - 9) := HRB.out
              omega
            clear hk
            go_wp2_with fail
            exact ⟨⟨m / 1000000000, L2, HVA.out, rfl, by
              show _ = _
              rw [← HM2.out, show m / 1000000000 * 10 ^ (9 - 9) + 0 = m / 1000000000 from by simp], Nat.le_trans (Nat.div_le_self _ _) HMN.out, HB1.out⟩, by
              have e1 : (strB L2).size = L2.length := rfl
              have e2 : (strB L).size = L.length := rfl
              have h1 := congrArg List.length HM2.out
              rw [List.length_append] at h1
              have h2 := HLN.out
              have h3 : 0 < 9 := by omega
              show (decL n).length - (strB L2).size < (decL n).length - (strB L).size
              rw [e1, e2]
              omega⟩
theorem decT_len32 (n : Nat) (h : (dig b32 n).length ≤ 1000000000) : (strB (decT n)).size ≤ 20000000001 := by
  have h1 := digits_len n
  have h2 := dig64_le n
  rw [strB_size]
  unfold decT
  split
  · simp
  · rw [decL_length]; omega
theorem decL_len32 (n : Nat) (h : (dig b32 n).length ≤ 1000000000) : (decL n).length ≤ 20000000000 := by
  have h1 := digits_len n
  have h2 := dig64_le n
  rw [decL_length]; omega
set_option maxRecDepth 100000 in
set_option maxHeartbeats 2000000 in
theorem qtext_any (q : Rat) (v : Value) (w : World) (h : IsR w v q) (hs : szQ q 1000000000) : Calls Tryz.prog 107 #[v] w (RetStr (txtQ q) w) := by
  obtain ⟨d', a1, c1, a2, c2, rfl, n1, n2, hd⟩ := h.opened
  have N1 := Lib.hid n1
  have N2 := Lib.hid n2
  have HD := Lib.hid hd
  have HS := Lib.hid hs
  have hB := blk_new w #[.bool (decide (q.num < 0)), .slice a1 (dig b32 q.num.natAbs).length c1, .slice a2 (dig b32 d').length c2] 40
  have hal := (Below.refl w.heap.size w).alloc (Nat.le_refl _) (.cells #[.bool (decide (q.num < 0)), .slice a1 (dig b32 q.num.natAbs).length c1, .slice a2 (dig b32 d').length c2] 40)
  have Htx : Hid (txtQ q = (if q.num < 0 then [45] else []) ++ (decT q.num.natAbs ++ (if q.den = 1 then [] else 47 :: decT q.den))) := rfl
  have HX := Lib.hid decT_len32
  have HXL := Lib.hid decL_len32
  clear h n1 n2 hs hd
  go_enter Tryz.func107, Tryz.ntmps107
  go_wp2_with fail
  refine (qdigits_any q.num.natAbs _ _ (N1.out.below hal) (Nat.le_trans HS.out.1 (by omega)) (Nat.le_trans (HXL.out _ HS.out.1) (by omega))).mono ?_
  rintro e w1 ⟨rfl, hb1⟩
  have hB1 := blk_keep hB hb1 (blk_lt hB)
  have hx1 := ext_trans hal hb1
  have p0 := blk_cell hB1 0 (.bool (decide (q.num < 0))) rfl
  have p1 := blk_cell hB1 1 (.slice a1 (dig b32 q.num.natAbs).length c1) rfl
  have p2 := blk_cell hB1 2 (.slice a2 (dig b32 d').length c2) rfl
  clear hb1
  by_cases hneg : q.num < 0
  · have tn : decide (q.num < 0) = true := decide_eq_true hneg
    have Hneg := Lib.hid hneg
    clear hneg
    have hz0 : (strB (decT q.num.natAbs)).size ≤ 20000000001 := HX.out _ HS.out.1
    obtain ⟨X, hX⟩ : ∃ X, X = 45 :: decT q.num.natAbs := ⟨_, rfl⟩
    have hcat : { data := #[45] } ++ strB (decT q.num.natAbs) = strB X := by rw [hX, show ({ data := #[45] } : ByteArray) = strB [45] from rfl, strB_append]; rfl
    have ho1 : (ByteArray.mk #[45]).size = 1 := rfl
    have hz2 : (strB X).size ≤ 20000000002 := by rw [hX]; rw [strB_size] at hz0 ⊢; rw [List.length_cons]; omega
    have HXX := Lib.hid hX
    clear hX
    clear hB hal
    go_wp2_with fail
    refine (qunder_any d' q.den _ _ _ _ _ _ _ (N2.out.below hx1) HD.out q.den_nz).mono ?_
    rintro e w2 ⟨vu, rfl, hvu, hb2⟩
    have HX2 := Lib.hid (ext_trans hx1 hb2)
    have hB2 := blk_keep hB1 hb2 (blk_lt hB1)
    have HVU := Lib.hid hvu
    clear hb2 hvu hB1 p0 p1 p2
    go_wp2_with fail
    refine (nat_any 1 _ (by unfold b64; omega)).mono ?_
    rintro e w3 ⟨v1, rfl, hv1, hb3⟩
    replace HX2 := Lib.hid (ext_trans HX2.out hb3)
    have hB3 := blk_keep hB2 hb3 (blk_lt hB2)
    replace HVU := Lib.hid (HVU.out.below hb3)
    have HV1 := Lib.hid hv1
    clear hb3 hv1 hB2
    go_wp2_with fail
    refine (order_any q.den 1 _ _ _ HVU.out HV1.out).mono ?_
    rintro e w4 ⟨rfl, hq4⟩
    have hbq := Quiet.below hq4
    have p0 := blk_cell (blk_keep hB3 hbq (blk_lt hB3)) 0 (.bool (decide (q.num < 0))) rfl
    have p1 := blk_cell (blk_keep hB3 hbq (blk_lt hB3)) 1 (.slice a1 (dig b32 q.num.natAbs).length c1) rfl
    have p2 := blk_cell (blk_keep hB3 hbq (blk_lt hB3)) 2 (.slice a2 (dig b32 d').length c2) rfl
    replace HX2 := Lib.hid (ext_trans HX2.out hbq)
    clear hbq hB3 HV1 HVU
    by_cases hd : q.den = 1
    · have hc : cmpN q.den 1 = 0 := by rw [hd]; rfl
      have HR : Hid (txtQ q = X) := by show _ = _; rw [Htx.out, if_pos Hneg.out, HXX.out, if_pos hd]; simp
      rw [hc]
      clear hd hc
      go_wp2_with fail
      go_ret
      exact ⟨by rw [HR.out] <;> rfl, HX2.out⟩
    · have hc : cmpN q.den 1 = 1 := by
        have := q.den_pos
        unfold cmpN
        rw [if_neg (by omega), if_pos (by omega)]
      have HR : Hid (txtQ q = X ++ 47 :: decT q.den) := by show _ = _; rw [Htx.out, if_pos Hneg.out, HXX.out, if_neg hd]; simp
      rw [hc]
      clear hd hc
      have hc1 : strB (X) ++ { data := #[47] } = strB (X ++ [47]) := by rw [← strB_append]; rfl
      have ho : (ByteArray.mk #[47]).size = 1 := rfl
      have hz5 : (strB (X)).size ≤ 20000000002 := hz2
      have hz6 : (strB (X ++ [47])).size ≤ 20000000003 := by rw [strB_size] at hz5 ⊢; rw [List.length_append, List.length_singleton]; omega
      go_wp2_with fail
      refine (qunder_any d' q.den _ _ _ _ _ _ _ (N2.out.below HX2.out) HD.out q.den_nz).mono ?_
      rintro e w5 ⟨vu, rfl, hvu, hb5⟩
      replace HX2 := Lib.hid (ext_trans HX2.out hb5)
      clear p0 p1 p2 hb5
      go_wp2_with fail
      refine (qdigits_any q.den _ _ hvu (Nat.le_trans HS.out.2 (by omega)) (Nat.le_trans (HXL.out _ HS.out.2) (by omega))).mono ?_
      rintro e w6 ⟨rfl, hb6⟩
      have hz7 : (strB (decT q.den)).size ≤ 20000000001 := HX.out _ HS.out.2
      have hc2 : strB (X ++ [47]) ++ strB (decT q.den) = strB (txtQ q) := by rw [strB_append, HR.out]; simp
      replace HX2 := Lib.hid (ext_trans HX2.out hb6)
      clear hb6 hvu
      go_wp2_with fail
      go_ret
      exact ⟨rfl, HX2.out⟩
  · have tn : decide (q.num < 0) = false := decide_eq_false hneg
    have Hneg : Hid (¬ q.num < 0) := hneg
    clear hneg
    have hz0 : (strB (decT q.num.natAbs)).size ≤ 20000000001 := HX.out _ HS.out.1
    have hz2 : (strB (decT q.num.natAbs)).size ≤ 20000000002 := by omega
    clear hB hal
    go_wp2_with fail
    refine (qunder_any d' q.den _ _ _ _ _ _ _ (N2.out.below hx1) HD.out q.den_nz).mono ?_
    rintro e w2 ⟨vu, rfl, hvu, hb2⟩
    have HX2 := Lib.hid (ext_trans hx1 hb2)
    have hB2 := blk_keep hB1 hb2 (blk_lt hB1)
    have HVU := Lib.hid hvu
    clear hb2 hvu hB1 p0 p1 p2
    go_wp2_with fail
    refine (nat_any 1 _ (by unfold b64; omega)).mono ?_
    rintro e w3 ⟨v1, rfl, hv1, hb3⟩
    replace HX2 := Lib.hid (ext_trans HX2.out hb3)
    have hB3 := blk_keep hB2 hb3 (blk_lt hB2)
    replace HVU := Lib.hid (HVU.out.below hb3)
    have HV1 := Lib.hid hv1
    clear hb3 hv1 hB2
    go_wp2_with fail
    refine (order_any q.den 1 _ _ _ HVU.out HV1.out).mono ?_
    rintro e w4 ⟨rfl, hq4⟩
    have hbq := Quiet.below hq4
    have p0 := blk_cell (blk_keep hB3 hbq (blk_lt hB3)) 0 (.bool (decide (q.num < 0))) rfl
    have p1 := blk_cell (blk_keep hB3 hbq (blk_lt hB3)) 1 (.slice a1 (dig b32 q.num.natAbs).length c1) rfl
    have p2 := blk_cell (blk_keep hB3 hbq (blk_lt hB3)) 2 (.slice a2 (dig b32 d').length c2) rfl
    replace HX2 := Lib.hid (ext_trans HX2.out hbq)
    clear hbq hB3 HV1 HVU
    by_cases hd : q.den = 1
    · have hc : cmpN q.den 1 = 0 := by rw [hd]; rfl
      have HR : Hid (txtQ q = decT q.num.natAbs) := by show _ = _; rw [Htx.out, if_neg (by have := Hneg.out; omega), if_pos hd]; simp
      rw [hc]
      clear hd hc
      go_wp2_with fail
      go_ret
      exact ⟨by rw [HR.out] <;> rfl, HX2.out⟩
    · have hc : cmpN q.den 1 = 1 := by
        have := q.den_pos
        unfold cmpN
        rw [if_neg (by omega), if_pos (by omega)]
      have HR : Hid (txtQ q = decT q.num.natAbs ++ 47 :: decT q.den) := by show _ = _; rw [Htx.out, if_neg (by have := Hneg.out; omega), if_neg hd]; simp
      rw [hc]
      clear hd hc
      have hc1 : strB (decT q.num.natAbs) ++ { data := #[47] } = strB (decT q.num.natAbs ++ [47]) := by rw [← strB_append]; rfl
      have ho : (ByteArray.mk #[47]).size = 1 := rfl
      have hz5 : (strB (decT q.num.natAbs)).size ≤ 20000000002 := hz2
      have hz6 : (strB (decT q.num.natAbs ++ [47])).size ≤ 20000000003 := by rw [strB_size] at hz5 ⊢; rw [List.length_append, List.length_singleton]; omega
      go_wp2_with fail
      refine (qunder_any d' q.den _ _ _ _ _ _ _ (N2.out.below HX2.out) HD.out q.den_nz).mono ?_
      rintro e w5 ⟨vu, rfl, hvu, hb5⟩
      replace HX2 := Lib.hid (ext_trans HX2.out hb5)
      clear p0 p1 p2 hb5
      go_wp2_with fail
      refine (qdigits_any q.den _ _ hvu (Nat.le_trans HS.out.2 (by omega)) (Nat.le_trans (HXL.out _ HS.out.2) (by omega))).mono ?_
      rintro e w6 ⟨rfl, hb6⟩
      have hz7 : (strB (decT q.den)).size ≤ 20000000001 := HX.out _ HS.out.2
      have hc2 : strB (decT q.num.natAbs ++ [47]) ++ strB (decT q.den) = strB (txtQ q) := by rw [strB_append, HR.out]; simp
      replace HX2 := Lib.hid (ext_trans HX2.out hb6)
      clear hb6 hvu
      go_wp2_with fail
      go_ret
      exact ⟨rfl, HX2.out⟩
end Go.Proofs.YthdgeindjphklaaGreat

namespace Go.Proofs.YthdgeindjphklaaGreat
open Go.RowKit

set_option maxRecDepth 100000 in
set_option maxHeartbeats 4000000 in
theorem lis_any (q : Rat) (vx vy : Value) (w : World) (hx : IsRat w vx q) (hy : IsR w vy q) (s1 : szR q 400000000) :
    Calls Tryz.prog 41 #[vx, vy] w (RetBool true w) := by
  obtain ⟨x1, rfl⟩ := hx.open3
  obtain ⟨y1, rfl⟩ := hy.open3
  have HS := Lib.hid (((Sx.init w).addP hx).addQ hy)
  have S1 := Lib.hid s1
  clear hx hy s1
  go_enter Tryz.func41, Tryz.ntmps41
  go_wp2_with fail
  generalize hW1 : ((w).alloc (.cells _ _)).alloc (.cells _ _) = W1 at *
  replace HS : Hid (Sx w W1 [(w.heap.size + 1, y1.arr, 40), (w.heap.size, x1.arr, 34)] [(false, y1.val, q), (true, x1.val, q)]) := by subst hW1; exact ((HS.out).alloc (B := w.heap.size) rfl (by rfl)).alloc (B := w.heap.size + 1) (by simp) (by rfl)
  clear hW1
  refine wp_region_held_drew (S := (fun w' => Sx w w' [(w.heap.size + 1, y1.arr, 40), (w.heap.size, x1.arr, 34)] [])) (by kernel_rfl) ((HS.out.drew).bare) (fun hh => ?_)
  replace HS := Lib.hid HS.out.drew
  refine tkA (i := 0) (v := ?vpr2_0_k4) rfl (Or.inl ⟨by first | rfl | kernel_rfl, ?hypr2_0_k4⟩) (by assumption) ?repr2_0_k4
  case hypr2_0_k4 => (intro u hSu; (try dsimp only at hSu); obtain ⟨qb0c0, qb0c1, qb0c2, _⟩ := fac3 (x := x1) (hSu.at 1 _ _ _ rfl); clear hSu; (first | (go_simp; done) | (go_simp; with_reducible rfl)))
  try simp only [nb1, nb2, nb3, Act.put, nb4, nb5, nb6]
  refine tkA (i := 2) (v := ?vpr2_2_k6) rfl (Or.inl ⟨by first | rfl | kernel_rfl, ?hypr2_2_k6⟩) (by assumption) ?repr2_2_k6
  case hypr2_2_k6 => (intro u hSu; (try dsimp only at hSu); obtain ⟨qb1c0, qb1c1, qb1c2, _⟩ := fac3 (x := y1) (hSu.at 0 _ _ _ rfl); clear hSu; (first | (go_simp; done) | (go_simp; with_reducible rfl)))
  try simp only [nb1, nb2, nb3, Act.put, nb4, nb5, nb6]
  refine rdA (i := 1) rfl (fun K hK => ?_)
  go_simp
  have a8 := HS.out.p 1 _ _ rfl
  go_wp2_with (go_at_call 106; (with_reducible refine (textRat_any q _ _ a8 (szR_mono S1.out (by omega))).mono ?_); rintro e w7 ⟨rfl, hb7⟩)
  refine hK.out _ _ (Sx.below hh hb7) (fun hh => ?_)
  clear hK K
  try simp only [nb1, nb2, nb3, Act.put, nb4, nb5, nb6]
  replace HS := Lib.hid (HS.out.below hb7)
  clear hb7 a8
  refine rdA (i := 3) rfl (fun K hK => ?_)
  go_simp
  have a10 := HS.out.q 0 _ _ rfl
  go_wp2_with (go_at_call 107; (with_reducible refine (qtext_any q _ _ a10 (szQ_mono (szQ_of S1.out) (by omega))).mono ?_); rintro e w9 ⟨rfl, hb9⟩)
  refine hK.out _ _ (Sx.below hh hb9) (fun hh => ?_)
  clear hK K
  try simp only [nb1, nb2, nb3, Act.put, nb4, nb5, nb6]
  replace HS := Lib.hid (HS.out.below hb9)
  clear hb9 a10
  refine tkA (i := 4) (v := ?vpr2_4_k12) rfl (Or.inl ⟨by first | rfl | kernel_rfl, ?hypr2_4_k12⟩) (by assumption) ?repr2_4_k12
  case hypr2_4_k12 => (intro u hSu; (first | (go_simp; done) | (go_simp; with_reducible rfl)))
  try simp only [nb1, nb2, nb3, Act.put, nb4, nb5, nb6]
  refine tkA (i := 5) (v := ?vpr2_5_k14) rfl (Or.inl ⟨by first | rfl | kernel_rfl, ?hypr2_5_k14⟩) (by assumption) ?repr2_5_k14
  case hypr2_5_k14 => (intro u hSu; (first | (go_simp; done) | (go_simp; with_reducible rfl)))
  try simp only [nb1, nb2, nb3, Act.put, nb4, nb5, nb6]
  refine wpAnyH_done (by kernel_rfl) ?_ _
  obtain ⟨b0c0, b0c1, b0c2, b0f0, b0f1, b0f2⟩ := fac3 (x := x1) (HS.out.at 1 _ _ _ rfl)
  have b0l := blk_lt (HS.out.at 1 _ _ _ rfl)
  obtain ⟨b1c0, b1c1, b1c2, b1f0, b1f1, b1f2⟩ := fac3 (x := y1) (HS.out.at 0 _ _ _ rfl)
  have b1l := blk_lt (HS.out.at 0 _ _ _ rfl)
  go_wp2_with fail
  clear b0c0 b0c1 b0c2 b0f0 b0f1 b0f2 b0l b1c0 b1c1 b1c2 b1f0 b1f1 b1f2 b1l
  go_ret
  exact ⟨by simp, HS.out.bel⟩
set_option maxRecDepth 100000 in
set_option maxHeartbeats 4000000 in
theorem isRange_any (p q : Rat) (vx vy : Value) (w : World) (hx : IsRng w vx p q) (hy : IsRngQ w vy p q) (s1 : szR p 400000000) (s2 : szR q 400000000) :
    Calls Tryz.prog 21 #[vx, vy] w (RetBool true w) := by
  obtain ⟨x1, x2, rfl, h1, h2⟩ := hx
  obtain ⟨y1, y2, rfl, h3, h4⟩ := hy
  have HS := Lib.hid (((((Sx.init w).addP h1).addP h2).addQ h3).addQ h4)
  have S1 := Lib.hid s1
  have S2 := Lib.hid s2
  clear h1 h2 h3 h4 s1 s2
  go_enter Tryz.func21, Tryz.ntmps21
  go_wp2_with fail
  generalize hW1 : ((w).alloc (.cells _ _)).alloc (.cells _ _) = W1 at *
  replace HS : Hid (Sx w W1 [(w.heap.size + 1, arr6 y1 y2, 42), (w.heap.size, arr6 x1 x2, 36)] [(false, y2.val, q), (false, y1.val, p), (true, x2.val, q), (true, x1.val, p)]) := by subst hW1; exact ((HS.out).alloc (B := w.heap.size) rfl (by rfl)).alloc (B := w.heap.size + 1) (by simp) (by rfl)
  clear hW1
  refine wp_region_held_drew (S := (fun w' => Sx w w' [(w.heap.size + 1, arr6 y1 y2, 42), (w.heap.size, arr6 x1 x2, 36)] [])) (by kernel_rfl) ((HS.out.drew).bare) (fun hh => ?_)
  replace HS := Lib.hid HS.out.drew
  refine tkA (i := 0) (v := ?vpr2_0_k4) rfl (Or.inl ⟨by first | rfl | kernel_rfl, ?hypr2_0_k4⟩) (by assumption) ?repr2_0_k4
  case hypr2_0_k4 => (intro u hSu; (try dsimp only at hSu); obtain ⟨qb0c0, qb0c1, qb0c2, qb0c3, qb0c4, qb0c5, _⟩ := fac6 (x := x1) (y := x2) (hSu.at 1 _ _ _ rfl); clear hSu; (first | (go_simp; done) | (go_simp; with_reducible rfl)))
  try simp only [nb1, nb2, nb3, Act.put, nb4, nb5, nb6]
  refine tkA (i := 2) (v := ?vpr2_2_k6) rfl (Or.inl ⟨by first | rfl | kernel_rfl, ?hypr2_2_k6⟩) (by assumption) ?repr2_2_k6
  case hypr2_2_k6 => (intro u hSu; (first | (go_simp; done) | (go_simp; with_reducible rfl)))
  try simp only [nb1, nb2, nb3, Act.put, nb4, nb5, nb6]
  refine tkA (i := 3) (v := ?vpr2_3_k8) rfl (Or.inl ⟨by first | rfl | kernel_rfl, ?hypr2_3_k8⟩) (by assumption) ?repr2_3_k8
  case hypr2_3_k8 => (intro u hSu; (try dsimp only at hSu); obtain ⟨qb1c0, qb1c1, qb1c2, qb1c3, qb1c4, qb1c5, _⟩ := fac6 (x := y1) (y := y2) (hSu.at 0 _ _ _ rfl); clear hSu; (first | (go_simp; done) | (go_simp; with_reducible rfl)))
  try simp only [nb1, nb2, nb3, Act.put, nb4, nb5, nb6]
  refine rdA (i := 1) rfl (fun K hK => ?_)
  go_simp
  have a10 := HS.out.p 3 _ _ rfl
  have a11 := HS.out.p 2 _ _ rfl
  go_wp2_with (go_at_call 79; (with_reducible refine (rlo_any p q _ _ (rngP a10 a11)).mono ?_); rintro e w9 ⟨v9, rfl, hv9, hb9⟩; obtain ⟨z9, rfl⟩ := hv9.open3)
  refine hK.out _ _ (Sx.below hh hb9) (fun hh => ?_)
  clear hK K
  try simp only [nb1, nb2, nb3, Act.put, nb4, nb5, nb6]
  replace HS := Lib.hid (HS.out.below hb9)
  clear hb9 a10 a11
  replace HS := Lib.hid (HS.out.addP hv9)
  clear hv9
  refine rdA (i := 4) rfl (fun K hK => ?_)
  go_simp
  have a13 := HS.out.p 0 _ _ rfl
  have a14 := HS.out.q 2 _ _ rfl
  go_wp2_with (go_at_call 41; (with_reducible refine (lis_any p _ _ _ a13 a14 (szR_mono S1.out (by omega))).mono ?_); rintro e w12 ⟨rfl, hb12⟩)
  refine hK.out _ _ (Sx.below hh hb12) (fun hh => ?_)
  clear hK K
  try simp only [nb1, nb2, nb3, Act.put, nb4, nb5, nb6]
  replace HS := Lib.hid (HS.out.below hb12)
  clear hb12 a13 a14
  refine tkA (i := 5) (v := ?vpr2_5_k16) rfl (Or.inl ⟨by first | rfl | kernel_rfl, ?hypr2_5_k16⟩) (by assumption) ?repr2_5_k16
  case hypr2_5_k16 => (intro u hSu; (first | (go_simp; done) | (go_simp; with_reducible rfl)))
  try simp only [nb1, nb2, nb3, Act.put, nb4, nb5, nb6]
  refine tkA (i := 6) (v := ?vpr2_6_k18) rfl (Or.inl ⟨by first | rfl | kernel_rfl, ?hypr2_6_k18⟩) (by assumption) ?repr2_6_k18
  case hypr2_6_k18 => (intro u hSu; (try dsimp only at hSu); obtain ⟨qb0c0, qb0c1, qb0c2, qb0c3, qb0c4, qb0c5, _⟩ := fac6 (x := x1) (y := x2) (hSu.at 1 _ _ _ rfl); clear hSu; (first | (go_simp; done) | (go_simp; with_reducible rfl)))
  try simp only [nb1, nb2, nb3, Act.put, nb4, nb5, nb6]
  refine tkA (i := 8) (v := ?vpr2_8_k20) rfl (Or.inl ⟨by first | rfl | kernel_rfl, ?hypr2_8_k20⟩) (by assumption) ?repr2_8_k20
  case hypr2_8_k20 => (intro u hSu; (first | (go_simp; done) | (go_simp; with_reducible rfl)))
  try simp only [nb1, nb2, nb3, Act.put, nb4, nb5, nb6]
  refine tkA (i := 9) (v := ?vpr2_9_k22) rfl (Or.inl ⟨by first | rfl | kernel_rfl, ?hypr2_9_k22⟩) (by assumption) ?repr2_9_k22
  case hypr2_9_k22 => (intro u hSu; (try dsimp only at hSu); obtain ⟨qb1c0, qb1c1, qb1c2, qb1c3, qb1c4, qb1c5, _⟩ := fac6 (x := y1) (y := y2) (hSu.at 0 _ _ _ rfl); clear hSu; (first | (go_simp; done) | (go_simp; with_reducible rfl)))
  try simp only [nb1, nb2, nb3, Act.put, nb4, nb5, nb6]
  refine rdA (i := 7) rfl (fun K hK => ?_)
  go_simp
  have a24 := HS.out.p 4 _ _ rfl
  have a25 := HS.out.p 3 _ _ rfl
  go_wp2_with (go_at_call 80; (with_reducible refine (rhi_any p q _ _ (rngP a24 a25)).mono ?_); rintro e w23 ⟨v23, rfl, hv23, hb23⟩; obtain ⟨z23, rfl⟩ := hv23.open3)
  refine hK.out _ _ (Sx.below hh hb23) (fun hh => ?_)
  clear hK K
  try simp only [nb1, nb2, nb3, Act.put, nb4, nb5, nb6]
  replace HS := Lib.hid (HS.out.below hb23)
  clear hb23 a24 a25
  replace HS := Lib.hid (HS.out.addP hv23)
  clear hv23
  refine rdA (i := 10) rfl (fun K hK => ?_)
  go_simp
  have a27 := HS.out.p 0 _ _ rfl
  have a28 := HS.out.q 2 _ _ rfl
  go_wp2_with (go_at_call 41; (with_reducible refine (lis_any q _ _ _ a27 a28 (szR_mono S2.out (by omega))).mono ?_); rintro e w26 ⟨rfl, hb26⟩)
  refine hK.out _ _ (Sx.below hh hb26) (fun hh => ?_)
  clear hK K
  try simp only [nb1, nb2, nb3, Act.put, nb4, nb5, nb6]
  replace HS := Lib.hid (HS.out.below hb26)
  clear hb26 a27 a28
  refine tkA (i := 11) (v := ?vpr2_11_k30) rfl (Or.inl ⟨by first | rfl | kernel_rfl, ?hypr2_11_k30⟩) (by assumption) ?repr2_11_k30
  case hypr2_11_k30 => (intro u hSu; (first | (go_simp; done) | (go_simp; with_reducible rfl)))
  try simp only [nb1, nb2, nb3, Act.put, nb4, nb5, nb6]
  refine tkA (i := 12) (v := ?vpr2_12_k32) rfl (Or.inl ⟨by first | rfl | kernel_rfl, ?hypr2_12_k32⟩) (by assumption) ?repr2_12_k32
  case hypr2_12_k32 => (intro u hSu; (first | (go_simp; done) | (go_simp; with_reducible rfl)))
  try simp only [nb1, nb2, nb3, Act.put, nb4, nb5, nb6]
  refine wpAnyH_done (by kernel_rfl) ?_ _
  obtain ⟨b0c0, b0c1, b0c2, b0c3, b0c4, b0c5, b0f0, b0f1, b0f2, b0f3, b0f4, b0f5⟩ := fac6 (x := x1) (y := x2) (HS.out.at 1 _ _ _ rfl)
  have b0l := blk_lt (HS.out.at 1 _ _ _ rfl)
  obtain ⟨b1c0, b1c1, b1c2, b1c3, b1c4, b1c5, b1f0, b1f1, b1f2, b1f3, b1f4, b1f5⟩ := fac6 (x := y1) (y := y2) (HS.out.at 0 _ _ _ rfl)
  have b1l := blk_lt (HS.out.at 0 _ _ _ rfl)
  go_wp2_with fail
  clear b0c0 b0c1 b0c2 b0c3 b0c4 b0c5 b0f0 b0f1 b0f2 b0f3 b0f4 b0f5 b0l b1c0 b1c1 b1c2 b1c3 b1c4 b1c5 b1f0 b1f1 b1f2 b1f3 b1f4 b1f5 b1l
  go_ret
  exact ⟨rfl, HS.out.bel⟩
end Go.Proofs.YthdgeindjphklaaGreat

namespace Go.Proofs.YthdgeindjphklaaGreat
open Go.RowKit

theorem pairsB {W : World} {B T : Nat} {n0 d0 n1 d1 : Int} (h : W.heap[B]? = some (.cells #[.int .i64 n0, .int .i64 d0, .int .i64 n1, .int .i64 d1] T (0, 0))) : PairsOf W (.slice (some ⟨B, 0, none⟩) 2 2) [(n0, d0), (n1, d1)] := by
  refine ⟨_, 2, rfl, fun _ => ⟨B, 0, rfl, blk_lt h, fun i hi => ?_⟩⟩
  match i, hi with
  | 0, _ => exact ⟨blk_cell h 0 _ rfl, blk_cell h 1 _ rfl⟩
  | 1, _ => exact ⟨blk_cell h 2 _ rfl, blk_cell h 3 _ rfl⟩
  | i + 2, hi => simp at hi; omega
theorem light2_any (n0 d0 n1 d1 : Int) (v : Value) (w : World) (h : PairsOf w v [(n0, d0), (n1, d1)]) : Calls Tryz.prog 13 #[v] w (RetBool (lightUp [(n0, d0), (n1, d1)] 2) w) := light_any [(n0, d0), (n1, d1)] v w h (by simp)
theorem loQ_sz {a b : Rat} {k : Nat} (h1 : szR a k) (h2 : szR b k) : szR (loQ a b) k := by unfold loQ; split <;> assumption
theorem hiQ_sz {a b : Rat} {k : Nat} (h1 : szR a k) (h2 : szR b k) : szR (hiQ a b) k := by unfold hiQ; split <;> assumption
theorem fracP_sz {n d : Int} (h : i64P (n, d)) : szR (fracQ n d) 100 := szR_mono (fracQ_szR n d h.1.1 h.1.2 h.2.1 h.2.2) (by omega)
end Go.Proofs.YthdgeindjphklaaGreat

namespace Go.Proofs.YthdgeindjphklaaGreat
open Go.RowKit

theorem ofP_any (n d : Int) (w : World) (h : i64P (n, d)) : Calls Tryz.prog 18 #[.agg #[.int .i64 n, .int .i64 d]] w (RetRat (fracQ n d) w) := of_any n d w h.1.1 h.1.2 h.2.1 h.2.2
theorem qofP_any (n d : Int) (w : World) (h : i64P (n, d)) : Calls Tryz.prog 20 #[.agg #[.int .i64 n, .int .i64 d]] w (RetR (fracQ n d) w) := qof_any n d w h.1.1 h.1.2 h.2.1 h.2.2
end Go.Proofs.YthdgeindjphklaaGreat
