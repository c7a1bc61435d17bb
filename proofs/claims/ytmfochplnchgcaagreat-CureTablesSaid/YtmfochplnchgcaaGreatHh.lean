/- Part h of the lemmas and walks. -/
import Derived.Test.YtmfochplnchgcaaGreatHg

namespace Go.Proofs.YtmfochplnchgcaaGreat
open Go.RowKit

theorem whole_f (n : Int) (w : World) (h1 : -9223372036854775808 ≤ n) (h2 : n ≤ 9223372036854775807) : Calls Tryz.prog 41 #[.int .i64 n] w (RetR (n : Rat) w) := whole_any n w h1 h2
theorem fld_wingworksref01_S_0 (x0 : R3) (x1 : R3) (w : World) : (Instr.field 60 (.agg #[.bool x0.b, .slice x0.a x0.n x0.c, .slice x0.d x0.m x0.e, .bool x1.b, .slice x1.a x1.n x1.c, .slice x1.d x1.m x1.e]) 0).run Tryz.prog w = .ok (x0.val) w := by kernel_rfl
theorem fld_wingworksref01_S_1 (x0 : R3) (x1 : R3) (w : World) : (Instr.field 60 (.agg #[.bool x0.b, .slice x0.a x0.n x0.c, .slice x0.d x0.m x0.e, .bool x1.b, .slice x1.a x1.n x1.c, .slice x1.d x1.m x1.e]) 1).run Tryz.prog w = .ok (x1.val) w := by kernel_rfl
set_option maxRecDepth 100000 in
set_option maxHeartbeats 4000000 in
theorem qrate_any (es : List Ent) (t : Rat) (vt vx : Value) (w : World) (ht : TabOf IsR w vt es) (hx : IsR w vx t) (hl : es.length ≤ 1000) (hI : entI es) (hZ : entS es) (s1 : szR t 10000) :
    Calls Tryz.prog 47 #[vt, vx] w (RetRngQ (rtOf es t).1 (rtOf es t).2 w) := by
  obtain ⟨x1, rfl⟩ := hx.open3
  have HS := Lib.hid ((Sx.init w).addQ hx)
  have HI := Lib.hid hI
  have HZ := Lib.hid hZ
  have S1 := Lib.hid s1
  obtain ⟨ao, cap, rfl, hE⟩ := ht
  have HE := Lib.hid hE
  clear hE hx hI hZ s1
  go_enter Tryz.func47, Tryz.ntmps47
  go_wp2_with fail
  generalize hW1 : ((w).alloc (.cells _ _)).alloc (.cells _ _) = W1 at *
  replace HS : Hid (Sx w W1 [(w.heap.size + 1, #[.bool false, .slice none 0 0, .slice none 0 0, .bool false, .slice none 0 0, .slice none 0 0], 60), (w.heap.size, x1.arr, 45)] [(false, x1.val, t)]) := by subst hW1; exact ((HS.out).alloc (B := w.heap.size) rfl (by rfl)).alloc (B := w.heap.size + 1) (by simp) (by rfl)
  clear hW1
  refine (none_any _).mono ?_
  rintro e w2 ⟨v2, rfl, ⟨z2a, z2b, rfl, hv2, hw2⟩, hb2⟩
  replace HS := Lib.hid (HS.out.below hb2)
  clear hb2
  replace HS := Lib.hid (HS.out.addQ hv2)
  clear hv2
  replace HS := Lib.hid (HS.out.addQ hw2)
  clear hw2
  go_wp2_with fail
  generalize hW3 : (w2).alloc (.cells _ _) = W3 at *
  replace HS : Hid (Sx w W3 [(w2.heap.size, arr6 z2a z2b, 60), (w.heap.size + 1, #[.bool false, .slice none 0 0, .slice none 0 0, .bool false, .slice none 0 0, .slice none 0 0], 60), (w.heap.size, x1.arr, 45)] [(false, z2b.val, 0), (false, z2a.val, 0), (false, x1.val, t)]) := by subst hW3; exact (HS.out).alloc (B := w2.heap.size) rfl (by rfl)
  clear hW3
  go_loopw [6] (fun u6 wr => ∃ (i : Nat) (y1 y2 : R3), i ≤ es.length ∧ u6 = .int .i64 i ∧ Hid (Sx w wr [(w2.heap.size, arr6 y1 y2, 60), (w.heap.size + 1, #[.bool false, .slice none 0 0, .slice none 0 0, .bool false, .slice none 0 0, .slice none 0 0], 60), (w.heap.size, x1.arr, 45)] [(false, y2.val, (rtUp es t i).2), (false, y1.val, (rtUp es t i).1), (false, x1.val, t)]))
    (fun u _ => es.length - (intOf u).toNat)
  case atStart => exact ⟨0, z2a, z2b, Nat.zero_le _, rfl, Lib.hid ((((HS.out.bare).addQ (HS.out.q 2 _ _ rfl)).addQ (HS.out.q 1 _ _ rfl)).addQ (HS.out.q 0 _ _ rfl))⟩
  case round =>
    clear HS
    obtain ⟨i, y1, y2, hi, rfl, HS⟩ := hrel
    by_cases hlt : i < es.length
    ·
      have hlt' : (i : Int) < es.length := by omega
      have hge' : (0 : Int) ≤ i := by omega
      have HLT := Lib.hid hlt
      obtain ⟨b, off, rfl, hbl, hEE⟩ := HE.out (by omega)
      have HBL := Lib.hid hbl
      clear hbl
      obtain ⟨Ex, Ey, Eg0, Eg1, Eg2, Eg3, Eg4, Eg5, Eg6, Eh1, Eh2⟩ := hEE i hlt
      have E0 := Lib.hid Eg0
      have E1 := Lib.hid Eg1
      have E2 := Lib.hid Eg2
      have E3 := Lib.hid Eg3
      have E4 := Lib.hid Eg4
      have E5 := Lib.hid Eg5
      have E6 := Lib.hid Eg6
      clear Eg0 Eg1 Eg2 Eg3 Eg4 Eg5 Eg6
      replace HS := Lib.hid ((HS.out.addQ (Eh1.below HS.out.bel)).addQ (Eh2.below HS.out.bel))
      clear Eh1 Eh2
      have HF1 := Lib.hid (rtUp_1 es t i)
      have HF2 := Lib.hid (rtUp_2 es t i)
      have HII := Lib.hid (HI.out i hlt)
      clear hEE hlt
      generalize (es.getD i (0, 0, 0)).1 = f at *
      generalize (es.getD i (0, 0, 0)).2.1 = lo at *
      generalize (es.getD i (0, 0, 0)).2.2 = hi at *
      obtain ⟨hf1, hf2⟩ := HII.out
      go_wp2_with fail
      refine wp_region_held_drew (S := (fun w' => Sx w w' [(w2.heap.size, arr6 y1 y2, 60), (w.heap.size + 1, #[.bool false, .slice none 0 0, .slice none 0 0, .bool false, .slice none 0 0, .slice none 0 0], 60), (w.heap.size, x1.arr, 45)] [])) (by kernel_rfl) ((HS.out.drew).bare) (fun hh => ?_)
      replace HS := Lib.hid HS.out.drew
      refine tkA (i := 0) (v := ?vpr4_0_k6) rfl (Or.inl ⟨by first | rfl | kernel_rfl, ?hypr4_0_k6⟩) (by assumption) ?repr4_0_k6
      case hypr4_0_k6 => (intro u hSu; (first | (go_simp; done) | (go_simp; with_reducible rfl)))
      try simp only [nb1, nb2, nb3, Act.put, nb4, nb5, nb6]
      refine tkA (i := 1) (v := ?vpr4_1_k8) rfl (Or.inl ⟨by first | rfl | kernel_rfl, ?hypr4_1_k8⟩) (by assumption) ?repr4_1_k8
      case hypr4_1_k8 => (intro u hSu; (first | (go_simp; done) | (go_simp; with_reducible rfl)))
      try simp only [nb1, nb2, nb3, Act.put, nb4, nb5, nb6]
      refine tkA (i := 2) (v := ?vpr4_2_k10) rfl (Or.inl ⟨by first | rfl | kernel_rfl, ?hypr4_2_k10⟩) (by assumption) ?repr4_2_k10
      case hypr4_2_k10 => (intro u hSu; (first | (go_simp; done) | (go_simp; with_reducible rfl)))
      try simp only [nb1, nb2, nb3, Act.put, nb4, nb5, nb6]
      refine tkA (i := 3) (v := ?vpr4_3_k12) rfl (Or.inl ⟨by first | rfl | kernel_rfl, ?hypr4_3_k12⟩) (by assumption) ?repr4_3_k12
      case hypr4_3_k12 => (intro u hSu; (first | (go_simp; done) | (go_simp; with_reducible rfl)))
      try simp only [nb1, nb2, nb3, Act.put, nb4, nb5, nb6]
      refine tkA (i := 4) (v := ?vpr4_4_k14) rfl (Or.inl ⟨by first | rfl | kernel_rfl, ?hypr4_4_k14⟩) (by assumption) ?repr4_4_k14
      case hypr4_4_k14 => (intro u hSu; (try dsimp only at hSu); have Ec0 := (hSu.bel.cell (p := ⟨b, off + i * 7, none⟩) HBL.out).trans E0.out; have Ec1 := (hSu.bel.cell (p := ⟨b, off + i * 7 + 1, none⟩) HBL.out).trans E1.out; have Ec2 := (hSu.bel.cell (p := ⟨b, off + i * 7 + 2, none⟩) HBL.out).trans E2.out; have Ec3 := (hSu.bel.cell (p := ⟨b, off + i * 7 + 3, none⟩) HBL.out).trans E3.out; have Ec4 := (hSu.bel.cell (p := ⟨b, off + i * 7 + 4, none⟩) HBL.out).trans E4.out; have Ec5 := (hSu.bel.cell (p := ⟨b, off + i * 7 + 5, none⟩) HBL.out).trans E5.out; have Ec6 := (hSu.bel.cell (p := ⟨b, off + i * 7 + 6, none⟩) HBL.out).trans E6.out; clear hSu; (first | (go_simp; done) | (go_simp; with_reducible rfl)))
      try simp only [nb1, nb2, nb3, Act.put, nb4, nb5, nb6]
      refine tkA (i := 6) (v := ?vpr4_6_k16) rfl (Or.inl ⟨by first | rfl | kernel_rfl, ?hypr4_6_k16⟩) (by assumption) ?repr4_6_k16
      case hypr4_6_k16 => (intro u hSu; (try dsimp only at hSu); obtain ⟨qb0c0, qb0c1, qb0c2, _⟩ := fac3 (x := x1) (hSu.at 2 _ _ _ rfl); clear hSu; (first | (go_simp; done) | (go_simp; with_reducible rfl)))
      try simp only [nb1, nb2, nb3, Act.put, nb4, nb5, nb6]
      refine rdA (i := 5) rfl (fun K hK => ?_)
      go_simp
      go_wp2_with (go_at_call 41; (with_reducible refine (whole_f f _ hf1 hf2).mono ?_); rintro e w17 ⟨v17, rfl, hv17, hb17⟩; obtain ⟨z17, rfl⟩ := hv17.open3)
      refine hK.out _ _ (Sx.below hh hb17) (fun hh => ?_)
      clear hK K
      try simp only [nb1, nb2, nb3, Act.put, nb4, nb5, nb6]
      replace HS := Lib.hid (HS.out.below hb17)
      clear hb17
      replace HS := Lib.hid (HS.out.addQ hv17)
      clear hv17
      refine rdA (i := 7) rfl (fun K hK => ?_)
      go_simp
      obtain ⟨c18, hc18⟩ : ∃ c, c = cmpR (f : Rat) t := ⟨_, rfl⟩
      have HC18 := Lib.hid hc18
      clear hc18
      have a19 := HS.out.q 0 _ _ rfl
      have a20 := HS.out.q 5 _ _ rfl
      go_wp2_with (go_at_call 38; (with_reducible refine (qcmp_any (f : Rat) t _ _ _ a19 a20 (szQ_mono (szQ_of (i64_szR' f hf1 hf2 10000 (by omega))) (by omega)) (szQ_mono (szQ_of S1.out) (by omega))).mono ?_); rw [← HC18.out]; rintro e w18 ⟨rfl, hb18⟩)
      refine hK.out _ _ (Sx.below hh hb18) (fun hh => ?_)
      clear hK K
      try simp only [nb1, nb2, nb3, Act.put, nb4, nb5, nb6]
      replace HS := Lib.hid (HS.out.below hb18)
      clear hb18 a19 a20
      by_cases t22p : c18 ≤ 0
      ·
        have t22 : decide (c18 ≤ 0) = true := decide_eq_true t22p
        have T22 := Lib.hid t22p
        clear t22p
        refine tkA (i := 8) (v := ?vpr4_8_k23) rfl (Or.inl ⟨by first | rfl | kernel_rfl, ?hypr4_8_k23⟩) (by assumption) ?repr4_8_k23
        case hypr4_8_k23 => (intro u hSu; (first | (go_simp; done) | (go_simp; with_reducible rfl)))
        try simp only [nb1, nb2, nb3, Act.put, nb4, nb5, nb6]
        refine wpAnyH_done (by kernel_rfl) ?_ _
        obtain ⟨b0c0, b0c1, b0c2, b0f0, b0f1, b0f2⟩ := fac3 (x := x1) (HS.out.at 2 _ _ _ rfl)
        have b0l := blk_lt (HS.out.at 2 _ _ _ rfl)
        obtain ⟨b2c0, b2c1, b2c2, b2c3, b2c4, b2c5, b2f0, b2f1, b2f2, b2f3, b2f4, b2f5⟩ := fac6 (x := y1) (y := y2) (HS.out.at 0 _ _ _ rfl)
        have b2l := blk_lt (HS.out.at 0 _ _ _ rfl)
        have Ec0 := (HS.out.bel.cell (p := ⟨b, off + i * 7, none⟩) HBL.out).trans E0.out
        have Ec1 := (HS.out.bel.cell (p := ⟨b, off + i * 7 + 1, none⟩) HBL.out).trans E1.out
        have Ec2 := (HS.out.bel.cell (p := ⟨b, off + i * 7 + 2, none⟩) HBL.out).trans E2.out
        have Ec3 := (HS.out.bel.cell (p := ⟨b, off + i * 7 + 3, none⟩) HBL.out).trans E3.out
        have Ec4 := (HS.out.bel.cell (p := ⟨b, off + i * 7 + 4, none⟩) HBL.out).trans E4.out
        have Ec5 := (HS.out.bel.cell (p := ⟨b, off + i * 7 + 5, none⟩) HBL.out).trans E5.out
        have Ec6 := (HS.out.bel.cell (p := ⟨b, off + i * 7 + 6, none⟩) HBL.out).trans E6.out
        go_wp2_with fail
        clear b0c0 b0c1 b0c2 b0f0 b0f1 b0f2 b0l b2c0 b2c1 b2c2 b2c3 b2c4 b2c5 b2f0 b2f1 b2f2 b2f3 b2f4 b2f5 b2l Ec0 Ec1 Ec2 Ec3 Ec4 Ec5 Ec6
        generalize hW24 : ((((((w18).setCell _ _).setCell _ _).setCell _ _).setCell _ _).setCell _ _).setCell _ _ = W24 at *
        replace HS : Hid (Sx w W24 [(w2.heap.size, arr6 Ex Ey, 60), (w.heap.size + 1, #[.bool false, .slice none 0 0, .slice none 0 0, .bool false, .slice none 0 0, .slice none 0 0], 60), (w.heap.size, x1.arr, 45)] [(false, z17.val, (f : Rat)), (false, Ey.val, hi), (false, Ex.val, lo), (false, y2.val, (rtUp es t i).2), (false, y1.val, (rtUp es t i).1), (false, x1.val, t)]) := by subst hW24; exact (HS.out).st_RR 0 y1 y2 Ex Ey rfl
        clear hW24
        have EQ1 := Lib.hid (HF1.out.trans (if_pos (by rw [← HC18.out]; exact T22.out)))
        have EQ2 := Lib.hid (HF2.out.trans (if_pos (by rw [← HC18.out]; exact T22.out)))
        exact ⟨⟨i + 1, Ex, Ey, by have := HLT.out; omega, by go_num, Lib.hid ((((HS.out.bare).addQ (HS.out.q 5 _ _ rfl)).addQ (by rw [EQ1.out]; exact (HS.out.q 2 _ _ rfl))).addQ (by rw [EQ2.out]; exact (HS.out.q 1 _ _ rfl)))⟩, meas_up HLT.out⟩
      ·
        have t22 : decide (c18 ≤ 0) = false := decide_eq_false t22p
        have T22 := Lib.hid t22p
        clear t22p
        refine tkA (i := 8) (v := ?vpr4_8_k25) rfl (Or.inl ⟨by first | rfl | kernel_rfl, ?hypr4_8_k25⟩) (by assumption) ?repr4_8_k25
        case hypr4_8_k25 => (intro u hSu; (first | (go_simp; done) | (go_simp; with_reducible rfl)))
        try simp only [nb1, nb2, nb3, Act.put, nb4, nb5, nb6]
        refine wpAnyH_done (by kernel_rfl) ?_ _
        obtain ⟨b0c0, b0c1, b0c2, b0f0, b0f1, b0f2⟩ := fac3 (x := x1) (HS.out.at 2 _ _ _ rfl)
        have b0l := blk_lt (HS.out.at 2 _ _ _ rfl)
        have Ec0 := (HS.out.bel.cell (p := ⟨b, off + i * 7, none⟩) HBL.out).trans E0.out
        have Ec1 := (HS.out.bel.cell (p := ⟨b, off + i * 7 + 1, none⟩) HBL.out).trans E1.out
        have Ec2 := (HS.out.bel.cell (p := ⟨b, off + i * 7 + 2, none⟩) HBL.out).trans E2.out
        have Ec3 := (HS.out.bel.cell (p := ⟨b, off + i * 7 + 3, none⟩) HBL.out).trans E3.out
        have Ec4 := (HS.out.bel.cell (p := ⟨b, off + i * 7 + 4, none⟩) HBL.out).trans E4.out
        have Ec5 := (HS.out.bel.cell (p := ⟨b, off + i * 7 + 5, none⟩) HBL.out).trans E5.out
        have Ec6 := (HS.out.bel.cell (p := ⟨b, off + i * 7 + 6, none⟩) HBL.out).trans E6.out
        go_wp2_with fail
        clear b0c0 b0c1 b0c2 b0f0 b0f1 b0f2 b0l Ec0 Ec1 Ec2 Ec3 Ec4 Ec5 Ec6
        have EQ1 := Lib.hid (HF1.out.trans (if_neg (by rw [← HC18.out]; exact T22.out)))
        have EQ2 := Lib.hid (HF2.out.trans (if_neg (by rw [← HC18.out]; exact T22.out)))
        exact ⟨⟨i + 1, y1, y2, by have := HLT.out; omega, by go_num, Lib.hid ((((HS.out.bare).addQ (HS.out.q 5 _ _ rfl)).addQ (by rw [EQ1.out]; exact (HS.out.q 4 _ _ rfl))).addQ (by rw [EQ2.out]; exact (HS.out.q 3 _ _ rfl)))⟩, meas_up HLT.out⟩
    ·
      obtain rfl : i = es.length := by omega
      obtain ⟨b2c0, b2c1, b2c2, b2c3, b2c4, b2c5, b2f0, b2f1, b2f2, b2f3, b2f4, b2f5⟩ := fac6 (x := y1) (y := y2) (HS.out.at 0 _ _ _ rfl)
      have b2l := blk_lt (HS.out.at 0 _ _ _ rfl)
      have b1e := (HS.out.at 1 _ _ _ rfl)
      have b1c0 := blk_cell b1e 0 (.bool false) rfl
      have b1c1 := blk_cell b1e 1 (.slice none 0 0) rfl
      have b1c2 := blk_cell b1e 2 (.slice none 0 0) rfl
      have b1c3 := blk_cell b1e 3 (.bool false) rfl
      have b1c4 := blk_cell b1e 4 (.slice none 0 0) rfl
      have b1c5 := blk_cell b1e 5 (.slice none 0 0) rfl
      have b1f0 := blk_frozen b1e 0
      have b1f1 := blk_frozen b1e 1
      have b1f2 := blk_frozen b1e 2
      have b1f3 := blk_frozen b1e 3
      have b1f4 := blk_frozen b1e 4
      have b1f5 := blk_frozen b1e 5
      have b1l := blk_lt b1e
      clear b1e
      go_wp2_with fail
      clear b2c0 b2c1 b2c2 b2c3 b2c4 b2c5 b2f0 b2f1 b2f2 b2f3 b2f4 b2f5 b2l b1c0 b1c1 b1c2 b1c3 b1c4 b1c5 b1f0 b1f1 b1f2 b1f3 b1f4 b1f5 b1l
      generalize hW26 : ((((((wr).setCell _ _).setCell _ _).setCell _ _).setCell _ _).setCell _ _).setCell _ _ = W26 at *
      replace HS : Hid (Sx w W26 [(w2.heap.size, arr6 y1 y2, 60), (w.heap.size + 1, arr6 y1 y2, 60), (w.heap.size, x1.arr, 45)] [(false, y2.val, (rtUp es t es.length).2), (false, y1.val, (rtUp es t es.length).1), (false, x1.val, t)]) := by subst hW26; exact (HS.out).st_RR 1 r30 r30 y1 y2 rfl
      clear hW26
      obtain ⟨b1c0, b1c1, b1c2, b1c3, b1c4, b1c5, _⟩ := fac6 (x := y1) (y := y2) (HS.out.at 1 _ _ _ rfl)
      refine bodyPost_ret (v := .agg #[.bool y1.b, .slice y1.a y1.n y1.c, .slice y1.d y1.m y1.e, .bool y2.b, .slice y2.a y2.n y2.c, .slice y2.d y2.m y2.e]) (by simp [results, Tryz.results47, go_sem, b1c0, b1c1, b1c2, b1c3, b1c4, b1c5]) rfl ⟨_, rfl, (rngQ (HS.out.q 1 _ _ rfl) (HS.out.q 0 _ _ rfl)), HS.out.bel⟩
set_option maxRecDepth 100000 in
set_option maxHeartbeats 4000000 in
theorem qctable_any (es : List Ent) (vt : Value) (w : World) (ht : TabOf IsR w vt es) (hl : es.length ≤ 1000) (hI : entI es) (hZ : entS es) (hO : entO es) :
    Calls Tryz.prog 22 #[vt] w (RetInt (ctErr es) w) := by
  have HS := Lib.hid (Sx.init w)
  have HI := Lib.hid hI
  have HZ := Lib.hid hZ
  have HO := Lib.hid hO
  obtain ⟨ao, cap, rfl, hE⟩ := ht
  have HE := Lib.hid hE
  clear hE hI hZ hO
  by_cases h1 : es.length < 1
  ·
    have HR : Hid (ctErr es = 4) := by show _ = _; unfold ctErr; rw [if_pos (.inl h1)]
    have t1 : decide ((es.length : Int) < 1) = true := decide_eq_true (by omega)
    go_enter Tryz.func22, Tryz.ntmps22
    go_wp2_with fail
    go_ret
    exact ⟨by rw [HR.out] <;> rfl, HS.out.bel⟩
  by_cases h2 : 16 < es.length
  ·
    have HR : Hid (ctErr es = 4) := by show _ = _; unfold ctErr; rw [if_pos (.inr h2)]
    have t1 : decide ((es.length : Int) < 1) = false := decide_eq_false (by omega)
    have t2 : decide ((es.length : Int) > 16) = true := decide_eq_true (by omega)
    clear h1 h2
    go_enter Tryz.func22, Tryz.ntmps22
    go_wp2_with fail
    go_ret
    exact ⟨by rw [HR.out] <;> rfl, HS.out.bel⟩
  ·
    have HLN : Hid (¬ (es.length < 1 ∨ 16 < es.length)) := by show ¬ _; omega
    have t1 : decide ((es.length : Int) < 1) = false := decide_eq_false (by omega)
    have t2 : decide ((es.length : Int) > 16) = false := decide_eq_false (by omega)
    clear h1 h2
    go_enter Tryz.func22, Tryz.ntmps22
    go_wp2_with fail
    go_loopw [3] (fun u3 wr => ∃ (i : Nat), i ≤ es.length ∧ u3 = .int .i64 i ∧ Hid (cvErrs es i = 0) ∧ Hid (Sx w wr [] []))
      (fun u _ => es.length - (intOf u).toNat)
    case atStart => exact ⟨0, Nat.zero_le _, rfl, Lib.hid rfl, Lib.hid (HS.out.bare)⟩
    case round =>
      clear HS
      obtain ⟨i, hi, rfl, HOK, HS⟩ := hrel
      by_cases hlt : i < es.length
      ·
        have hlt' : (i : Int) < es.length := by omega
        have hge' : (0 : Int) ≤ i := by omega
        have HLT := Lib.hid hlt
        have HPI := Lib.hid (part_in (HO.out i hlt))
        obtain ⟨b, off, rfl, hbl, hEE⟩ := HE.out (by omega)
        have HBL := Lib.hid hbl
        clear hbl
        obtain ⟨Ex, Ey, Eg0, Eg1, Eg2, Eg3, Eg4, Eg5, Eg6, Eh1, Eh2⟩ := hEE i hlt
        have E0 := Lib.hid Eg0
        have E1 := Lib.hid Eg1
        have E2 := Lib.hid Eg2
        have E3 := Lib.hid Eg3
        have E4 := Lib.hid Eg4
        have E5 := Lib.hid Eg5
        have E6 := Lib.hid Eg6
        clear Eg0 Eg1 Eg2 Eg3 Eg4 Eg5 Eg6
        replace HS := Lib.hid ((HS.out.addQ (Eh1.below HS.out.bel)).addQ (Eh2.below HS.out.bel))
        clear Eh1 Eh2
        have HSZ := Lib.hid (HZ.out i)
        by_cases hp : 0 < i
        ·
          obtain ⟨j, hj⟩ : ∃ j, i = j + 1 := ⟨i - 1, by omega⟩
          have hjl : j < es.length := by omega
          obtain ⟨Dx, Dy, Dg0, Dg1, Dg2, Dg3, Dg4, Dg5, Dg6, Dh1, Dh2⟩ := hEE j hjl
          have D0 := Lib.hid Dg0
          have D1 := Lib.hid Dg1
          have D2 := Lib.hid Dg2
          have D3 := Lib.hid Dg3
          have D4 := Lib.hid Dg4
          have D5 := Lib.hid Dg5
          have D6 := Lib.hid Dg6
          clear Dg0 Dg1 Dg2 Dg3 Dg4 Dg5 Dg6
          replace HS := Lib.hid ((HS.out.addQ (Dh1.below HS.out.bel)).addQ (Dh2.below HS.out.bel))
          clear Dh1 Dh2
          have HF := Lib.hid (cvErr_s (es := es) hj)
          have HSY := Lib.hid (HZ.out j)
          have hw : IntKind.i64.wrap ((i : Int) - 1) = (j : Int) := (IntWalk.i64_in _ (by omega)).trans (by omega)
          have hj1 : (0 : Int) ≤ j := by omega
          have hj2 : (j : Int) < es.length := by omega
          have tp1 : decide ((i : Int) > 0) = true := decide_eq_true (by omega)
          have tp2 : decide (0 < i) = true := decide_eq_true hp
          have hpI : (0 : Int) < i := by omega
          clear hjl hj
          clear hEE hlt
          generalize (es.getD i (0, 0, 0)).1 = f at *
          generalize (es.getD i (0, 0, 0)).2.1 = lo at *
          generalize (es.getD i (0, 0, 0)).2.2 = hi at *
          generalize (es.getD j (0, 0, 0)).1 = fp at *
          generalize (es.getD j (0, 0, 0)).2.1 = lop at *
          generalize (es.getD j (0, 0, 0)).2.2 = hip at *
          go_wp2_with fail
          refine wp_region_held_drew (S := (fun w' => Sx w w' [] [])) (by kernel_rfl) ((HS.out.drew).bare) (fun hh => ?_)
          replace HS := Lib.hid HS.out.drew
          refine tkA (i := 0) (v := ?vpr1_0_k3) rfl (Or.inl ⟨by first | rfl | kernel_rfl, ?hypr1_0_k3⟩) (by assumption) ?repr1_0_k3
          case hypr1_0_k3 => (intro u hSu; (first | (go_simp; done) | (go_simp; with_reducible rfl)))
          try simp only [nb1, nb2, nb3, Act.put, nb4, nb5, nb6]
          refine tkA (i := 1) (v := ?vpr1_1_k5) rfl (Or.inl ⟨by first | rfl | kernel_rfl, ?hypr1_1_k5⟩) (by assumption) ?repr1_1_k5
          case hypr1_1_k5 => (intro u hSu; (first | (go_simp; done) | (go_simp; with_reducible rfl)))
          try simp only [nb1, nb2, nb3, Act.put, nb4, nb5, nb6]
          refine tkA (i := 2) (v := ?vpr1_2_k7) rfl (Or.inl ⟨by first | rfl | kernel_rfl, ?hypr1_2_k7⟩) (by assumption) ?repr1_2_k7
          case hypr1_2_k7 => (intro u hSu; (first | (go_simp; done) | (go_simp; with_reducible rfl)))
          try simp only [nb1, nb2, nb3, Act.put, nb4, nb5, nb6]
          refine tkA (i := 3) (v := ?vpr1_3_k9) rfl (Or.inl ⟨by first | rfl | kernel_rfl, ?hypr1_3_k9⟩) (by assumption) ?repr1_3_k9
          case hypr1_3_k9 => (intro u hSu; (first | (go_simp; done) | (go_simp; with_reducible rfl)))
          try simp only [nb1, nb2, nb3, Act.put, nb4, nb5, nb6]
          refine tkA (i := 4) (v := ?vpr1_4_k11) rfl (Or.inl ⟨by first | rfl | kernel_rfl, ?hypr1_4_k11⟩) (by assumption) ?repr1_4_k11
          case hypr1_4_k11 => (intro u hSu; (first | (go_simp; done) | (go_simp; with_reducible rfl)))
          try simp only [nb1, nb2, nb3, Act.put, nb4, nb5, nb6]
          refine tkA (i := 5) (v := ?vpr1_5_k13) rfl (Or.inl ⟨by first | rfl | kernel_rfl, ?hypr1_5_k13⟩) (by assumption) ?repr1_5_k13
          case hypr1_5_k13 => (intro u hSu; (first | (go_simp; done) | (go_simp; with_reducible rfl)))
          try simp only [nb1, nb2, nb3, Act.put, nb4, nb5, nb6]
          refine tkA (i := 6) (v := ?vpr1_6_k15) rfl (Or.inl ⟨by first | rfl | kernel_rfl, ?hypr1_6_k15⟩) (by assumption) ?repr1_6_k15
          case hypr1_6_k15 => (intro u hSu; (first | (go_simp; done) | (go_simp; with_reducible rfl)))
          try simp only [nb1, nb2, nb3, Act.put, nb4, nb5, nb6]
          refine tkA (i := 7) (v := ?vpr1_7_k17) rfl (Or.inl ⟨by first | rfl | kernel_rfl, ?hypr1_7_k17⟩) (by assumption) ?repr1_7_k17
          case hypr1_7_k17 => (intro u hSu; (try dsimp only at hSu); have Ec0 := (hSu.bel.cell (p := ⟨b, off + i * 7, none⟩) HBL.out).trans E0.out; have Ec1 := (hSu.bel.cell (p := ⟨b, off + i * 7 + 1, none⟩) HBL.out).trans E1.out; have Ec2 := (hSu.bel.cell (p := ⟨b, off + i * 7 + 2, none⟩) HBL.out).trans E2.out; have Ec3 := (hSu.bel.cell (p := ⟨b, off + i * 7 + 3, none⟩) HBL.out).trans E3.out; have Ec4 := (hSu.bel.cell (p := ⟨b, off + i * 7 + 4, none⟩) HBL.out).trans E4.out; have Ec5 := (hSu.bel.cell (p := ⟨b, off + i * 7 + 5, none⟩) HBL.out).trans E5.out; have Ec6 := (hSu.bel.cell (p := ⟨b, off + i * 7 + 6, none⟩) HBL.out).trans E6.out; clear hSu; (first | (go_simp; done) | (go_simp; with_reducible rfl)))
          try simp only [nb1, nb2, nb3, Act.put, nb4, nb5, nb6]
          refine tkA (i := 8) (v := ?vpr1_8_k19) rfl (Or.inl ⟨by first | rfl | kernel_rfl, ?hypr1_8_k19⟩) (by assumption) ?repr1_8_k19
          case hypr1_8_k19 => (intro u hSu; (first | (go_simp; done) | (go_simp; with_reducible rfl)))
          try simp only [nb1, nb2, nb3, Act.put, nb4, nb5, nb6]
          refine tkA (i := 9) (v := ?vpr1_9_k21) rfl (Or.inl ⟨by first | rfl | kernel_rfl, ?hypr1_9_k21⟩) (by assumption) ?repr1_9_k21
          case hypr1_9_k21 => (intro u hSu; (first | (go_simp; done) | (go_simp; with_reducible rfl)))
          try simp only [nb1, nb2, nb3, Act.put, nb4, nb5, nb6]
          refine tkA (i := 10) (v := ?vpr1_10_k23) rfl (Or.inl ⟨by first | rfl | kernel_rfl, ?hypr1_10_k23⟩) (by assumption) ?repr1_10_k23
          case hypr1_10_k23 => (intro u hSu; (first | (go_simp; done) | (go_simp; with_reducible rfl)))
          try simp only [nb1, nb2, nb3, Act.put, nb4, nb5, nb6]
          refine tkA (i := 11) (v := ?vpr1_11_k25) rfl (Or.inl ⟨by first | rfl | kernel_rfl, ?hypr1_11_k25⟩) (by assumption) ?repr1_11_k25
          case hypr1_11_k25 => (intro u hSu; (first | (go_simp; done) | (go_simp; with_reducible rfl)))
          try simp only [nb1, nb2, nb3, Act.put, nb4, nb5, nb6]
          refine tkA (i := 12) (v := ?vpr1_12_k27) rfl (Or.inl ⟨by first | rfl | kernel_rfl, ?hypr1_12_k27⟩) (by assumption) ?repr1_12_k27
          case hypr1_12_k27 => (intro u hSu; (first | (go_simp; done) | (go_simp; with_reducible rfl)))
          try simp only [nb1, nb2, nb3, Act.put, nb4, nb5, nb6]
          refine tkA (i := 13) (v := ?vpr1_13_k29) rfl (Or.inl ⟨by first | rfl | kernel_rfl, ?hypr1_13_k29⟩) (by assumption) ?repr1_13_k29
          case hypr1_13_k29 => (intro u hSu; (try dsimp only at hSu); have Dc0 := (hSu.bel.cell (p := ⟨b, off + j * 7, none⟩) HBL.out).trans D0.out; have Dc1 := (hSu.bel.cell (p := ⟨b, off + j * 7 + 1, none⟩) HBL.out).trans D1.out; have Dc2 := (hSu.bel.cell (p := ⟨b, off + j * 7 + 2, none⟩) HBL.out).trans D2.out; have Dc3 := (hSu.bel.cell (p := ⟨b, off + j * 7 + 3, none⟩) HBL.out).trans D3.out; have Dc4 := (hSu.bel.cell (p := ⟨b, off + j * 7 + 4, none⟩) HBL.out).trans D4.out; have Dc5 := (hSu.bel.cell (p := ⟨b, off + j * 7 + 5, none⟩) HBL.out).trans D5.out; have Dc6 := (hSu.bel.cell (p := ⟨b, off + j * 7 + 6, none⟩) HBL.out).trans D6.out; clear hSu; (first | (go_simp; done) | (go_simp; with_reducible rfl)))
          try simp only [nb1, nb2, nb3, Act.put, nb4, nb5, nb6]
          by_cases t31p : f ≤ fp
          ·
            have t31 : decide (f ≤ fp) = true := decide_eq_true t31p
            have T31 := Lib.hid t31p
            clear t31p
            refine tkA (i := 14) (v := ?vpr1_14_k32) rfl (Or.inl ⟨by first | rfl | kernel_rfl, ?hypr1_14_k32⟩) (by assumption) ?repr1_14_k32
            case hypr1_14_k32 => (intro u hSu; (first | (go_simp; done) | (go_simp; with_reducible rfl)))
            try simp only [nb1, nb2, nb3, Act.put, nb4, nb5, nb6]
            refine tkA (i := 15) (v := ?vpr1_15_k34) rfl (Or.inl ⟨by first | rfl | kernel_rfl, ?hypr1_15_k34⟩) (by assumption) ?repr1_15_k34
            case hypr1_15_k34 => (intro u hSu; (first | (go_simp; done) | (go_simp; with_reducible rfl)))
            try simp only [nb1, nb2, nb3, Act.put, nb4, nb5, nb6]
            refine wpAnyH_done (by kernel_rfl) ?_ _
            have Ec0 := (HS.out.bel.cell (p := ⟨b, off + i * 7, none⟩) HBL.out).trans E0.out
            have Ec1 := (HS.out.bel.cell (p := ⟨b, off + i * 7 + 1, none⟩) HBL.out).trans E1.out
            have Ec2 := (HS.out.bel.cell (p := ⟨b, off + i * 7 + 2, none⟩) HBL.out).trans E2.out
            have Ec3 := (HS.out.bel.cell (p := ⟨b, off + i * 7 + 3, none⟩) HBL.out).trans E3.out
            have Ec4 := (HS.out.bel.cell (p := ⟨b, off + i * 7 + 4, none⟩) HBL.out).trans E4.out
            have Ec5 := (HS.out.bel.cell (p := ⟨b, off + i * 7 + 5, none⟩) HBL.out).trans E5.out
            have Ec6 := (HS.out.bel.cell (p := ⟨b, off + i * 7 + 6, none⟩) HBL.out).trans E6.out
            have Dc0 := (HS.out.bel.cell (p := ⟨b, off + j * 7, none⟩) HBL.out).trans D0.out
            have Dc1 := (HS.out.bel.cell (p := ⟨b, off + j * 7 + 1, none⟩) HBL.out).trans D1.out
            have Dc2 := (HS.out.bel.cell (p := ⟨b, off + j * 7 + 2, none⟩) HBL.out).trans D2.out
            have Dc3 := (HS.out.bel.cell (p := ⟨b, off + j * 7 + 3, none⟩) HBL.out).trans D3.out
            have Dc4 := (HS.out.bel.cell (p := ⟨b, off + j * 7 + 4, none⟩) HBL.out).trans D4.out
            have Dc5 := (HS.out.bel.cell (p := ⟨b, off + j * 7 + 5, none⟩) HBL.out).trans D5.out
            have Dc6 := (HS.out.bel.cell (p := ⟨b, off + j * 7 + 6, none⟩) HBL.out).trans D6.out
            go_wp2_with fail
            clear Ec0 Ec1 Ec2 Ec3 Ec4 Ec5 Ec6 Dc0 Dc1 Dc2 Dc3 Dc4 Dc5 Dc6
            have HR : Hid (ctErr es = 7) := cvErrs_at HOK.out (by first | (rw [HF.out, HPI.out]; simp only [t31, Bool.and_true, Bool.true_and, Bool.and_false, Bool.false_and, Bool.or_true, Bool.true_or, Bool.or_false, Bool.false_or, Bool.not_true, Bool.not_false, cond_true, cond_false]) | (rw [HF.out, HPI.out]; simp [t31])) (by omega) HLT.out HLN.out
            go_ret
            exact ⟨by rw [HR.out] <;> rfl, HS.out.bel⟩
          ·
            have t31 : decide (f ≤ fp) = false := decide_eq_false t31p
            have T31 := Lib.hid t31p
            clear t31p
            refine tkA (i := 14) (v := ?vpr1_14_k35) rfl (Or.inl ⟨by first | rfl | kernel_rfl, ?hypr1_14_k35⟩) (by assumption) ?repr1_14_k35
            case hypr1_14_k35 => (intro u hSu; (first | (go_simp; done) | (go_simp; with_reducible rfl)))
            try simp only [nb1, nb2, nb3, Act.put, nb4, nb5, nb6]
            refine tkA (i := 15) (v := ?vpr1_15_k37) rfl (Or.inl ⟨by first | rfl | kernel_rfl, ?hypr1_15_k37⟩) (by assumption) ?repr1_15_k37
            case hypr1_15_k37 => (intro u hSu; (first | (go_simp; done) | (go_simp; with_reducible rfl)))
            try simp only [nb1, nb2, nb3, Act.put, nb4, nb5, nb6]
            refine wpAnyH_done (by kernel_rfl) ?_ _
            have Ec0 := (HS.out.bel.cell (p := ⟨b, off + i * 7, none⟩) HBL.out).trans E0.out
            have Ec1 := (HS.out.bel.cell (p := ⟨b, off + i * 7 + 1, none⟩) HBL.out).trans E1.out
            have Ec2 := (HS.out.bel.cell (p := ⟨b, off + i * 7 + 2, none⟩) HBL.out).trans E2.out
            have Ec3 := (HS.out.bel.cell (p := ⟨b, off + i * 7 + 3, none⟩) HBL.out).trans E3.out
            have Ec4 := (HS.out.bel.cell (p := ⟨b, off + i * 7 + 4, none⟩) HBL.out).trans E4.out
            have Ec5 := (HS.out.bel.cell (p := ⟨b, off + i * 7 + 5, none⟩) HBL.out).trans E5.out
            have Ec6 := (HS.out.bel.cell (p := ⟨b, off + i * 7 + 6, none⟩) HBL.out).trans E6.out
            have Dc0 := (HS.out.bel.cell (p := ⟨b, off + j * 7, none⟩) HBL.out).trans D0.out
            have Dc1 := (HS.out.bel.cell (p := ⟨b, off + j * 7 + 1, none⟩) HBL.out).trans D1.out
            have Dc2 := (HS.out.bel.cell (p := ⟨b, off + j * 7 + 2, none⟩) HBL.out).trans D2.out
            have Dc3 := (HS.out.bel.cell (p := ⟨b, off + j * 7 + 3, none⟩) HBL.out).trans D3.out
            have Dc4 := (HS.out.bel.cell (p := ⟨b, off + j * 7 + 4, none⟩) HBL.out).trans D4.out
            have Dc5 := (HS.out.bel.cell (p := ⟨b, off + j * 7 + 5, none⟩) HBL.out).trans D5.out
            have Dc6 := (HS.out.bel.cell (p := ⟨b, off + j * 7 + 6, none⟩) HBL.out).trans D6.out
            go_wp2_with fail
            clear Ec0 Ec1 Ec2 Ec3 Ec4 Ec5 Ec6 Dc0 Dc1 Dc2 Dc3 Dc4 Dc5 Dc6
            refine wp_region_held_drew (S := (fun w' => Sx w w' [] [])) (by kernel_rfl) ((HS.out.drew).bare) (fun hh => ?_)
            replace HS := Lib.hid HS.out.drew
            refine tkA (i := 0) (v := ?vpr38_0_k40) rfl (Or.inl ⟨by first | rfl | kernel_rfl, ?hypr38_0_k40⟩) (by assumption) ?repr38_0_k40
            case hypr38_0_k40 => (intro u hSu; (first | (go_simp; done) | (go_simp; with_reducible rfl)))
            try simp only [nb1, nb2, nb3, Act.put, nb4, nb5, nb6]
            refine tkA (i := 1) (v := ?vpr38_1_k42) rfl (Or.inl ⟨by first | rfl | kernel_rfl, ?hypr38_1_k42⟩) (by assumption) ?repr38_1_k42
            case hypr38_1_k42 => (intro u hSu; (first | (go_simp; done) | (go_simp; with_reducible rfl)))
            try simp only [nb1, nb2, nb3, Act.put, nb4, nb5, nb6]
            refine tkA (i := 2) (v := ?vpr38_2_k44) rfl (Or.inl ⟨by first | rfl | kernel_rfl, ?hypr38_2_k44⟩) (by assumption) ?repr38_2_k44
            case hypr38_2_k44 => (intro u hSu; (first | (go_simp; done) | (go_simp; with_reducible rfl)))
            try simp only [nb1, nb2, nb3, Act.put, nb4, nb5, nb6]
            refine tkA (i := 3) (v := ?vpr38_3_k46) rfl (Or.inl ⟨by first | rfl | kernel_rfl, ?hypr38_3_k46⟩) (by assumption) ?repr38_3_k46
            case hypr38_3_k46 => (intro u hSu; (first | (go_simp; done) | (go_simp; with_reducible rfl)))
            try simp only [nb1, nb2, nb3, Act.put, nb4, nb5, nb6]
            refine tkA (i := 4) (v := ?vpr38_4_k48) rfl (Or.inl ⟨by first | rfl | kernel_rfl, ?hypr38_4_k48⟩) (by assumption) ?repr38_4_k48
            case hypr38_4_k48 => (intro u hSu; (try dsimp only at hSu); have Ec0 := (hSu.bel.cell (p := ⟨b, off + i * 7, none⟩) HBL.out).trans E0.out; have Ec1 := (hSu.bel.cell (p := ⟨b, off + i * 7 + 1, none⟩) HBL.out).trans E1.out; have Ec2 := (hSu.bel.cell (p := ⟨b, off + i * 7 + 2, none⟩) HBL.out).trans E2.out; have Ec3 := (hSu.bel.cell (p := ⟨b, off + i * 7 + 3, none⟩) HBL.out).trans E3.out; have Ec4 := (hSu.bel.cell (p := ⟨b, off + i * 7 + 4, none⟩) HBL.out).trans E4.out; have Ec5 := (hSu.bel.cell (p := ⟨b, off + i * 7 + 5, none⟩) HBL.out).trans E5.out; have Ec6 := (hSu.bel.cell (p := ⟨b, off + i * 7 + 6, none⟩) HBL.out).trans E6.out; clear hSu; (first | (go_simp; done) | (go_simp; with_reducible rfl)))
            try simp only [nb1, nb2, nb3, Act.put, nb4, nb5, nb6]
            refine rdA (i := 5) rfl (fun K hK => ?_)
            go_simp
            go_wp2_with (go_at_call 53; (with_reducible refine (unit_any _).mono ?_); rintro e w49 ⟨v49, rfl, ⟨z49a, z49b, rfl, hv49, hw49⟩, hb49⟩)
            refine hK.out _ _ (Sx.below hh hb49) (fun hh => ?_)
            clear hK K
            try simp only [nb1, nb2, nb3, Act.put, nb4, nb5, nb6]
            replace HS := Lib.hid (HS.out.below hb49)
            clear hb49
            replace HS := Lib.hid (HS.out.addQ hv49)
            clear hv49
            replace HS := Lib.hid (HS.out.addQ hw49)
            clear hw49
            refine rdA (i := 6) rfl (fun K hK => ?_)
            go_simp
            cases t50 : inB lo hi with
            | true =>
              have a52 := HS.out.q 5 _ _ rfl
              have a53 := HS.out.q 4 _ _ rfl
              have a54 := HS.out.q 1 _ _ rfl
              have a55 := HS.out.q 0 _ _ rfl
              go_wp2_with (go_at_call 52; (with_reducible refine (qinB_any lo hi _ _ _ (rngQ a52 a53) (rngQ a54 a55) (szQ_mono (szQ_of HSZ.out.1) (by omega)) (szQ_mono (szQ_of HSZ.out.2) (by omega))).mono ?_); rw [t50]; rintro e w51 ⟨rfl, hb51⟩)
              refine hK.out _ _ (Sx.below hh hb51) (fun hh => ?_)
              clear hK K
              try simp only [nb1, nb2, nb3, Act.put, nb4, nb5, nb6]
              replace HS := Lib.hid (HS.out.below hb51)
              clear hb51 a52 a53 a54 a55
              refine tkA (i := 7) (v := ?vpr38_7_k57) rfl (Or.inl ⟨by first | rfl | kernel_rfl, ?hypr38_7_k57⟩) (by assumption) ?repr38_7_k57
              case hypr38_7_k57 => (intro u hSu; (first | (go_simp; done) | (go_simp; with_reducible rfl)))
              try simp only [nb1, nb2, nb3, Act.put, nb4, nb5, nb6]
              refine wpAnyH_done (by kernel_rfl) ?_ _
              have Ec0 := (HS.out.bel.cell (p := ⟨b, off + i * 7, none⟩) HBL.out).trans E0.out
              have Ec1 := (HS.out.bel.cell (p := ⟨b, off + i * 7 + 1, none⟩) HBL.out).trans E1.out
              have Ec2 := (HS.out.bel.cell (p := ⟨b, off + i * 7 + 2, none⟩) HBL.out).trans E2.out
              have Ec3 := (HS.out.bel.cell (p := ⟨b, off + i * 7 + 3, none⟩) HBL.out).trans E3.out
              have Ec4 := (HS.out.bel.cell (p := ⟨b, off + i * 7 + 4, none⟩) HBL.out).trans E4.out
              have Ec5 := (HS.out.bel.cell (p := ⟨b, off + i * 7 + 5, none⟩) HBL.out).trans E5.out
              have Ec6 := (HS.out.bel.cell (p := ⟨b, off + i * 7 + 6, none⟩) HBL.out).trans E6.out
              go_wp2_with fail
              clear Ec0 Ec1 Ec2 Ec3 Ec4 Ec5 Ec6
              refine wp_region_held_drew (S := (fun w' => Sx w w' [] [])) (by kernel_rfl) ((HS.out.drew).bare) (fun hh => ?_)
              replace HS := Lib.hid HS.out.drew
              refine tkA (i := 0) (v := ?vpr58_0_k60) rfl (Or.inl ⟨by first | rfl | kernel_rfl, ?hypr58_0_k60⟩) (by assumption) ?repr58_0_k60
              case hypr58_0_k60 => (intro u hSu; (first | (go_simp; done) | (go_simp; with_reducible rfl)))
              try simp only [nb1, nb2, nb3, Act.put, nb4, nb5, nb6]
              refine tkA (i := 1) (v := ?vpr58_1_k62) rfl (Or.inl ⟨by first | rfl | kernel_rfl, ?hypr58_1_k62⟩) (by assumption) ?repr58_1_k62
              case hypr58_1_k62 => (intro u hSu; (first | (go_simp; done) | (go_simp; with_reducible rfl)))
              try simp only [nb1, nb2, nb3, Act.put, nb4, nb5, nb6]
              refine tkA (i := 2) (v := ?vpr58_2_k64) rfl (Or.inl ⟨by first | rfl | kernel_rfl, ?hypr58_2_k64⟩) (by assumption) ?repr58_2_k64
              case hypr58_2_k64 => (intro u hSu; (first | (go_simp; done) | (go_simp; with_reducible rfl)))
              try simp only [nb1, nb2, nb3, Act.put, nb4, nb5, nb6]
              refine tkA (i := 3) (v := ?vpr58_3_k66) rfl (Or.inl ⟨by first | rfl | kernel_rfl, ?hypr58_3_k66⟩) (by assumption) ?repr58_3_k66
              case hypr58_3_k66 => (intro u hSu; (first | (go_simp; done) | (go_simp; with_reducible rfl)))
              try simp only [nb1, nb2, nb3, Act.put, nb4, nb5, nb6]
              refine tkA (i := 4) (v := ?vpr58_4_k68) rfl (Or.inl ⟨by first | rfl | kernel_rfl, ?hypr58_4_k68⟩) (by assumption) ?repr58_4_k68
              case hypr58_4_k68 => (intro u hSu; (first | (go_simp; done) | (go_simp; with_reducible rfl)))
              try simp only [nb1, nb2, nb3, Act.put, nb4, nb5, nb6]
              refine tkA (i := 5) (v := ?vpr58_5_k70) rfl (Or.inl ⟨by first | rfl | kernel_rfl, ?hypr58_5_k70⟩) (by assumption) ?repr58_5_k70
              case hypr58_5_k70 => (intro u hSu; (first | (go_simp; done) | (go_simp; with_reducible rfl)))
              try simp only [nb1, nb2, nb3, Act.put, nb4, nb5, nb6]
              refine tkA (i := 6) (v := ?vpr58_6_k72) rfl (Or.inl ⟨by first | rfl | kernel_rfl, ?hypr58_6_k72⟩) (by assumption) ?repr58_6_k72
              case hypr58_6_k72 => (intro u hSu; (first | (go_simp; done) | (go_simp; with_reducible rfl)))
              try simp only [nb1, nb2, nb3, Act.put, nb4, nb5, nb6]
              refine tkA (i := 7) (v := ?vpr58_7_k74) rfl (Or.inl ⟨by first | rfl | kernel_rfl, ?hypr58_7_k74⟩) (by assumption) ?repr58_7_k74
              case hypr58_7_k74 => (intro u hSu; (first | (go_simp; done) | (go_simp; with_reducible rfl)))
              try simp only [nb1, nb2, nb3, Act.put, nb4, nb5, nb6]
              refine tkA (i := 8) (v := ?vpr58_8_k76) rfl (Or.inl ⟨by first | rfl | kernel_rfl, ?hypr58_8_k76⟩) (by assumption) ?repr58_8_k76
              case hypr58_8_k76 => (intro u hSu; (try dsimp only at hSu); have Ec0 := (hSu.bel.cell (p := ⟨b, off + i * 7, none⟩) HBL.out).trans E0.out; have Ec1 := (hSu.bel.cell (p := ⟨b, off + i * 7 + 1, none⟩) HBL.out).trans E1.out; have Ec2 := (hSu.bel.cell (p := ⟨b, off + i * 7 + 2, none⟩) HBL.out).trans E2.out; have Ec3 := (hSu.bel.cell (p := ⟨b, off + i * 7 + 3, none⟩) HBL.out).trans E3.out; have Ec4 := (hSu.bel.cell (p := ⟨b, off + i * 7 + 4, none⟩) HBL.out).trans E4.out; have Ec5 := (hSu.bel.cell (p := ⟨b, off + i * 7 + 5, none⟩) HBL.out).trans E5.out; have Ec6 := (hSu.bel.cell (p := ⟨b, off + i * 7 + 6, none⟩) HBL.out).trans E6.out; clear hSu; (first | (go_simp; done) | (go_simp; with_reducible rfl)))
              try simp only [nb1, nb2, nb3, Act.put, nb4, nb5, nb6]
              refine tkA (i := 9) (v := ?vpr58_9_k78) rfl (Or.inl ⟨by first | rfl | kernel_rfl, ?hypr58_9_k78⟩) (by assumption) ?repr58_9_k78
              case hypr58_9_k78 => (intro u hSu; (first | (go_simp; done) | (go_simp; with_reducible rfl)))
              try simp only [nb1, nb2, nb3, Act.put, nb4, nb5, nb6]
              refine tkA (i := 10) (v := ?vpr58_10_k80) rfl (Or.inl ⟨by first | rfl | kernel_rfl, ?hypr58_10_k80⟩) (by assumption) ?repr58_10_k80
              case hypr58_10_k80 => (intro u hSu; (first | (go_simp; done) | (go_simp; with_reducible rfl)))
              try simp only [nb1, nb2, nb3, Act.put, nb4, nb5, nb6]
              refine tkA (i := 11) (v := ?vpr58_11_k82) rfl (Or.inl ⟨by first | rfl | kernel_rfl, ?hypr58_11_k82⟩) (by assumption) ?repr58_11_k82
              case hypr58_11_k82 => (intro u hSu; (first | (go_simp; done) | (go_simp; with_reducible rfl)))
              try simp only [nb1, nb2, nb3, Act.put, nb4, nb5, nb6]
              refine tkA (i := 12) (v := ?vpr58_12_k84) rfl (Or.inl ⟨by first | rfl | kernel_rfl, ?hypr58_12_k84⟩) (by assumption) ?repr58_12_k84
              case hypr58_12_k84 => (intro u hSu; (first | (go_simp; done) | (go_simp; with_reducible rfl)))
              try simp only [nb1, nb2, nb3, Act.put, nb4, nb5, nb6]
              refine tkA (i := 13) (v := ?vpr58_13_k86) rfl (Or.inl ⟨by first | rfl | kernel_rfl, ?hypr58_13_k86⟩) (by assumption) ?repr58_13_k86
              case hypr58_13_k86 => (intro u hSu; (first | (go_simp; done) | (go_simp; with_reducible rfl)))
              try simp only [nb1, nb2, nb3, Act.put, nb4, nb5, nb6]
              refine tkA (i := 14) (v := ?vpr58_14_k88) rfl (Or.inl ⟨by first | rfl | kernel_rfl, ?hypr58_14_k88⟩) (by assumption) ?repr58_14_k88
              case hypr58_14_k88 => (intro u hSu; (first | (go_simp; done) | (go_simp; with_reducible rfl)))
              try simp only [nb1, nb2, nb3, Act.put, nb4, nb5, nb6]
              refine tkA (i := 15) (v := ?vpr58_15_k90) rfl (Or.inl ⟨by first | rfl | kernel_rfl, ?hypr58_15_k90⟩) (by assumption) ?repr58_15_k90
              case hypr58_15_k90 => (intro u hSu; (try dsimp only at hSu); have Dc0 := (hSu.bel.cell (p := ⟨b, off + j * 7, none⟩) HBL.out).trans D0.out; have Dc1 := (hSu.bel.cell (p := ⟨b, off + j * 7 + 1, none⟩) HBL.out).trans D1.out; have Dc2 := (hSu.bel.cell (p := ⟨b, off + j * 7 + 2, none⟩) HBL.out).trans D2.out; have Dc3 := (hSu.bel.cell (p := ⟨b, off + j * 7 + 3, none⟩) HBL.out).trans D3.out; have Dc4 := (hSu.bel.cell (p := ⟨b, off + j * 7 + 4, none⟩) HBL.out).trans D4.out; have Dc5 := (hSu.bel.cell (p := ⟨b, off + j * 7 + 5, none⟩) HBL.out).trans D5.out; have Dc6 := (hSu.bel.cell (p := ⟨b, off + j * 7 + 6, none⟩) HBL.out).trans D6.out; clear hSu; (first | (go_simp; done) | (go_simp; with_reducible rfl)))
              try simp only [nb1, nb2, nb3, Act.put, nb4, nb5, nb6]
              refine rdA (i := 16) rfl (fun K hK => ?_)
              go_simp
              obtain ⟨c91, hc91⟩ : ∃ c, c = cmpR lo lop := ⟨_, rfl⟩
              have HC91 := Lib.hid hc91
              clear hc91
              have a92 := HS.out.q 5 _ _ rfl
              have a93 := HS.out.q 3 _ _ rfl
              go_wp2_with (go_at_call 38; (with_reducible refine (qcmp_any lo lop _ _ _ a92 a93 (szQ_mono (szQ_of HSZ.out.1) (by omega)) (szQ_mono (szQ_of HSY.out.1) (by omega))).mono ?_); rw [← HC91.out]; rintro e w91 ⟨rfl, hb91⟩)
              refine hK.out _ _ (Sx.below hh hb91) (fun hh => ?_)
              clear hK K
              try simp only [nb1, nb2, nb3, Act.put, nb4, nb5, nb6]
              replace HS := Lib.hid (HS.out.below hb91)
              clear hb91 a92 a93
              by_cases t95p : c91 < 0
              ·
                have t95 : decide (c91 < 0) = true := decide_eq_true t95p
                have T95 := Lib.hid t95p
                clear t95p
                refine tkA (i := 17) (v := ?vpr58_17_k96) rfl (Or.inl ⟨by first | rfl | kernel_rfl, ?hypr58_17_k96⟩) (by assumption) ?repr58_17_k96
                case hypr58_17_k96 => (intro u hSu; (first | (go_simp; done) | (go_simp; with_reducible rfl)))
                try simp only [nb1, nb2, nb3, Act.put, nb4, nb5, nb6]
                refine tkA (i := 18) (v := ?vpr58_18_k98) rfl (Or.inl ⟨by first | rfl | kernel_rfl, ?hypr58_18_k98⟩) (by assumption) ?repr58_18_k98
                case hypr58_18_k98 => (intro u hSu; (first | (go_simp; done) | (go_simp; with_reducible rfl)))
                try simp only [nb1, nb2, nb3, Act.put, nb4, nb5, nb6]
                refine tkA (i := 19) (v := undef) rfl (Or.inr ⟨by first | rfl | kernel_rfl, rfl⟩) (by assumption) ?repr58_19_k99
                try simp only [nb1, nb2, nb3, Act.put, nb4, nb5, nb6]
                refine tkA (i := 20) (v := undef) rfl (Or.inr ⟨by first | rfl | kernel_rfl, rfl⟩) (by assumption) ?repr58_20_k100
                try simp only [nb1, nb2, nb3, Act.put, nb4, nb5, nb6]
                refine tkA (i := 21) (v := undef) rfl (Or.inr ⟨by first | rfl | kernel_rfl, rfl⟩) (by assumption) ?repr58_21_k101
                try simp only [nb1, nb2, nb3, Act.put, nb4, nb5, nb6]
                refine tkA (i := 22) (v := undef) rfl (Or.inr ⟨by first | rfl | kernel_rfl, rfl⟩) (by assumption) ?repr58_22_k102
                try simp only [nb1, nb2, nb3, Act.put, nb4, nb5, nb6]
                refine tkA (i := 23) (v := undef) rfl (Or.inr ⟨by first | rfl | kernel_rfl, rfl⟩) (by assumption) ?repr58_23_k103
                try simp only [nb1, nb2, nb3, Act.put, nb4, nb5, nb6]
                refine tkA (i := 24) (v := undef) rfl (Or.inr ⟨by first | rfl | kernel_rfl, rfl⟩) (by assumption) ?repr58_24_k104
                try simp only [nb1, nb2, nb3, Act.put, nb4, nb5, nb6]
                refine tkA (i := 25) (v := undef) rfl (Or.inr ⟨by first | rfl | kernel_rfl, rfl⟩) (by assumption) ?repr58_25_k105
                try simp only [nb1, nb2, nb3, Act.put, nb4, nb5, nb6]
                refine tkA (i := 26) (v := undef) rfl (Or.inr ⟨by first | rfl | kernel_rfl, rfl⟩) (by assumption) ?repr58_26_k106
                try simp only [nb1, nb2, nb3, Act.put, nb4, nb5, nb6]
                refine tkA (i := 27) (v := undef) rfl (Or.inr ⟨by first | rfl | kernel_rfl, rfl⟩) (by assumption) ?repr58_27_k107
                try simp only [nb1, nb2, nb3, Act.put, nb4, nb5, nb6]
                refine tkA (i := 28) (v := undef) rfl (Or.inr ⟨by first | rfl | kernel_rfl, rfl⟩) (by assumption) ?repr58_28_k108
                try simp only [nb1, nb2, nb3, Act.put, nb4, nb5, nb6]
                refine tkA (i := 29) (v := undef) rfl (Or.inr ⟨by first | rfl | kernel_rfl, rfl⟩) (by assumption) ?repr58_29_k109
                try simp only [nb1, nb2, nb3, Act.put, nb4, nb5, nb6]
                refine tkA (i := 30) (v := undef) rfl (Or.inr ⟨by first | rfl | kernel_rfl, rfl⟩) (by assumption) ?repr58_30_k110
                try simp only [nb1, nb2, nb3, Act.put, nb4, nb5, nb6]
                refine tkA (i := 31) (v := undef) rfl (Or.inr ⟨by first | rfl | kernel_rfl, rfl⟩) (by assumption) ?repr58_31_k111
                try simp only [nb1, nb2, nb3, Act.put, nb4, nb5, nb6]
                refine tkA (i := 32) (v := undef) rfl (Or.inr ⟨by first | rfl | kernel_rfl, rfl⟩) (by assumption) ?repr58_32_k112
                try simp only [nb1, nb2, nb3, Act.put, nb4, nb5, nb6]
                refine tkA (i := 33) (v := undef) rfl (Or.inr ⟨by first | rfl | kernel_rfl, rfl⟩) (by assumption) ?repr58_33_k113
                try simp only [nb1, nb2, nb3, Act.put, nb4, nb5, nb6]
                refine tkA (i := 34) (v := ?vpr58_34_k115) rfl (Or.inl ⟨by first | rfl | kernel_rfl, ?hypr58_34_k115⟩) (by assumption) ?repr58_34_k115
                case hypr58_34_k115 => (intro u hSu; (first | (go_simp; done) | (go_simp; with_reducible rfl)))
                try simp only [nb1, nb2, nb3, Act.put, nb4, nb5, nb6]
                refine tkA (i := 35) (v := ?vpr58_35_k117) rfl (Or.inl ⟨by first | rfl | kernel_rfl, ?hypr58_35_k117⟩) (by assumption) ?repr58_35_k117
                case hypr58_35_k117 => (intro u hSu; (first | (go_simp; done) | (go_simp; with_reducible rfl)))
                try simp only [nb1, nb2, nb3, Act.put, nb4, nb5, nb6]
                refine wpAnyH_done (by kernel_rfl) ?_ _
                have Ec0 := (HS.out.bel.cell (p := ⟨b, off + i * 7, none⟩) HBL.out).trans E0.out
                have Ec1 := (HS.out.bel.cell (p := ⟨b, off + i * 7 + 1, none⟩) HBL.out).trans E1.out
                have Ec2 := (HS.out.bel.cell (p := ⟨b, off + i * 7 + 2, none⟩) HBL.out).trans E2.out
                have Ec3 := (HS.out.bel.cell (p := ⟨b, off + i * 7 + 3, none⟩) HBL.out).trans E3.out
                have Ec4 := (HS.out.bel.cell (p := ⟨b, off + i * 7 + 4, none⟩) HBL.out).trans E4.out
                have Ec5 := (HS.out.bel.cell (p := ⟨b, off + i * 7 + 5, none⟩) HBL.out).trans E5.out
                have Ec6 := (HS.out.bel.cell (p := ⟨b, off + i * 7 + 6, none⟩) HBL.out).trans E6.out
                have Dc0 := (HS.out.bel.cell (p := ⟨b, off + j * 7, none⟩) HBL.out).trans D0.out
                have Dc1 := (HS.out.bel.cell (p := ⟨b, off + j * 7 + 1, none⟩) HBL.out).trans D1.out
                have Dc2 := (HS.out.bel.cell (p := ⟨b, off + j * 7 + 2, none⟩) HBL.out).trans D2.out
                have Dc3 := (HS.out.bel.cell (p := ⟨b, off + j * 7 + 3, none⟩) HBL.out).trans D3.out
                have Dc4 := (HS.out.bel.cell (p := ⟨b, off + j * 7 + 4, none⟩) HBL.out).trans D4.out
                have Dc5 := (HS.out.bel.cell (p := ⟨b, off + j * 7 + 5, none⟩) HBL.out).trans D5.out
                have Dc6 := (HS.out.bel.cell (p := ⟨b, off + j * 7 + 6, none⟩) HBL.out).trans D6.out
                go_wp2_with fail
                clear Ec0 Ec1 Ec2 Ec3 Ec4 Ec5 Ec6 Dc0 Dc1 Dc2 Dc3 Dc4 Dc5 Dc6
                have HR : Hid (ctErr es = 1) := cvErrs_at HOK.out (by first | (rw [HF.out, HPI.out]; simp only [← HC91.out, t31, t50, t95, Bool.and_true, Bool.true_and, Bool.and_false, Bool.false_and, Bool.or_true, Bool.true_or, Bool.or_false, Bool.false_or, Bool.not_true, Bool.not_false, cond_true, cond_false]) | (rw [HF.out, HPI.out]; simp [← HC91.out, t31, t50, t95])) (by omega) HLT.out HLN.out
                go_ret
                exact ⟨by rw [HR.out] <;> rfl, HS.out.bel⟩
              ·
                have t95 : decide (c91 < 0) = false := decide_eq_false t95p
                have T95 := Lib.hid t95p
                clear t95p
                refine tkA (i := 17) (v := ?vpr58_17_k118) rfl (Or.inl ⟨by first | rfl | kernel_rfl, ?hypr58_17_k118⟩) (by assumption) ?repr58_17_k118
                case hypr58_17_k118 => (intro u hSu; (first | (go_simp; done) | (go_simp; with_reducible rfl)))
                try simp only [nb1, nb2, nb3, Act.put, nb4, nb5, nb6]
                refine tkA (i := 18) (v := ?vpr58_18_k120) rfl (Or.inl ⟨by first | rfl | kernel_rfl, ?hypr58_18_k120⟩) (by assumption) ?repr58_18_k120
                case hypr58_18_k120 => (intro u hSu; (first | (go_simp; done) | (go_simp; with_reducible rfl)))
                try simp only [nb1, nb2, nb3, Act.put, nb4, nb5, nb6]
                refine tkA (i := 19) (v := ?vpr58_19_k122) rfl (Or.inl ⟨by first | rfl | kernel_rfl, ?hypr58_19_k122⟩) (by assumption) ?repr58_19_k122
                case hypr58_19_k122 => (intro u hSu; (first | (go_simp; done) | (go_simp; with_reducible rfl)))
                try simp only [nb1, nb2, nb3, Act.put, nb4, nb5, nb6]
                refine tkA (i := 20) (v := ?vpr58_20_k124) rfl (Or.inl ⟨by first | rfl | kernel_rfl, ?hypr58_20_k124⟩) (by assumption) ?repr58_20_k124
                case hypr58_20_k124 => (intro u hSu; (first | (go_simp; done) | (go_simp; with_reducible rfl)))
                try simp only [nb1, nb2, nb3, Act.put, nb4, nb5, nb6]
                refine tkA (i := 21) (v := ?vpr58_21_k126) rfl (Or.inl ⟨by first | rfl | kernel_rfl, ?hypr58_21_k126⟩) (by assumption) ?repr58_21_k126
                case hypr58_21_k126 => (intro u hSu; (first | (go_simp; done) | (go_simp; with_reducible rfl)))
                try simp only [nb1, nb2, nb3, Act.put, nb4, nb5, nb6]
                refine tkA (i := 22) (v := ?vpr58_22_k128) rfl (Or.inl ⟨by first | rfl | kernel_rfl, ?hypr58_22_k128⟩) (by assumption) ?repr58_22_k128
                case hypr58_22_k128 => (intro u hSu; (first | (go_simp; done) | (go_simp; with_reducible rfl)))
                try simp only [nb1, nb2, nb3, Act.put, nb4, nb5, nb6]
                refine tkA (i := 23) (v := ?vpr58_23_k130) rfl (Or.inl ⟨by first | rfl | kernel_rfl, ?hypr58_23_k130⟩) (by assumption) ?repr58_23_k130
                case hypr58_23_k130 => (intro u hSu; (first | (go_simp; done) | (go_simp; with_reducible rfl)))
                try simp only [nb1, nb2, nb3, Act.put, nb4, nb5, nb6]
                refine tkA (i := 24) (v := ?vpr58_24_k132) rfl (Or.inl ⟨by first | rfl | kernel_rfl, ?hypr58_24_k132⟩) (by assumption) ?repr58_24_k132
                case hypr58_24_k132 => (intro u hSu; (try dsimp only at hSu); have Ec0 := (hSu.bel.cell (p := ⟨b, off + i * 7, none⟩) HBL.out).trans E0.out; have Ec1 := (hSu.bel.cell (p := ⟨b, off + i * 7 + 1, none⟩) HBL.out).trans E1.out; have Ec2 := (hSu.bel.cell (p := ⟨b, off + i * 7 + 2, none⟩) HBL.out).trans E2.out; have Ec3 := (hSu.bel.cell (p := ⟨b, off + i * 7 + 3, none⟩) HBL.out).trans E3.out; have Ec4 := (hSu.bel.cell (p := ⟨b, off + i * 7 + 4, none⟩) HBL.out).trans E4.out; have Ec5 := (hSu.bel.cell (p := ⟨b, off + i * 7 + 5, none⟩) HBL.out).trans E5.out; have Ec6 := (hSu.bel.cell (p := ⟨b, off + i * 7 + 6, none⟩) HBL.out).trans E6.out; clear hSu; (first | (go_simp; done) | (go_simp; with_reducible rfl)))
                try simp only [nb1, nb2, nb3, Act.put, nb4, nb5, nb6]
                refine tkA (i := 25) (v := ?vpr58_25_k134) rfl (Or.inl ⟨by first | rfl | kernel_rfl, ?hypr58_25_k134⟩) (by assumption) ?repr58_25_k134
                case hypr58_25_k134 => (intro u hSu; (first | (go_simp; done) | (go_simp; with_reducible rfl)))
                try simp only [nb1, nb2, nb3, Act.put, nb4, nb5, nb6]
                refine tkA (i := 26) (v := ?vpr58_26_k136) rfl (Or.inl ⟨by first | rfl | kernel_rfl, ?hypr58_26_k136⟩) (by assumption) ?repr58_26_k136
                case hypr58_26_k136 => (intro u hSu; (first | (go_simp; done) | (go_simp; with_reducible rfl)))
                try simp only [nb1, nb2, nb3, Act.put, nb4, nb5, nb6]
                refine tkA (i := 27) (v := ?vpr58_27_k138) rfl (Or.inl ⟨by first | rfl | kernel_rfl, ?hypr58_27_k138⟩) (by assumption) ?repr58_27_k138
                case hypr58_27_k138 => (intro u hSu; (first | (go_simp; done) | (go_simp; with_reducible rfl)))
                try simp only [nb1, nb2, nb3, Act.put, nb4, nb5, nb6]
                refine tkA (i := 28) (v := ?vpr58_28_k140) rfl (Or.inl ⟨by first | rfl | kernel_rfl, ?hypr58_28_k140⟩) (by assumption) ?repr58_28_k140
                case hypr58_28_k140 => (intro u hSu; (first | (go_simp; done) | (go_simp; with_reducible rfl)))
                try simp only [nb1, nb2, nb3, Act.put, nb4, nb5, nb6]
                refine tkA (i := 29) (v := ?vpr58_29_k142) rfl (Or.inl ⟨by first | rfl | kernel_rfl, ?hypr58_29_k142⟩) (by assumption) ?repr58_29_k142
                case hypr58_29_k142 => (intro u hSu; (first | (go_simp; done) | (go_simp; with_reducible rfl)))
                try simp only [nb1, nb2, nb3, Act.put, nb4, nb5, nb6]
                refine tkA (i := 30) (v := ?vpr58_30_k144) rfl (Or.inl ⟨by first | rfl | kernel_rfl, ?hypr58_30_k144⟩) (by assumption) ?repr58_30_k144
                case hypr58_30_k144 => (intro u hSu; (first | (go_simp; done) | (go_simp; with_reducible rfl)))
                try simp only [nb1, nb2, nb3, Act.put, nb4, nb5, nb6]
                refine tkA (i := 31) (v := ?vpr58_31_k146) rfl (Or.inl ⟨by first | rfl | kernel_rfl, ?hypr58_31_k146⟩) (by assumption) ?repr58_31_k146
                case hypr58_31_k146 => (intro u hSu; (try dsimp only at hSu); have Dc0 := (hSu.bel.cell (p := ⟨b, off + j * 7, none⟩) HBL.out).trans D0.out; have Dc1 := (hSu.bel.cell (p := ⟨b, off + j * 7 + 1, none⟩) HBL.out).trans D1.out; have Dc2 := (hSu.bel.cell (p := ⟨b, off + j * 7 + 2, none⟩) HBL.out).trans D2.out; have Dc3 := (hSu.bel.cell (p := ⟨b, off + j * 7 + 3, none⟩) HBL.out).trans D3.out; have Dc4 := (hSu.bel.cell (p := ⟨b, off + j * 7 + 4, none⟩) HBL.out).trans D4.out; have Dc5 := (hSu.bel.cell (p := ⟨b, off + j * 7 + 5, none⟩) HBL.out).trans D5.out; have Dc6 := (hSu.bel.cell (p := ⟨b, off + j * 7 + 6, none⟩) HBL.out).trans D6.out; clear hSu; (first | (go_simp; done) | (go_simp; with_reducible rfl)))
                try simp only [nb1, nb2, nb3, Act.put, nb4, nb5, nb6]
                refine rdA (i := 32) rfl (fun K hK => ?_)
                go_simp
                obtain ⟨c147, hc147⟩ : ∃ c, c = cmpR hi hip := ⟨_, rfl⟩
                have HC147 := Lib.hid hc147
                clear hc147
                have a148 := HS.out.q 4 _ _ rfl
                have a149 := HS.out.q 2 _ _ rfl
                go_wp2_with (go_at_call 38; (with_reducible refine (qcmp_any hi hip _ _ _ a148 a149 (szQ_mono (szQ_of HSZ.out.2) (by omega)) (szQ_mono (szQ_of HSY.out.2) (by omega))).mono ?_); rw [← HC147.out]; rintro e w147 ⟨rfl, hb147⟩)
                refine hK.out _ _ (Sx.below hh hb147) (fun hh => ?_)
                clear hK K
                try simp only [nb1, nb2, nb3, Act.put, nb4, nb5, nb6]
                replace HS := Lib.hid (HS.out.below hb147)
                clear hb147 a148 a149
                by_cases t151p : c147 < 0
                ·
                  have t151 : decide (c147 < 0) = true := decide_eq_true t151p
                  have T151 := Lib.hid t151p
                  clear t151p
                  refine tkA (i := 33) (v := ?vpr58_33_k152) rfl (Or.inl ⟨by first | rfl | kernel_rfl, ?hypr58_33_k152⟩) (by assumption) ?repr58_33_k152
                  case hypr58_33_k152 => (intro u hSu; (first | (go_simp; done) | (go_simp; with_reducible rfl)))
                  try simp only [nb1, nb2, nb3, Act.put, nb4, nb5, nb6]
                  refine tkA (i := 34) (v := ?vpr58_34_k154) rfl (Or.inl ⟨by first | rfl | kernel_rfl, ?hypr58_34_k154⟩) (by assumption) ?repr58_34_k154
                  case hypr58_34_k154 => (intro u hSu; (first | (go_simp; done) | (go_simp; with_reducible rfl)))
                  try simp only [nb1, nb2, nb3, Act.put, nb4, nb5, nb6]
                  refine tkA (i := 35) (v := ?vpr58_35_k156) rfl (Or.inl ⟨by first | rfl | kernel_rfl, ?hypr58_35_k156⟩) (by assumption) ?repr58_35_k156
                  case hypr58_35_k156 => (intro u hSu; (first | (go_simp; done) | (go_simp; with_reducible rfl)))
                  try simp only [nb1, nb2, nb3, Act.put, nb4, nb5, nb6]
                  refine wpAnyH_done (by kernel_rfl) ?_ _
                  have Ec0 := (HS.out.bel.cell (p := ⟨b, off + i * 7, none⟩) HBL.out).trans E0.out
                  have Ec1 := (HS.out.bel.cell (p := ⟨b, off + i * 7 + 1, none⟩) HBL.out).trans E1.out
                  have Ec2 := (HS.out.bel.cell (p := ⟨b, off + i * 7 + 2, none⟩) HBL.out).trans E2.out
                  have Ec3 := (HS.out.bel.cell (p := ⟨b, off + i * 7 + 3, none⟩) HBL.out).trans E3.out
                  have Ec4 := (HS.out.bel.cell (p := ⟨b, off + i * 7 + 4, none⟩) HBL.out).trans E4.out
                  have Ec5 := (HS.out.bel.cell (p := ⟨b, off + i * 7 + 5, none⟩) HBL.out).trans E5.out
                  have Ec6 := (HS.out.bel.cell (p := ⟨b, off + i * 7 + 6, none⟩) HBL.out).trans E6.out
                  have Dc0 := (HS.out.bel.cell (p := ⟨b, off + j * 7, none⟩) HBL.out).trans D0.out
                  have Dc1 := (HS.out.bel.cell (p := ⟨b, off + j * 7 + 1, none⟩) HBL.out).trans D1.out
                  have Dc2 := (HS.out.bel.cell (p := ⟨b, off + j * 7 + 2, none⟩) HBL.out).trans D2.out
                  have Dc3 := (HS.out.bel.cell (p := ⟨b, off + j * 7 + 3, none⟩) HBL.out).trans D3.out
                  have Dc4 := (HS.out.bel.cell (p := ⟨b, off + j * 7 + 4, none⟩) HBL.out).trans D4.out
                  have Dc5 := (HS.out.bel.cell (p := ⟨b, off + j * 7 + 5, none⟩) HBL.out).trans D5.out
                  have Dc6 := (HS.out.bel.cell (p := ⟨b, off + j * 7 + 6, none⟩) HBL.out).trans D6.out
                  go_wp2_with fail
                  clear Ec0 Ec1 Ec2 Ec3 Ec4 Ec5 Ec6 Dc0 Dc1 Dc2 Dc3 Dc4 Dc5 Dc6
                  have HR : Hid (ctErr es = 1) := cvErrs_at HOK.out (by first | (rw [HF.out, HPI.out]; simp only [← HC91.out, ← HC147.out, t31, t50, t95, t151, Bool.and_true, Bool.true_and, Bool.and_false, Bool.false_and, Bool.or_true, Bool.true_or, Bool.or_false, Bool.false_or, Bool.not_true, Bool.not_false, cond_true, cond_false]) | (rw [HF.out, HPI.out]; simp [← HC91.out, ← HC147.out, t31, t50, t95, t151])) (by omega) HLT.out HLN.out
                  go_ret
                  exact ⟨by rw [HR.out] <;> rfl, HS.out.bel⟩
                ·
                  have t151 : decide (c147 < 0) = false := decide_eq_false t151p
                  have T151 := Lib.hid t151p
                  clear t151p
                  refine tkA (i := 33) (v := ?vpr58_33_k157) rfl (Or.inl ⟨by first | rfl | kernel_rfl, ?hypr58_33_k157⟩) (by assumption) ?repr58_33_k157
                  case hypr58_33_k157 => (intro u hSu; (first | (go_simp; done) | (go_simp; with_reducible rfl)))
                  try simp only [nb1, nb2, nb3, Act.put, nb4, nb5, nb6]
                  refine tkA (i := 34) (v := ?vpr58_34_k159) rfl (Or.inl ⟨by first | rfl | kernel_rfl, ?hypr58_34_k159⟩) (by assumption) ?repr58_34_k159
                  case hypr58_34_k159 => (intro u hSu; (first | (go_simp; done) | (go_simp; with_reducible rfl)))
                  try simp only [nb1, nb2, nb3, Act.put, nb4, nb5, nb6]
                  refine tkA (i := 35) (v := ?vpr58_35_k161) rfl (Or.inl ⟨by first | rfl | kernel_rfl, ?hypr58_35_k161⟩) (by assumption) ?repr58_35_k161
                  case hypr58_35_k161 => (intro u hSu; (first | (go_simp; done) | (go_simp; with_reducible rfl)))
                  try simp only [nb1, nb2, nb3, Act.put, nb4, nb5, nb6]
                  refine wpAnyH_done (by kernel_rfl) ?_ _
                  have Ec0 := (HS.out.bel.cell (p := ⟨b, off + i * 7, none⟩) HBL.out).trans E0.out
                  have Ec1 := (HS.out.bel.cell (p := ⟨b, off + i * 7 + 1, none⟩) HBL.out).trans E1.out
                  have Ec2 := (HS.out.bel.cell (p := ⟨b, off + i * 7 + 2, none⟩) HBL.out).trans E2.out
                  have Ec3 := (HS.out.bel.cell (p := ⟨b, off + i * 7 + 3, none⟩) HBL.out).trans E3.out
                  have Ec4 := (HS.out.bel.cell (p := ⟨b, off + i * 7 + 4, none⟩) HBL.out).trans E4.out
                  have Ec5 := (HS.out.bel.cell (p := ⟨b, off + i * 7 + 5, none⟩) HBL.out).trans E5.out
                  have Ec6 := (HS.out.bel.cell (p := ⟨b, off + i * 7 + 6, none⟩) HBL.out).trans E6.out
                  have Dc0 := (HS.out.bel.cell (p := ⟨b, off + j * 7, none⟩) HBL.out).trans D0.out
                  have Dc1 := (HS.out.bel.cell (p := ⟨b, off + j * 7 + 1, none⟩) HBL.out).trans D1.out
                  have Dc2 := (HS.out.bel.cell (p := ⟨b, off + j * 7 + 2, none⟩) HBL.out).trans D2.out
                  have Dc3 := (HS.out.bel.cell (p := ⟨b, off + j * 7 + 3, none⟩) HBL.out).trans D3.out
                  have Dc4 := (HS.out.bel.cell (p := ⟨b, off + j * 7 + 4, none⟩) HBL.out).trans D4.out
                  have Dc5 := (HS.out.bel.cell (p := ⟨b, off + j * 7 + 5, none⟩) HBL.out).trans D5.out
                  have Dc6 := (HS.out.bel.cell (p := ⟨b, off + j * 7 + 6, none⟩) HBL.out).trans D6.out
                  go_wp2_with fail
                  clear Ec0 Ec1 Ec2 Ec3 Ec4 Ec5 Ec6 Dc0 Dc1 Dc2 Dc3 Dc4 Dc5 Dc6
                  exact ⟨⟨i + 1, by have := HLT.out; omega, by go_num, Lib.hid (cvErrs_next HOK.out (by first | (rw [HF.out, HPI.out]; simp only [← HC91.out, ← HC147.out, t31, t50, t95, t151, Bool.and_true, Bool.true_and, Bool.and_false, Bool.false_and, Bool.or_true, Bool.true_or, Bool.or_false, Bool.false_or, Bool.not_true, Bool.not_false, cond_true, cond_false]) | (rw [HF.out, HPI.out]; simp [← HC91.out, ← HC147.out, t31, t50, t95, t151]))), Lib.hid (HS.out.bare)⟩, meas_up HLT.out⟩
            | false =>
              have a163 := HS.out.q 5 _ _ rfl
              have a164 := HS.out.q 4 _ _ rfl
              have a165 := HS.out.q 1 _ _ rfl
              have a166 := HS.out.q 0 _ _ rfl
              go_wp2_with (go_at_call 52; (with_reducible refine (qinB_any lo hi _ _ _ (rngQ a163 a164) (rngQ a165 a166) (szQ_mono (szQ_of HSZ.out.1) (by omega)) (szQ_mono (szQ_of HSZ.out.2) (by omega))).mono ?_); rw [t50]; rintro e w162 ⟨rfl, hb162⟩)
              refine hK.out _ _ (Sx.below hh hb162) (fun hh => ?_)
              clear hK K
              try simp only [nb1, nb2, nb3, Act.put, nb4, nb5, nb6]
              replace HS := Lib.hid (HS.out.below hb162)
              clear hb162 a163 a164 a165 a166
              refine tkA (i := 7) (v := ?vpr38_7_k168) rfl (Or.inl ⟨by first | rfl | kernel_rfl, ?hypr38_7_k168⟩) (by assumption) ?repr38_7_k168
              case hypr38_7_k168 => (intro u hSu; (first | (go_simp; done) | (go_simp; with_reducible rfl)))
              try simp only [nb1, nb2, nb3, Act.put, nb4, nb5, nb6]
              refine wpAnyH_done (by kernel_rfl) ?_ _
              have Ec0 := (HS.out.bel.cell (p := ⟨b, off + i * 7, none⟩) HBL.out).trans E0.out
              have Ec1 := (HS.out.bel.cell (p := ⟨b, off + i * 7 + 1, none⟩) HBL.out).trans E1.out
              have Ec2 := (HS.out.bel.cell (p := ⟨b, off + i * 7 + 2, none⟩) HBL.out).trans E2.out
              have Ec3 := (HS.out.bel.cell (p := ⟨b, off + i * 7 + 3, none⟩) HBL.out).trans E3.out
              have Ec4 := (HS.out.bel.cell (p := ⟨b, off + i * 7 + 4, none⟩) HBL.out).trans E4.out
              have Ec5 := (HS.out.bel.cell (p := ⟨b, off + i * 7 + 5, none⟩) HBL.out).trans E5.out
              have Ec6 := (HS.out.bel.cell (p := ⟨b, off + i * 7 + 6, none⟩) HBL.out).trans E6.out
              go_wp2_with fail
              clear Ec0 Ec1 Ec2 Ec3 Ec4 Ec5 Ec6
              have HR : Hid (ctErr es = 1) := cvErrs_at HOK.out (by first | (rw [HF.out, HPI.out]; simp only [t31, t50, Bool.and_true, Bool.true_and, Bool.and_false, Bool.false_and, Bool.or_true, Bool.true_or, Bool.or_false, Bool.false_or, Bool.not_true, Bool.not_false, cond_true, cond_false]) | (rw [HF.out, HPI.out]; simp [t31, t50])) (by omega) HLT.out HLN.out
              go_ret
              exact ⟨by rw [HR.out] <;> rfl, HS.out.bel⟩
        ·
          have HF := Lib.hid (cvErr_0 (es := es) hp)
          have tp1 : decide ((i : Int) > 0) = false := decide_eq_false (by omega)
          have tp2 : decide (0 < i) = false := decide_eq_false hp
          have hpI : ¬ (0 : Int) < i := by omega
          clear hEE hlt hp
          generalize (es.getD i (0, 0, 0)).1 = f at *
          generalize (es.getD i (0, 0, 0)).2.1 = lo at *
          generalize (es.getD i (0, 0, 0)).2.2 = hi at *
          go_wp2_with fail
          refine wp_region_held_drew (S := (fun w' => Sx w w' [] [])) (by kernel_rfl) ((HS.out.drew).bare) (fun hh => ?_)
          replace HS := Lib.hid HS.out.drew
          refine tkA (i := 0) (v := ?vpr169_0_k171) rfl (Or.inl ⟨by first | rfl | kernel_rfl, ?hypr169_0_k171⟩) (by assumption) ?repr169_0_k171
          case hypr169_0_k171 => (intro u hSu; (first | (go_simp; done) | (go_simp; with_reducible rfl)))
          try simp only [nb1, nb2, nb3, Act.put, nb4, nb5, nb6]
          refine tkA (i := 1) (v := ?vpr169_1_k173) rfl (Or.inl ⟨by first | rfl | kernel_rfl, ?hypr169_1_k173⟩) (by assumption) ?repr169_1_k173
          case hypr169_1_k173 => (intro u hSu; (first | (go_simp; done) | (go_simp; with_reducible rfl)))
          try simp only [nb1, nb2, nb3, Act.put, nb4, nb5, nb6]
          refine tkA (i := 2) (v := ?vpr169_2_k175) rfl (Or.inl ⟨by first | rfl | kernel_rfl, ?hypr169_2_k175⟩) (by assumption) ?repr169_2_k175
          case hypr169_2_k175 => (intro u hSu; (first | (go_simp; done) | (go_simp; with_reducible rfl)))
          try simp only [nb1, nb2, nb3, Act.put, nb4, nb5, nb6]
          refine tkA (i := 3) (v := undef) rfl (Or.inr ⟨by first | rfl | kernel_rfl, rfl⟩) (by assumption) ?repr169_3_k176
          try simp only [nb1, nb2, nb3, Act.put, nb4, nb5, nb6]
          refine tkA (i := 4) (v := undef) rfl (Or.inr ⟨by first | rfl | kernel_rfl, rfl⟩) (by assumption) ?repr169_4_k177
          try simp only [nb1, nb2, nb3, Act.put, nb4, nb5, nb6]
          refine tkA (i := 5) (v := undef) rfl (Or.inr ⟨by first | rfl | kernel_rfl, rfl⟩) (by assumption) ?repr169_5_k178
          try simp only [nb1, nb2, nb3, Act.put, nb4, nb5, nb6]
          refine tkA (i := 6) (v := undef) rfl (Or.inr ⟨by first | rfl | kernel_rfl, rfl⟩) (by assumption) ?repr169_6_k179
          try simp only [nb1, nb2, nb3, Act.put, nb4, nb5, nb6]
          refine tkA (i := 7) (v := undef) rfl (Or.inr ⟨by first | rfl | kernel_rfl, rfl⟩) (by assumption) ?repr169_7_k180
          try simp only [nb1, nb2, nb3, Act.put, nb4, nb5, nb6]
          refine tkA (i := 8) (v := undef) rfl (Or.inr ⟨by first | rfl | kernel_rfl, rfl⟩) (by assumption) ?repr169_8_k181
          try simp only [nb1, nb2, nb3, Act.put, nb4, nb5, nb6]
          refine tkA (i := 9) (v := undef) rfl (Or.inr ⟨by first | rfl | kernel_rfl, rfl⟩) (by assumption) ?repr169_9_k182
          try simp only [nb1, nb2, nb3, Act.put, nb4, nb5, nb6]
          refine tkA (i := 10) (v := undef) rfl (Or.inr ⟨by first | rfl | kernel_rfl, rfl⟩) (by assumption) ?repr169_10_k183
          try simp only [nb1, nb2, nb3, Act.put, nb4, nb5, nb6]
          refine tkA (i := 11) (v := undef) rfl (Or.inr ⟨by first | rfl | kernel_rfl, rfl⟩) (by assumption) ?repr169_11_k184
          try simp only [nb1, nb2, nb3, Act.put, nb4, nb5, nb6]
          refine tkA (i := 12) (v := undef) rfl (Or.inr ⟨by first | rfl | kernel_rfl, rfl⟩) (by assumption) ?repr169_12_k185
          try simp only [nb1, nb2, nb3, Act.put, nb4, nb5, nb6]
          refine tkA (i := 13) (v := undef) rfl (Or.inr ⟨by first | rfl | kernel_rfl, rfl⟩) (by assumption) ?repr169_13_k186
          try simp only [nb1, nb2, nb3, Act.put, nb4, nb5, nb6]
          refine tkA (i := 14) (v := undef) rfl (Or.inr ⟨by first | rfl | kernel_rfl, rfl⟩) (by assumption) ?repr169_14_k187
          try simp only [nb1, nb2, nb3, Act.put, nb4, nb5, nb6]
          refine tkA (i := 15) (v := ?vpr169_15_k189) rfl (Or.inl ⟨by first | rfl | kernel_rfl, ?hypr169_15_k189⟩) (by assumption) ?repr169_15_k189
          case hypr169_15_k189 => (intro u hSu; (first | (go_simp; done) | (go_simp; with_reducible rfl)))
          try simp only [nb1, nb2, nb3, Act.put, nb4, nb5, nb6]
          refine wpAnyH_done (by kernel_rfl) ?_ _
          go_wp2_with fail
          refine wp_region_held_drew (S := (fun w' => Sx w w' [] [])) (by kernel_rfl) ((HS.out.drew).bare) (fun hh => ?_)
          replace HS := Lib.hid HS.out.drew
          refine tkA (i := 0) (v := ?vpr190_0_k192) rfl (Or.inl ⟨by first | rfl | kernel_rfl, ?hypr190_0_k192⟩) (by assumption) ?repr190_0_k192
          case hypr190_0_k192 => (intro u hSu; (first | (go_simp; done) | (go_simp; with_reducible rfl)))
          try simp only [nb1, nb2, nb3, Act.put, nb4, nb5, nb6]
          refine tkA (i := 1) (v := ?vpr190_1_k194) rfl (Or.inl ⟨by first | rfl | kernel_rfl, ?hypr190_1_k194⟩) (by assumption) ?repr190_1_k194
          case hypr190_1_k194 => (intro u hSu; (first | (go_simp; done) | (go_simp; with_reducible rfl)))
          try simp only [nb1, nb2, nb3, Act.put, nb4, nb5, nb6]
          refine tkA (i := 2) (v := ?vpr190_2_k196) rfl (Or.inl ⟨by first | rfl | kernel_rfl, ?hypr190_2_k196⟩) (by assumption) ?repr190_2_k196
          case hypr190_2_k196 => (intro u hSu; (first | (go_simp; done) | (go_simp; with_reducible rfl)))
          try simp only [nb1, nb2, nb3, Act.put, nb4, nb5, nb6]
          refine tkA (i := 3) (v := ?vpr190_3_k198) rfl (Or.inl ⟨by first | rfl | kernel_rfl, ?hypr190_3_k198⟩) (by assumption) ?repr190_3_k198
          case hypr190_3_k198 => (intro u hSu; (first | (go_simp; done) | (go_simp; with_reducible rfl)))
          try simp only [nb1, nb2, nb3, Act.put, nb4, nb5, nb6]
          refine tkA (i := 4) (v := ?vpr190_4_k200) rfl (Or.inl ⟨by first | rfl | kernel_rfl, ?hypr190_4_k200⟩) (by assumption) ?repr190_4_k200
          case hypr190_4_k200 => (intro u hSu; (try dsimp only at hSu); have Ec0 := (hSu.bel.cell (p := ⟨b, off + i * 7, none⟩) HBL.out).trans E0.out; have Ec1 := (hSu.bel.cell (p := ⟨b, off + i * 7 + 1, none⟩) HBL.out).trans E1.out; have Ec2 := (hSu.bel.cell (p := ⟨b, off + i * 7 + 2, none⟩) HBL.out).trans E2.out; have Ec3 := (hSu.bel.cell (p := ⟨b, off + i * 7 + 3, none⟩) HBL.out).trans E3.out; have Ec4 := (hSu.bel.cell (p := ⟨b, off + i * 7 + 4, none⟩) HBL.out).trans E4.out; have Ec5 := (hSu.bel.cell (p := ⟨b, off + i * 7 + 5, none⟩) HBL.out).trans E5.out; have Ec6 := (hSu.bel.cell (p := ⟨b, off + i * 7 + 6, none⟩) HBL.out).trans E6.out; clear hSu; (first | (go_simp; done) | (go_simp; with_reducible rfl)))
          try simp only [nb1, nb2, nb3, Act.put, nb4, nb5, nb6]
          refine rdA (i := 5) rfl (fun K hK => ?_)
          go_simp
          go_wp2_with (go_at_call 53; (with_reducible refine (unit_any _).mono ?_); rintro e w201 ⟨v201, rfl, ⟨z201a, z201b, rfl, hv201, hw201⟩, hb201⟩)
          refine hK.out _ _ (Sx.below hh hb201) (fun hh => ?_)
          clear hK K
          try simp only [nb1, nb2, nb3, Act.put, nb4, nb5, nb6]
          replace HS := Lib.hid (HS.out.below hb201)
          clear hb201
          replace HS := Lib.hid (HS.out.addQ hv201)
          clear hv201
          replace HS := Lib.hid (HS.out.addQ hw201)
          clear hw201
          refine rdA (i := 6) rfl (fun K hK => ?_)
          go_simp
          cases t202 : inB lo hi with
          | true =>
            have a204 := HS.out.q 3 _ _ rfl
            have a205 := HS.out.q 2 _ _ rfl
            have a206 := HS.out.q 1 _ _ rfl
            have a207 := HS.out.q 0 _ _ rfl
            go_wp2_with (go_at_call 52; (with_reducible refine (qinB_any lo hi _ _ _ (rngQ a204 a205) (rngQ a206 a207) (szQ_mono (szQ_of HSZ.out.1) (by omega)) (szQ_mono (szQ_of HSZ.out.2) (by omega))).mono ?_); rw [t202]; rintro e w203 ⟨rfl, hb203⟩)
            refine hK.out _ _ (Sx.below hh hb203) (fun hh => ?_)
            clear hK K
            try simp only [nb1, nb2, nb3, Act.put, nb4, nb5, nb6]
            replace HS := Lib.hid (HS.out.below hb203)
            clear hb203 a204 a205 a206 a207
            refine tkA (i := 7) (v := ?vpr190_7_k209) rfl (Or.inl ⟨by first | rfl | kernel_rfl, ?hypr190_7_k209⟩) (by assumption) ?repr190_7_k209
            case hypr190_7_k209 => (intro u hSu; (first | (go_simp; done) | (go_simp; with_reducible rfl)))
            try simp only [nb1, nb2, nb3, Act.put, nb4, nb5, nb6]
            refine wpAnyH_done (by kernel_rfl) ?_ _
            have Ec0 := (HS.out.bel.cell (p := ⟨b, off + i * 7, none⟩) HBL.out).trans E0.out
            have Ec1 := (HS.out.bel.cell (p := ⟨b, off + i * 7 + 1, none⟩) HBL.out).trans E1.out
            have Ec2 := (HS.out.bel.cell (p := ⟨b, off + i * 7 + 2, none⟩) HBL.out).trans E2.out
            have Ec3 := (HS.out.bel.cell (p := ⟨b, off + i * 7 + 3, none⟩) HBL.out).trans E3.out
            have Ec4 := (HS.out.bel.cell (p := ⟨b, off + i * 7 + 4, none⟩) HBL.out).trans E4.out
            have Ec5 := (HS.out.bel.cell (p := ⟨b, off + i * 7 + 5, none⟩) HBL.out).trans E5.out
            have Ec6 := (HS.out.bel.cell (p := ⟨b, off + i * 7 + 6, none⟩) HBL.out).trans E6.out
            go_wp2_with fail
            clear Ec0 Ec1 Ec2 Ec3 Ec4 Ec5 Ec6
            refine wp_region_held_drew (S := (fun w' => Sx w w' [] [])) (by kernel_rfl) ((HS.out.drew).bare) (fun hh => ?_)
            replace HS := Lib.hid HS.out.drew
            refine tkA (i := 0) (v := ?vpr210_0_k212) rfl (Or.inl ⟨by first | rfl | kernel_rfl, ?hypr210_0_k212⟩) (by assumption) ?repr210_0_k212
            case hypr210_0_k212 => (intro u hSu; (first | (go_simp; done) | (go_simp; with_reducible rfl)))
            try simp only [nb1, nb2, nb3, Act.put, nb4, nb5, nb6]
            refine tkA (i := 1) (v := ?vpr210_1_k214) rfl (Or.inl ⟨by first | rfl | kernel_rfl, ?hypr210_1_k214⟩) (by assumption) ?repr210_1_k214
            case hypr210_1_k214 => (intro u hSu; (first | (go_simp; done) | (go_simp; with_reducible rfl)))
            try simp only [nb1, nb2, nb3, Act.put, nb4, nb5, nb6]
            refine tkA (i := 2) (v := ?vpr210_2_k216) rfl (Or.inl ⟨by first | rfl | kernel_rfl, ?hypr210_2_k216⟩) (by assumption) ?repr210_2_k216
            case hypr210_2_k216 => (intro u hSu; (first | (go_simp; done) | (go_simp; with_reducible rfl)))
            try simp only [nb1, nb2, nb3, Act.put, nb4, nb5, nb6]
            refine tkA (i := 3) (v := undef) rfl (Or.inr ⟨by first | rfl | kernel_rfl, rfl⟩) (by assumption) ?repr210_3_k217
            try simp only [nb1, nb2, nb3, Act.put, nb4, nb5, nb6]
            refine tkA (i := 4) (v := undef) rfl (Or.inr ⟨by first | rfl | kernel_rfl, rfl⟩) (by assumption) ?repr210_4_k218
            try simp only [nb1, nb2, nb3, Act.put, nb4, nb5, nb6]
            refine tkA (i := 5) (v := undef) rfl (Or.inr ⟨by first | rfl | kernel_rfl, rfl⟩) (by assumption) ?repr210_5_k219
            try simp only [nb1, nb2, nb3, Act.put, nb4, nb5, nb6]
            refine tkA (i := 6) (v := undef) rfl (Or.inr ⟨by first | rfl | kernel_rfl, rfl⟩) (by assumption) ?repr210_6_k220
            try simp only [nb1, nb2, nb3, Act.put, nb4, nb5, nb6]
            refine tkA (i := 7) (v := undef) rfl (Or.inr ⟨by first | rfl | kernel_rfl, rfl⟩) (by assumption) ?repr210_7_k221
            try simp only [nb1, nb2, nb3, Act.put, nb4, nb5, nb6]
            refine tkA (i := 8) (v := undef) rfl (Or.inr ⟨by first | rfl | kernel_rfl, rfl⟩) (by assumption) ?repr210_8_k222
            try simp only [nb1, nb2, nb3, Act.put, nb4, nb5, nb6]
            refine tkA (i := 9) (v := undef) rfl (Or.inr ⟨by first | rfl | kernel_rfl, rfl⟩) (by assumption) ?repr210_9_k223
            try simp only [nb1, nb2, nb3, Act.put, nb4, nb5, nb6]
            refine tkA (i := 10) (v := undef) rfl (Or.inr ⟨by first | rfl | kernel_rfl, rfl⟩) (by assumption) ?repr210_10_k224
            try simp only [nb1, nb2, nb3, Act.put, nb4, nb5, nb6]
            refine tkA (i := 11) (v := undef) rfl (Or.inr ⟨by first | rfl | kernel_rfl, rfl⟩) (by assumption) ?repr210_11_k225
            try simp only [nb1, nb2, nb3, Act.put, nb4, nb5, nb6]
            refine tkA (i := 12) (v := undef) rfl (Or.inr ⟨by first | rfl | kernel_rfl, rfl⟩) (by assumption) ?repr210_12_k226
            try simp only [nb1, nb2, nb3, Act.put, nb4, nb5, nb6]
            refine tkA (i := 13) (v := undef) rfl (Or.inr ⟨by first | rfl | kernel_rfl, rfl⟩) (by assumption) ?repr210_13_k227
            try simp only [nb1, nb2, nb3, Act.put, nb4, nb5, nb6]
            refine tkA (i := 14) (v := undef) rfl (Or.inr ⟨by first | rfl | kernel_rfl, rfl⟩) (by assumption) ?repr210_14_k228
            try simp only [nb1, nb2, nb3, Act.put, nb4, nb5, nb6]
            refine tkA (i := 15) (v := undef) rfl (Or.inr ⟨by first | rfl | kernel_rfl, rfl⟩) (by assumption) ?repr210_15_k229
            try simp only [nb1, nb2, nb3, Act.put, nb4, nb5, nb6]
            refine tkA (i := 16) (v := undef) rfl (Or.inr ⟨by first | rfl | kernel_rfl, rfl⟩) (by assumption) ?repr210_16_k230
            try simp only [nb1, nb2, nb3, Act.put, nb4, nb5, nb6]
            refine tkA (i := 17) (v := undef) rfl (Or.inr ⟨by first | rfl | kernel_rfl, rfl⟩) (by assumption) ?repr210_17_k231
            try simp only [nb1, nb2, nb3, Act.put, nb4, nb5, nb6]
            refine tkA (i := 18) (v := undef) rfl (Or.inr ⟨by first | rfl | kernel_rfl, rfl⟩) (by assumption) ?repr210_18_k232
            try simp only [nb1, nb2, nb3, Act.put, nb4, nb5, nb6]
            refine tkA (i := 19) (v := undef) rfl (Or.inr ⟨by first | rfl | kernel_rfl, rfl⟩) (by assumption) ?repr210_19_k233
            try simp only [nb1, nb2, nb3, Act.put, nb4, nb5, nb6]
            refine tkA (i := 20) (v := undef) rfl (Or.inr ⟨by first | rfl | kernel_rfl, rfl⟩) (by assumption) ?repr210_20_k234
            try simp only [nb1, nb2, nb3, Act.put, nb4, nb5, nb6]
            refine tkA (i := 21) (v := undef) rfl (Or.inr ⟨by first | rfl | kernel_rfl, rfl⟩) (by assumption) ?repr210_21_k235
            try simp only [nb1, nb2, nb3, Act.put, nb4, nb5, nb6]
            refine tkA (i := 22) (v := undef) rfl (Or.inr ⟨by first | rfl | kernel_rfl, rfl⟩) (by assumption) ?repr210_22_k236
            try simp only [nb1, nb2, nb3, Act.put, nb4, nb5, nb6]
            refine tkA (i := 23) (v := undef) rfl (Or.inr ⟨by first | rfl | kernel_rfl, rfl⟩) (by assumption) ?repr210_23_k237
            try simp only [nb1, nb2, nb3, Act.put, nb4, nb5, nb6]
            refine tkA (i := 24) (v := undef) rfl (Or.inr ⟨by first | rfl | kernel_rfl, rfl⟩) (by assumption) ?repr210_24_k238
            try simp only [nb1, nb2, nb3, Act.put, nb4, nb5, nb6]
            refine tkA (i := 25) (v := undef) rfl (Or.inr ⟨by first | rfl | kernel_rfl, rfl⟩) (by assumption) ?repr210_25_k239
            try simp only [nb1, nb2, nb3, Act.put, nb4, nb5, nb6]
            refine tkA (i := 26) (v := undef) rfl (Or.inr ⟨by first | rfl | kernel_rfl, rfl⟩) (by assumption) ?repr210_26_k240
            try simp only [nb1, nb2, nb3, Act.put, nb4, nb5, nb6]
            refine tkA (i := 27) (v := undef) rfl (Or.inr ⟨by first | rfl | kernel_rfl, rfl⟩) (by assumption) ?repr210_27_k241
            try simp only [nb1, nb2, nb3, Act.put, nb4, nb5, nb6]
            refine tkA (i := 28) (v := undef) rfl (Or.inr ⟨by first | rfl | kernel_rfl, rfl⟩) (by assumption) ?repr210_28_k242
            try simp only [nb1, nb2, nb3, Act.put, nb4, nb5, nb6]
            refine tkA (i := 29) (v := undef) rfl (Or.inr ⟨by first | rfl | kernel_rfl, rfl⟩) (by assumption) ?repr210_29_k243
            try simp only [nb1, nb2, nb3, Act.put, nb4, nb5, nb6]
            refine tkA (i := 30) (v := undef) rfl (Or.inr ⟨by first | rfl | kernel_rfl, rfl⟩) (by assumption) ?repr210_30_k244
            try simp only [nb1, nb2, nb3, Act.put, nb4, nb5, nb6]
            refine tkA (i := 31) (v := undef) rfl (Or.inr ⟨by first | rfl | kernel_rfl, rfl⟩) (by assumption) ?repr210_31_k245
            try simp only [nb1, nb2, nb3, Act.put, nb4, nb5, nb6]
            refine tkA (i := 32) (v := undef) rfl (Or.inr ⟨by first | rfl | kernel_rfl, rfl⟩) (by assumption) ?repr210_32_k246
            try simp only [nb1, nb2, nb3, Act.put, nb4, nb5, nb6]
            refine tkA (i := 33) (v := undef) rfl (Or.inr ⟨by first | rfl | kernel_rfl, rfl⟩) (by assumption) ?repr210_33_k247
            try simp only [nb1, nb2, nb3, Act.put, nb4, nb5, nb6]
            refine tkA (i := 34) (v := undef) rfl (Or.inr ⟨by first | rfl | kernel_rfl, rfl⟩) (by assumption) ?repr210_34_k248
            try simp only [nb1, nb2, nb3, Act.put, nb4, nb5, nb6]
            refine tkA (i := 35) (v := ?vpr210_35_k250) rfl (Or.inl ⟨by first | rfl | kernel_rfl, ?hypr210_35_k250⟩) (by assumption) ?repr210_35_k250
            case hypr210_35_k250 => (intro u hSu; (first | (go_simp; done) | (go_simp; with_reducible rfl)))
            try simp only [nb1, nb2, nb3, Act.put, nb4, nb5, nb6]
            refine wpAnyH_done (by kernel_rfl) ?_ _
            go_wp2_with fail
            exact ⟨⟨i + 1, by have := HLT.out; omega, by go_num, Lib.hid (cvErrs_next HOK.out (by first | (rw [HF.out, HPI.out]; simp only [t202, Bool.and_true, Bool.true_and, Bool.and_false, Bool.false_and, Bool.or_true, Bool.true_or, Bool.or_false, Bool.false_or, Bool.not_true, Bool.not_false, cond_true, cond_false]) | (rw [HF.out, HPI.out]; simp [t202]))), Lib.hid (HS.out.bare)⟩, meas_up HLT.out⟩
          | false =>
            have a252 := HS.out.q 3 _ _ rfl
            have a253 := HS.out.q 2 _ _ rfl
            have a254 := HS.out.q 1 _ _ rfl
            have a255 := HS.out.q 0 _ _ rfl
            go_wp2_with (go_at_call 52; (with_reducible refine (qinB_any lo hi _ _ _ (rngQ a252 a253) (rngQ a254 a255) (szQ_mono (szQ_of HSZ.out.1) (by omega)) (szQ_mono (szQ_of HSZ.out.2) (by omega))).mono ?_); rw [t202]; rintro e w251 ⟨rfl, hb251⟩)
            refine hK.out _ _ (Sx.below hh hb251) (fun hh => ?_)
            clear hK K
            try simp only [nb1, nb2, nb3, Act.put, nb4, nb5, nb6]
            replace HS := Lib.hid (HS.out.below hb251)
            clear hb251 a252 a253 a254 a255
            refine tkA (i := 7) (v := ?vpr190_7_k257) rfl (Or.inl ⟨by first | rfl | kernel_rfl, ?hypr190_7_k257⟩) (by assumption) ?repr190_7_k257
            case hypr190_7_k257 => (intro u hSu; (first | (go_simp; done) | (go_simp; with_reducible rfl)))
            try simp only [nb1, nb2, nb3, Act.put, nb4, nb5, nb6]
            refine wpAnyH_done (by kernel_rfl) ?_ _
            have Ec0 := (HS.out.bel.cell (p := ⟨b, off + i * 7, none⟩) HBL.out).trans E0.out
            have Ec1 := (HS.out.bel.cell (p := ⟨b, off + i * 7 + 1, none⟩) HBL.out).trans E1.out
            have Ec2 := (HS.out.bel.cell (p := ⟨b, off + i * 7 + 2, none⟩) HBL.out).trans E2.out
            have Ec3 := (HS.out.bel.cell (p := ⟨b, off + i * 7 + 3, none⟩) HBL.out).trans E3.out
            have Ec4 := (HS.out.bel.cell (p := ⟨b, off + i * 7 + 4, none⟩) HBL.out).trans E4.out
            have Ec5 := (HS.out.bel.cell (p := ⟨b, off + i * 7 + 5, none⟩) HBL.out).trans E5.out
            have Ec6 := (HS.out.bel.cell (p := ⟨b, off + i * 7 + 6, none⟩) HBL.out).trans E6.out
            go_wp2_with fail
            clear Ec0 Ec1 Ec2 Ec3 Ec4 Ec5 Ec6
            have HR : Hid (ctErr es = 1) := cvErrs_at HOK.out (by first | (rw [HF.out, HPI.out]; simp only [t202, Bool.and_true, Bool.true_and, Bool.and_false, Bool.false_and, Bool.or_true, Bool.true_or, Bool.or_false, Bool.false_or, Bool.not_true, Bool.not_false, cond_true, cond_false]) | (rw [HF.out, HPI.out]; simp [t202])) (by omega) HLT.out HLN.out
            go_ret
            exact ⟨by rw [HR.out] <;> rfl, HS.out.bel⟩
      ·
        obtain rfl : i = es.length := by omega
        have HR : Hid (ctErr es = 0) := by show _ = _; unfold ctErr; rw [if_neg HLN.out]; exact HOK.out
        go_wp2_with fail
        go_ret
        exact ⟨by rw [HR.out] <;> rfl, HS.out.bel⟩
set_option maxRecDepth 100000 in
set_option maxHeartbeats 4000000 in
theorem qrateOver_any (es : List Ent) (lo hi : Rat) (vt vx : Value) (w : World) (ht : TabOf IsR w vt es) (hx : IsRngQ w vx lo hi) (hl : es.length ≤ 1000) (hI : entI es) (hZ : entS es) (hO : entO es) (s1 : szR lo 10000) (s2 : szR hi 10000) :
    Calls Tryz.prog 17 #[vt, vx] w (RetStQ (roOf es lo hi) w) := by
  obtain ⟨x1, x2, rfl, h1, h2⟩ := hx
  have HS := Lib.hid (((Sx.init w).addQ h1).addQ h2)
  have HT := Lib.hid ht
  have HI := Lib.hid hI
  have HZ := Lib.hid hZ
  have HO := Lib.hid hO
  have S1 := Lib.hid s1
  have S2 := Lib.hid s2
  obtain ⟨ao, cap, rfl, _⟩ := ht
  clear h1 h2 hI hZ hO s1 s2
  go_enter Tryz.func17, Tryz.ntmps17
  go_wp2_with fail
  generalize hW1 : ((w).alloc (.cells _ _)).alloc (.cells _ _) = W1 at *
  replace HS : Hid (Sx w W1 [(w.heap.size + 1, #[.bool false, .slice none 0 0, .slice none 0 0, .bool false, .slice none 0 0, .slice none 0 0], 60), (w.heap.size, arr6 x1 x2, 60)] [(false, x2.val, hi), (false, x1.val, lo)]) := by subst hW1; exact ((HS.out).alloc (B := w.heap.size) rfl (by rfl)).alloc (B := w.heap.size + 1) (by simp) (by rfl)
  clear hW1
  by_cases hz2 : ctErr es = 0
  ·
    have HZ2 := Lib.hid hz2
    clear hz2
    refine (qctable_any es _ _ (HT.out.bQ HS.out.bel) hl HI.out HZ.out HO.out).mono ?_
    rw [HZ2.out]
    rintro e w3 ⟨rfl, hb3⟩
    replace HS := Lib.hid (HS.out.below hb3)
    clear hb3
    go_wp2_with fail
    refine wp_region_held_drew (S := (fun w' => Sx w w' [(w.heap.size, arr6 x1 x2, 60)] [])) (by kernel_rfl) ((HS.out.drew).erase 0) (fun hh => ?_)
    replace HS := Lib.hid HS.out.drew
    refine tkA (i := 0) (v := ?vpr4_0_k6) rfl (Or.inl ⟨by first | rfl | kernel_rfl, ?hypr4_0_k6⟩) (by assumption) ?repr4_0_k6
    case hypr4_0_k6 => (intro u hSu; (first | (go_simp; done) | (go_simp; with_reducible rfl)))
    try simp only [nb1, nb2, nb3, Act.put, nb4, nb5, nb6]
    refine tkA (i := 1) (v := ?vpr4_1_k8) rfl (Or.inl ⟨by first | rfl | kernel_rfl, ?hypr4_1_k8⟩) (by assumption) ?repr4_1_k8
    case hypr4_1_k8 => (intro u hSu; (first | (go_simp; done) | (go_simp; with_reducible rfl)))
    try simp only [nb1, nb2, nb3, Act.put, nb4, nb5, nb6]
    refine tkA (i := 2) (v := ?vpr4_2_k10) rfl (Or.inl ⟨by first | rfl | kernel_rfl, ?hypr4_2_k10⟩) (by assumption) ?repr4_2_k10
    case hypr4_2_k10 => (intro u hSu; (try dsimp only at hSu); obtain ⟨qb0c0, qb0c1, qb0c2, qb0c3, qb0c4, qb0c5, _⟩ := fac6 (x := x1) (y := x2) (hSu.at 0 _ _ _ rfl); clear hSu; (first | (go_simp; done) | (go_simp; with_reducible rfl)))
    try simp only [nb1, nb2, nb3, Act.put, nb4, nb5, nb6]
    refine tkA (i := 5) (v := ?vpr4_5_k12) rfl (Or.inl ⟨by first | rfl | kernel_rfl, ?hypr4_5_k12⟩) (by assumption) ?repr4_5_k12
    case hypr4_5_k12 => (intro u hSu; (first | (go_simp; done) | (go_simp; with_reducible rfl)))
    try simp only [nb1, nb2, nb3, Act.put, nb4, nb5, nb6]
    refine tkA (i := 6) (v := ?vpr4_6_k14) rfl (Or.inl ⟨by first | rfl | kernel_rfl, ?hypr4_6_k14⟩) (by assumption) ?repr4_6_k14
    case hypr4_6_k14 => (intro u hSu; (first | (go_simp; done) | (go_simp; with_reducible rfl)))
    try simp only [nb1, nb2, nb3, Act.put, nb4, nb5, nb6]
    refine tkA (i := 7) (v := ?vpr4_7_k16) rfl (Or.inl ⟨by first | rfl | kernel_rfl, ?hypr4_7_k16⟩) (by assumption) ?repr4_7_k16
    case hypr4_7_k16 => (intro u hSu; (try dsimp only at hSu); obtain ⟨qb0c0, qb0c1, qb0c2, qb0c3, qb0c4, qb0c5, _⟩ := fac6 (x := x1) (y := x2) (hSu.at 0 _ _ _ rfl); clear hSu; (first | (go_simp; done) | (go_simp; with_reducible rfl)))
    try simp only [nb1, nb2, nb3, Act.put, nb4, nb5, nb6]
    refine rdA (i := 3) rfl (fun K hK => ?_)
    go_simp
    have a18 := HS.out.q 1 _ _ rfl
    go_wp2_with (go_at_call 47; (with_reducible refine (qrate_any es lo _ _ _ (HT.out.bQ HS.out.bel) a18 hl HI.out HZ.out (szR_mono S1.out (by omega))).mono ?_); rintro e w17 ⟨v17, rfl, ⟨z17a, z17b, rfl, hv17, hw17⟩, hb17⟩)
    refine hK.out _ _ (Sx.below hh hb17) (fun hh => ?_)
    clear hK K
    try simp only [nb1, nb2, nb3, Act.put, nb4, nb5, nb6]
    replace HS := Lib.hid (HS.out.below hb17)
    clear hb17 a18
    replace HS := Lib.hid (HS.out.addQ hv17)
    clear hv17
    replace HS := Lib.hid (HS.out.addQ hw17)
    clear hw17
    try simp only [rngV]
    refine tkA (i := 4) (v := ?vpr4_4_k20) rfl (Or.inl ⟨by first | rfl | kernel_rfl, ?hypr4_4_k20⟩) (by assumption) ?repr4_4_k20
    case hypr4_4_k20 => (intro u hSu; (try dsimp only at hSu); have fq := fld_wingworksref01_S_0 z17a z17b; clear hSu; (first | (go_simp; done) | (go_simp; with_reducible rfl)))
    try simp only [nb1, nb2, nb3, Act.put, nb4, nb5, nb6]
    refine rdA (i := 8) rfl (fun K hK => ?_)
    go_simp
    have a22 := HS.out.q 2 _ _ rfl
    go_wp2_with (go_at_call 47; (with_reducible refine (qrate_any es hi _ _ _ (HT.out.bQ HS.out.bel) a22 hl HI.out HZ.out (szR_mono S2.out (by omega))).mono ?_); rintro e w21 ⟨v21, rfl, ⟨z21a, z21b, rfl, hv21, hw21⟩, hb21⟩)
    refine hK.out _ _ (Sx.below hh hb21) (fun hh => ?_)
    clear hK K
    try simp only [nb1, nb2, nb3, Act.put, nb4, nb5, nb6]
    replace HS := Lib.hid (HS.out.below hb21)
    clear hb21 a22
    replace HS := Lib.hid (HS.out.addQ hv21)
    clear hv21
    replace HS := Lib.hid (HS.out.addQ hw21)
    clear hw21
    try simp only [rngV]
    refine tkA (i := 9) (v := ?vpr4_9_k24) rfl (Or.inl ⟨by first | rfl | kernel_rfl, ?hypr4_9_k24⟩) (by assumption) ?repr4_9_k24
    case hypr4_9_k24 => (intro u hSu; (try dsimp only at hSu); have fq := fld_wingworksref01_S_1 z21a z21b; clear hSu; (first | (go_simp; done) | (go_simp; with_reducible rfl)))
    try simp only [nb1, nb2, nb3, Act.put, nb4, nb5, nb6]
    refine tkA (i := 10) (v := ?vpr4_10_k26) rfl (Or.inl ⟨by first | rfl | kernel_rfl, ?hypr4_10_k26⟩) (by assumption) ?repr4_10_k26
    case hypr4_10_k26 => (intro u hSu; (first | (go_simp; done) | (go_simp; with_reducible rfl)))
    try simp only [nb1, nb2, nb3, Act.put, nb4, nb5, nb6]
    refine rdA (i := 11) rfl (fun K hK => ?_)
    have b1e := (HS.out.at 0 _ _ _ rfl)
    have b1c0 := blk_cell b1e 0 (.bool false) rfl
    have b1c1 := blk_cell b1e 1 (.slice none 0 0) rfl
    have b1c2 := blk_cell b1e 2 (.slice none 0 0) rfl
    have b1c3 := blk_cell b1e 3 (.bool false) rfl
    have b1c4 := blk_cell b1e 4 (.slice none 0 0) rfl
    have b1c5 := blk_cell b1e 5 (.slice none 0 0) rfl
    have b1f0 := blk_frozen b1e 0
    have b1f1 := blk_frozen b1e 1
    have b1f2 := blk_frozen b1e 2
    have b1f3 := blk_frozen b1e 3
    have b1f4 := blk_frozen b1e 4
    have b1f5 := blk_frozen b1e 5
    have b1l := blk_lt b1e
    clear b1e
    go_simp
    refine hK.out _ _ ((((HS.out).st_RR 0 r30 r30 z17a z21b rfl)).erase 0) (fun hh => ?_)
    clear hK K b1c0 b1c1 b1c2 b1c3 b1c4 b1c5 b1f0 b1f1 b1f2 b1f3 b1f4 b1f5 b1l
    try simp only [nb1, nb2, nb3, Act.put, nb4, nb5, nb6]
    generalize hW27 : ((((((w21).setCell _ _).setCell _ _).setCell _ _).setCell _ _).setCell _ _).setCell _ _ = W27 at *
    replace HS : Hid (Sx w W27 [(w.heap.size + 1, arr6 z17a z21b, 60), (w.heap.size, arr6 x1 x2, 60)] [(false, z21b.val, (rtOf es hi).2), (false, z21a.val, (rtOf es hi).1), (false, z17b.val, (rtOf es lo).2), (false, z17a.val, (rtOf es lo).1), (false, x2.val, hi), (false, x1.val, lo)]) := by subst hW27; exact (HS.out).st_RR 0 r30 r30 z17a z21b rfl
    clear hW27
    refine tkA (i := 12) (v := ?vpr4_12_k29) rfl (Or.inl ⟨by first | rfl | kernel_rfl, ?hypr4_12_k29⟩) (by assumption) ?repr4_12_k29
    case hypr4_12_k29 => (intro u hSu; (first | (go_simp; done) | (go_simp; with_reducible rfl)))
    try simp only [nb1, nb2, nb3, Act.put, nb4, nb5, nb6]
    refine wpAnyH_done (by kernel_rfl) ?_ _
    obtain ⟨b1c0, b1c1, b1c2, b1c3, b1c4, b1c5, b1f0, b1f1, b1f2, b1f3, b1f4, b1f5⟩ := fac6 (x := z17a) (y := z21b) (HS.out.at 0 _ _ _ rfl)
    have b1l := blk_lt (HS.out.at 0 _ _ _ rfl)
    go_wp2_with fail
    clear b1c0 b1c1 b1c2 b1c3 b1c4 b1c5 b1f0 b1f1 b1f2 b1f3 b1f4 b1f5 b1l
    have HR : Hid (roOf es lo hi = ((rtOf es lo).1, (rtOf es hi).2, 0)) := by show _ = _; unfold roOf; rw [if_pos HZ2.out]
    obtain ⟨b1c0, b1c1, b1c2, b1c3, b1c4, b1c5, _⟩ := fac6 (x := z17a) (y := z21b) (HS.out.at 0 _ _ _ rfl)
    refine bodyPost_ret (v := .tuple #[.agg #[.bool z17a.b, .slice z17a.a z17a.n z17a.c, .slice z17a.d z17a.m z17a.e, .bool z21b.b, .slice z21b.a z21b.n z21b.c, .slice z21b.d z21b.m z21b.e], .int .i64 0]) (by simp [results, Tryz.results17, go_sem, b1c0, b1c1, b1c2, b1c3, b1c4, b1c5]) rfl (by rw [HR.out]; exact ⟨_, rfl, (rngQ (HS.out.q 3 _ _ rfl) (HS.out.q 0 _ _ rfl)), HS.out.bel⟩)
  ·
    obtain ⟨er2, her2⟩ : ∃ c, c = ctErr es := ⟨_, rfl⟩
    have HER2 := Lib.hid her2
    rw [← her2] at hz2
    have en2 : (er2 == 0) = false := beq_eq_false_iff_ne.2 hz2
    have eo2 : (er2 != 0) = true := bne_iff_ne.2 hz2
    have ep2 : decide (er2 = 0) = false := decide_eq_false hz2
    have HNZ2 := Lib.hid hz2
    clear her2 hz2
    refine (qctable_any es _ _ (HT.out.bQ HS.out.bel) hl HI.out HZ.out HO.out).mono ?_
    rw [← HER2.out]
    rintro e w30 ⟨rfl, hb30⟩
    replace HS := Lib.hid (HS.out.below hb30)
    clear hb30
    go_wp2_with fail
    refine (none_any _).mono ?_
    rintro e w31 ⟨v31, rfl, ⟨z31a, z31b, rfl, hv31, hw31⟩, hb31⟩
    replace HS := Lib.hid (HS.out.below hb31)
    clear hb31
    replace HS := Lib.hid (HS.out.addQ hv31)
    clear hv31
    replace HS := Lib.hid (HS.out.addQ hw31)
    clear hw31
    have b1e := (HS.out.at 0 _ _ _ rfl)
    have b1c0 := blk_cell b1e 0 (.bool false) rfl
    have b1c1 := blk_cell b1e 1 (.slice none 0 0) rfl
    have b1c2 := blk_cell b1e 2 (.slice none 0 0) rfl
    have b1c3 := blk_cell b1e 3 (.bool false) rfl
    have b1c4 := blk_cell b1e 4 (.slice none 0 0) rfl
    have b1c5 := blk_cell b1e 5 (.slice none 0 0) rfl
    have b1f0 := blk_frozen b1e 0
    have b1f1 := blk_frozen b1e 1
    have b1f2 := blk_frozen b1e 2
    have b1f3 := blk_frozen b1e 3
    have b1f4 := blk_frozen b1e 4
    have b1f5 := blk_frozen b1e 5
    have b1l := blk_lt b1e
    clear b1e
    go_wp2_with fail
    clear b1c0 b1c1 b1c2 b1c3 b1c4 b1c5 b1f0 b1f1 b1f2 b1f3 b1f4 b1f5 b1l
    generalize hW32 : ((((((w31).setCell _ _).setCell _ _).setCell _ _).setCell _ _).setCell _ _).setCell _ _ = W32 at *
    replace HS : Hid (Sx w W32 [(w.heap.size + 1, arr6 z31a z31b, 60), (w.heap.size, arr6 x1 x2, 60)] [(false, z31b.val, 0), (false, z31a.val, 0), (false, x2.val, hi), (false, x1.val, lo)]) := by subst hW32; exact (HS.out).st_RR 0 r30 r30 z31a z31b rfl
    clear hW32
    have HR : Hid (roOf es lo hi = (0, 0, er2)) := by show _ = _; unfold roOf; rw [← HER2.out, if_neg HNZ2.out]
    obtain ⟨b1c0, b1c1, b1c2, b1c3, b1c4, b1c5, _⟩ := fac6 (x := z31a) (y := z31b) (HS.out.at 0 _ _ _ rfl)
    refine bodyPost_ret (v := .tuple #[.agg #[.bool z31a.b, .slice z31a.a z31a.n z31a.c, .slice z31a.d z31a.m z31a.e, .bool z31b.b, .slice z31b.a z31b.n z31b.c, .slice z31b.d z31b.m z31b.e], .int .i64 er2]) (by simp [results, Tryz.results17, go_sem, b1c0, b1c1, b1c2, b1c3, b1c4, b1c5]) rfl (by rw [HR.out]; exact ⟨_, rfl, (rngQ (HS.out.q 1 _ _ rfl) (HS.out.q 0 _ _ rfl)), HS.out.bel⟩)
end Go.Proofs.YtmfochplnchgcaaGreat

namespace Go.Proofs.YtmfochplnchgcaaGreat
open Go.RowKit

theorem decL_step {t : Nat} (h : t ≠ 0) : decL t = decL (t / 10) ++ [chD (t % 10)] := by
  unfold decL
  rw [dig_pos ten_two h]
  simp
theorem decStep (q k r : Nat) (h : 0 < q ∨ 0 < r) : decL (q * 10 ^ (k + 1) + r) = decL (q * 10 ^ k + r / 10) ++ [chD (r % 10)] := by
  have hp : 0 < 10 ^ (k + 1) := Nat.pow_pos (by omega)
  have e : q * 10 ^ (k + 1) + r = (q * 10 ^ k) * 10 + r := by rw [Nat.pow_succ, Nat.mul_assoc]
  rw [decL_step, e]
  · congr 2
    · omega
    · congr 1; omega
  · rcases h with h | h
    · have := Nat.mul_pos h hp; omega
    · omega
theorem slice_dig0 (w : World) : (Instr.sliceAt 9 (.string { data := #[48, 49, 50, 51, 52, 53, 54, 55, 56, 57] }) (some (.int .u32 0)) (some (.int .u32 1)) none).run Tryz.prog w = .ok (.string (strB [chD 0])) w := by kernel_rfl
theorem slice_dig1 (w : World) : (Instr.sliceAt 9 (.string { data := #[48, 49, 50, 51, 52, 53, 54, 55, 56, 57] }) (some (.int .u32 1)) (some (.int .u32 2)) none).run Tryz.prog w = .ok (.string (strB [chD 1])) w := by kernel_rfl
theorem slice_dig2 (w : World) : (Instr.sliceAt 9 (.string { data := #[48, 49, 50, 51, 52, 53, 54, 55, 56, 57] }) (some (.int .u32 2)) (some (.int .u32 3)) none).run Tryz.prog w = .ok (.string (strB [chD 2])) w := by kernel_rfl
theorem slice_dig3 (w : World) : (Instr.sliceAt 9 (.string { data := #[48, 49, 50, 51, 52, 53, 54, 55, 56, 57] }) (some (.int .u32 3)) (some (.int .u32 4)) none).run Tryz.prog w = .ok (.string (strB [chD 3])) w := by kernel_rfl
theorem slice_dig4 (w : World) : (Instr.sliceAt 9 (.string { data := #[48, 49, 50, 51, 52, 53, 54, 55, 56, 57] }) (some (.int .u32 4)) (some (.int .u32 5)) none).run Tryz.prog w = .ok (.string (strB [chD 4])) w := by kernel_rfl
theorem slice_dig5 (w : World) : (Instr.sliceAt 9 (.string { data := #[48, 49, 50, 51, 52, 53, 54, 55, 56, 57] }) (some (.int .u32 5)) (some (.int .u32 6)) none).run Tryz.prog w = .ok (.string (strB [chD 5])) w := by kernel_rfl
theorem slice_dig6 (w : World) : (Instr.sliceAt 9 (.string { data := #[48, 49, 50, 51, 52, 53, 54, 55, 56, 57] }) (some (.int .u32 6)) (some (.int .u32 7)) none).run Tryz.prog w = .ok (.string (strB [chD 6])) w := by kernel_rfl
theorem slice_dig7 (w : World) : (Instr.sliceAt 9 (.string { data := #[48, 49, 50, 51, 52, 53, 54, 55, 56, 57] }) (some (.int .u32 7)) (some (.int .u32 8)) none).run Tryz.prog w = .ok (.string (strB [chD 7])) w := by kernel_rfl
theorem slice_dig8 (w : World) : (Instr.sliceAt 9 (.string { data := #[48, 49, 50, 51, 52, 53, 54, 55, 56, 57] }) (some (.int .u32 8)) (some (.int .u32 9)) none).run Tryz.prog w = .ok (.string (strB [chD 8])) w := by kernel_rfl
theorem slice_dig9 (w : World) : (Instr.sliceAt 9 (.string { data := #[48, 49, 50, 51, 52, 53, 54, 55, 56, 57] }) (some (.int .u32 9)) (some (.int .u32 10)) none).run Tryz.prog w = .ok (.string (strB [chD 9])) w := by kernel_rfl
theorem slice_dig (d : Nat) (hd : d < 10) (w : World) : (Instr.sliceAt 9 (.string { data := #[48, 49, 50, 51, 52, 53, 54, 55, 56, 57] }) (some (.int .u32 (d : Int))) (some (.int .u32 ((d : Int) + 1))) none).run Tryz.prog w = .ok (.string (strB [chD d])) w := by
  have h : d = 0 ∨ d = 1 ∨ d = 2 ∨ d = 3 ∨ d = 4 ∨ d = 5 ∨ d = 6 ∨ d = 7 ∨ d = 8 ∨ d = 9 := by omega
  rcases h with rfl | rfl | rfl | rfl | rfl | rfl | rfl | rfl | rfl | rfl
  · exact slice_dig0 w
  · exact slice_dig1 w
  · exact slice_dig2 w
  · exact slice_dig3 w
  · exact slice_dig4 w
  · exact slice_dig5 w
  · exact slice_dig6 w
  · exact slice_dig7 w
  · exact slice_dig8 w
  · exact slice_dig9 w
def strLen : Value → Nat
  | .string b => b.size
  | _ => 0
set_option maxRecDepth 100000 in
set_option maxHeartbeats 2000000 in
theorem qdigits_any (n : Nat) (v : Value) (w : World) (h : IsNat .u32 b32 w v n) (hs : (dig b32 n).length ≤ 1099511627776) (hl : (decL n).length ≤ 1374389534720) : Calls Tryz.prog 129 #[v] w (RetStr (decT n) w) := by
  have HN := Lib.hid h
  have HSZ := Lib.hid hs
  obtain ⟨ao, cap, rfl, _⟩ := IsRow.opened h
  rcases Nat.eq_zero_or_pos n with h0 | h0
  · subst h0
    have hd : (dig b32 0).length = 0 := rfl
    clear h hs hl HN HSZ
    rw [hd]
    go_enter Tryz.func129, Tryz.ntmps129
    go_wp2_with fail
    go_ret
    exact ⟨rfl, Below.refl _ _⟩
  · have hlen : 0 < (dig b32 n).length := by
      rcases Nat.eq_zero_or_pos (dig b32 n).length with h1 | h1
      · exact absurd ((dig_nil_iff b32_two _).1 (List.eq_nil_of_length_eq_zero h1)) (by omega)
      · exact h1
    have HT : Hid (decT n = decL n) := by show _ = _; unfold decT; rw [if_neg (by omega)]
    have t0 : ((((dig b32 n).length : Nat) : Int) == 0) = false := beq_eq_false_iff_ne.2 (by omega)
    have t1 : ((dig b32 n).length == 0) = false := beq_eq_false_iff_ne.2 (by omega)
    have HL := Lib.hid hl
    clear h hs h0 hl
    go_enter Tryz.func129, Tryz.ntmps129
    go_wp2_with fail
    go_loopw [0, 3] (fun av sv wr => ∃ (m : Nat) (L : List UInt8), IsNat .u32 b32 wr av m ∧ sv = .string (strB L) ∧ Hid (decL m ++ L = decL n) ∧ Hid (m ≤ n) ∧ Hid (Below w.heap.size w wr))
      (fun _ sv _ => (decL n).length - strLen sv)
    case atStart => exact ⟨n, [], HN.out, rfl, by show _ ++ _ = _; simp, Nat.le_refl _, Below.refl _ _⟩
    case round =>
      obtain ⟨m, L, hav, rfl, HM, HMN, HB⟩ := hrel
      obtain ⟨am, cm, rfl, _⟩ := IsRow.opened hav
      have HAV := Lib.hid hav
      clear hav
      have HLL : Hid (L.length ≤ 1374389534720) := by
        show _ ≤ _
        have h1 := congrArg List.length HM.out
        rw [List.length_append] at h1
        have := HL.out
        omega
      rcases Nat.eq_zero_or_pos m with h0 | h0
      · subst h0
        have hd : (dig b32 0).length = 0 := rfl
        rw [hd]
        have HR : Hid (decT n = L) := by show _ = _; rw [HT.out, ← HM.out]; rfl
        clear hd HAV
        go_wp2_with fail
        go_ret
        exact ⟨by rw [HR.out] <;> rfl, HB.out⟩
      · have hlen : 0 < (dig b32 m).length := by
          rcases Nat.eq_zero_or_pos (dig b32 m).length with h1 | h1
          · exact absurd ((dig_nil_iff b32_two _).1 (List.eq_nil_of_length_eq_zero h1)) (by omega)
          · exact h1
        have HP := Lib.hid h0
        have HDL : Hid ((dig b32 m).length ≤ 1099511627776) := Nat.le_trans (dig_length_mono b32_two HMN.out) HSZ.out
        clear h0
        go_wp2_with fail
        refine (byDigit_any m 1000000000 _ _ HAV.out HDL.out (by omega) (by unfold b32; omega)).mono ?_
        rintro e w1 ⟨va, rfl, hva, hb1⟩
        obtain ⟨aq, cq, rfl, _⟩ := IsRow.opened hva
        have HVA := Lib.hid hva
        have HB1 := Lib.hid (ext_trans HB.out hb1)
        have hrb : m % 1000000000 < 1000000000 := Nat.mod_lt _ (by omega)
        have HDM : Hid (m / 1000000000 * 1000000000 + m % 1000000000 = m) := by show _ = _; omega
        clear hva hb1
        go_wp2_with fail
        go_loopw [3, 5, 6] (fun sv rv kv wx => ∃ (k r : Nat) (L2 : List UInt8), k ≤ 9 ∧ kv = .int .i64 k ∧ rv = .int .u32 r ∧ r < 1000000000 ∧ sv = .string (strB L2) ∧ Hid (decL (m / 1000000000 * 10 ^ (9 - k) + r) ++ L2 = decL n) ∧ Hid (L2.length = L.length + k) ∧ Hid (r < 10 ^ (9 - k)) ∧ w1 = wx)
          (fun _ _ kv _ => 9 - (intOf kv).toNat)
        case atStart => exact ⟨0, m % 1000000000, L, by omega, rfl, by go_num, hrb, rfl, by show _ = _; rw [show m / 1000000000 * 10 ^ (9 - 0) + m % 1000000000 = m from HDM.out]; exact HM.out, rfl, hrb, rfl⟩
        case round =>
          obtain ⟨k, r, L2, hk9, rfl, rfl, hr9, rfl, HM2, HLN, HRB, rfl⟩ := hrel
          have HL2L : Hid (L2.length ≤ 1374389534720) := by
            show _ ≤ _
            have h1 := congrArg List.length HM2.out
            rw [List.length_append] at h1
            have := HL.out
            omega
          by_cases hk : k < 9
          · rcases Nat.eq_zero_or_pos (m / 1000000000) with hq | hq
            · have hd : (dig b32 (m / 1000000000)).length = 0 := by rw [hq]; rfl
              rcases Nat.eq_zero_or_pos r with hr | hr
              · subst hr
                have HQ := Lib.hid hq
                have HD0 := Lib.hid hd
                rw [hd]
                clear hq hd
                go_wp2_with fail
                exact ⟨⟨m / 1000000000, L2, (by have := HVA.out; rw [HD0.out] at this; exact this), rfl, by
                  show _ = _
                  rw [← HM2.out, show m / 1000000000 * 10 ^ (9 - k) + 0 = m / 1000000000 from by rw [HQ.out, Nat.zero_mul]], Nat.le_trans (Nat.div_le_self _ _) HMN.out, HB1.out⟩, by
                  have e1 : (strB L2).size = L2.length := rfl
                  have e2 : (strB L).size = L.length := rfl
                  have h1 := congrArg List.length HM2.out
                  rw [List.length_append] at h1
                  have h2 := HLN.out
                  have h3 : 0 < k := by
                    rcases Nat.eq_zero_or_pos k with h0 | h0
                    · exfalso
                      subst h0
                      have h4 := congrArg List.length (HM2.out.trans HM.out.symm)
                      rw [show m / 1000000000 * 10 ^ (9 - 0) + 0 = 0 by rw [HQ.out, Nat.zero_mul], List.length_append, List.length_append, decL_zero, HLN.out] at h4
                      have h5 : decL m ≠ [] := fun h => absurd ((decL_nil m).1 h) (by have := HP.out; omega)
                      have h6 := List.length_pos_iff.2 h5
                      rw [List.length_nil] at h4
                      omega
                    · exact h0
                  show (decL n).length - (strB L2).size < (decL n).length - (strB L).size
                  rw [e1, e2]
                  omega⟩
              · rw [hd]
                clear hq hd
                have hr10 : r % 10 < 10 := by omega
                have hs1 := slice_dig (r % 10) hr10 w1
                have hs2 := slice_dig (r % 10) hr10 w1
                have e1 : ((r % 10 : Nat) : Int) = (r : Int) % 10 := by omega
                rw [e1] at hs2
                have HC : Hid (strB [chD (r % 10)] ++ strB L2 = strB (chD (r % 10) :: L2)) := by show _ = _; rw [strB_append]; rfl
                have hcat := HC.out
                have hz1 : (strB [chD (r % 10)]).size = 1 := rfl
                have hz2 : (strB L2).size ≤ 1374389534720 := HL2L.out
                have HK := Lib.hid hk
                have HQR : Hid (0 < m / 1000000000 ∨ 0 < r) := .inr hr
                obtain ⟨k', hk'⟩ : ∃ k', 9 - k = k' + 1 := ⟨8 - k, by omega⟩
                have HK' := Lib.hid hk'
                clear e1 hk'
                go_wp2_with fail
                exact ⟨⟨k + 1, r / 10, chD (r % 10) :: L2, by omega, by go_num, by go_num, by omega, rfl, by
                  show _ = _
                  rw [show 9 - (k + 1) = k' by have := HK'.out; omega, ← HM2.out, HK'.out, decStep _ _ _ HQR.out, List.append_assoc]; rfl, by show _ = _; rw [List.length_cons, HLN.out]; omega, by
                  show r / 10 < _
                  have h1 : r < 10 ^ (9 - k) := HRB.out
                  rw [HK'.out, Nat.pow_succ] at h1
                  rw [show 9 - (k + 1) = k' by have := HK'.out; omega]
                  omega, trivial⟩, by simp [intOf]; omega⟩
            · have hd : 0 < (dig b32 (m / 1000000000)).length := by
                rcases Nat.eq_zero_or_pos (dig b32 (m / 1000000000)).length with h1 | h1
                · exact absurd ((dig_nil_iff b32_two _).1 (List.eq_nil_of_length_eq_zero h1)) (by omega)
                · exact h1
              have hr10 : r % 10 < 10 := by omega
              have hs1 := slice_dig (r % 10) hr10 w1
              have hs2 := slice_dig (r % 10) hr10 w1
              have e1 : ((r % 10 : Nat) : Int) = (r : Int) % 10 := by omega
              rw [e1] at hs2
              have HC : Hid (strB [chD (r % 10)] ++ strB L2 = strB (chD (r % 10) :: L2)) := by show _ = _; rw [strB_append]; rfl
              have hcat := HC.out
              have hz1 : (strB [chD (r % 10)]).size = 1 := rfl
              have hz2 : (strB L2).size ≤ 1374389534720 := HL2L.out
              have HK := Lib.hid hk
              have HQR : Hid (0 < m / 1000000000 ∨ 0 < r) := .inl hq
              obtain ⟨k', hk'⟩ : ∃ k', 9 - k = k' + 1 := ⟨8 - k, by omega⟩
              have HK' := Lib.hid hk'
              clear e1 hk'
              go_wp2_with fail
              exact ⟨⟨k + 1, r / 10, chD (r % 10) :: L2, by omega, by go_num, by go_num, by omega, rfl, by
                show _ = _
                rw [show 9 - (k + 1) = k' by have := HK'.out; omega, ← HM2.out, HK'.out, decStep _ _ _ HQR.out, List.append_assoc]; rfl, by show _ = _; rw [List.length_cons, HLN.out]; omega, by
                show r / 10 < _
                have h1 : r < 10 ^ (9 - k) := HRB.out
                rw [HK'.out, Nat.pow_succ] at h1
                rw [show 9 - (k + 1) = k' by have := HK'.out; omega]
                omega, trivial⟩, by simp [intOf]; omega⟩
          · obtain rfl : k = 9 := by omega
            obtain rfl : r = 0 := by
              have h1 : r < 10 ^ (9 - 9) := HRB.out
              omega
            clear hk
            go_wp2_with fail
            exact ⟨⟨m / 1000000000, L2, HVA.out, rfl, by
              show _ = _
              rw [← HM2.out, show m / 1000000000 * 10 ^ (9 - 9) + 0 = m / 1000000000 from by simp], Nat.le_trans (Nat.div_le_self _ _) HMN.out, HB1.out⟩, by
              have e1 : (strB L2).size = L2.length := rfl
              have e2 : (strB L).size = L.length := rfl
              have h1 := congrArg List.length HM2.out
              rw [List.length_append] at h1
              have h2 := HLN.out
              have h3 : 0 < 9 := by omega
              show (decL n).length - (strB L2).size < (decL n).length - (strB L).size
              rw [e1, e2]
              omega⟩
theorem decT_len32 (n : Nat) (h : (dig b32 n).length ≤ 1000000000) : (strB (decT n)).size ≤ 20000000001 := by
  have h1 := digits_len n
  have h2 := dig64_le n
  rw [strB_size]
  unfold decT
  split
  · simp
  · rw [decL_length]; omega
theorem decL_len32 (n : Nat) (h : (dig b32 n).length ≤ 1000000000) : (decL n).length ≤ 20000000000 := by
  have h1 := digits_len n
  have h2 := dig64_le n
  rw [decL_length]; omega
set_option maxRecDepth 100000 in
set_option maxHeartbeats 2000000 in
theorem qtext_any (q : Rat) (v : Value) (w : World) (h : IsR w v q) (hs : szQ q 1000000000) : Calls Tryz.prog 98 #[v] w (RetStr (txtQ q) w) := by
  obtain ⟨d', a1, c1, a2, c2, rfl, n1, n2, hd⟩ := h.opened
  have N1 := Lib.hid n1
  have N2 := Lib.hid n2
  have HD := Lib.hid hd
  have HS := Lib.hid hs
  have hB := blk_new w #[.bool (decide (q.num < 0)), .slice a1 (dig b32 q.num.natAbs).length c1, .slice a2 (dig b32 d').length c2] 45
  have hal := (Below.refl w.heap.size w).alloc (Nat.le_refl _) (.cells #[.bool (decide (q.num < 0)), .slice a1 (dig b32 q.num.natAbs).length c1, .slice a2 (dig b32 d').length c2] 45)
  have Htx : Hid (txtQ q = (if q.num < 0 then [45] else []) ++ (decT q.num.natAbs ++ (if q.den = 1 then [] else 47 :: decT q.den))) := rfl
  have HX := Lib.hid decT_len32
  have HXL := Lib.hid decL_len32
  clear h n1 n2 hs hd
  go_enter Tryz.func98, Tryz.ntmps98
  go_wp2_with fail
  refine (qdigits_any q.num.natAbs _ _ (N1.out.below hal) (Nat.le_trans HS.out.1 (by omega)) (Nat.le_trans (HXL.out _ HS.out.1) (by omega))).mono ?_
  rintro e w1 ⟨rfl, hb1⟩
  have hB1 := blk_keep hB hb1 (blk_lt hB)
  have hx1 := ext_trans hal hb1
  have p0 := blk_cell hB1 0 (.bool (decide (q.num < 0))) rfl
  have p1 := blk_cell hB1 1 (.slice a1 (dig b32 q.num.natAbs).length c1) rfl
  have p2 := blk_cell hB1 2 (.slice a2 (dig b32 d').length c2) rfl
  clear hb1
  by_cases hneg : q.num < 0
  · have tn : decide (q.num < 0) = true := decide_eq_true hneg
    have Hneg := Lib.hid hneg
    clear hneg
    have hz0 : (strB (decT q.num.natAbs)).size ≤ 20000000001 := HX.out _ HS.out.1
    obtain ⟨X, hX⟩ : ∃ X, X = 45 :: decT q.num.natAbs := ⟨_, rfl⟩
    have hcat : { data := #[45] } ++ strB (decT q.num.natAbs) = strB X := by rw [hX, show ({ data := #[45] } : ByteArray) = strB [45] from rfl, strB_append]; rfl
    have ho1 : (ByteArray.mk #[45]).size = 1 := rfl
    have hz2 : (strB X).size ≤ 20000000002 := by rw [hX]; rw [strB_size] at hz0 ⊢; rw [List.length_cons]; omega
    have HXX := Lib.hid hX
    clear hX
    clear hB hal
    go_wp2_with fail
    refine (qunder_any d' q.den _ _ _ _ _ _ _ (N2.out.below hx1) HD.out q.den_nz).mono ?_
    rintro e w2 ⟨vu, rfl, hvu, hb2⟩
    have HX2 := Lib.hid (ext_trans hx1 hb2)
    have hB2 := blk_keep hB1 hb2 (blk_lt hB1)
    have HVU := Lib.hid hvu
    clear hb2 hvu hB1 p0 p1 p2
    go_wp2_with fail
    refine (nat_any 1 _ (by unfold b64; omega)).mono ?_
    rintro e w3 ⟨v1, rfl, hv1, hb3⟩
    replace HX2 := Lib.hid (ext_trans HX2.out hb3)
    have hB3 := blk_keep hB2 hb3 (blk_lt hB2)
    replace HVU := Lib.hid (HVU.out.below hb3)
    have HV1 := Lib.hid hv1
    clear hb3 hv1 hB2
    go_wp2_with fail
    refine (order_any q.den 1 _ _ _ HVU.out HV1.out).mono ?_
    rintro e w4 ⟨rfl, hq4⟩
    have hbq := Quiet.below hq4
    have p0 := blk_cell (blk_keep hB3 hbq (blk_lt hB3)) 0 (.bool (decide (q.num < 0))) rfl
    have p1 := blk_cell (blk_keep hB3 hbq (blk_lt hB3)) 1 (.slice a1 (dig b32 q.num.natAbs).length c1) rfl
    have p2 := blk_cell (blk_keep hB3 hbq (blk_lt hB3)) 2 (.slice a2 (dig b32 d').length c2) rfl
    replace HX2 := Lib.hid (ext_trans HX2.out hbq)
    clear hbq hB3 HV1 HVU
    by_cases hd : q.den = 1
    · have hc : cmpN q.den 1 = 0 := by rw [hd]; rfl
      have HR : Hid (txtQ q = X) := by show _ = _; rw [Htx.out, if_pos Hneg.out, HXX.out, if_pos hd]; simp
      rw [hc]
      clear hd hc
      go_wp2_with fail
      go_ret
      exact ⟨by rw [HR.out] <;> rfl, HX2.out⟩
    · have hc : cmpN q.den 1 = 1 := by
        have := q.den_pos
        unfold cmpN
        rw [if_neg (by omega), if_pos (by omega)]
      have HR : Hid (txtQ q = X ++ 47 :: decT q.den) := by show _ = _; rw [Htx.out, if_pos Hneg.out, HXX.out, if_neg hd]; simp
      rw [hc]
      clear hd hc
      have hc1 : strB (X) ++ { data := #[47] } = strB (X ++ [47]) := by rw [← strB_append]; rfl
      have ho : (ByteArray.mk #[47]).size = 1 := rfl
      have hz5 : (strB (X)).size ≤ 20000000002 := hz2
      have hz6 : (strB (X ++ [47])).size ≤ 20000000003 := by rw [strB_size] at hz5 ⊢; rw [List.length_append, List.length_singleton]; omega
      go_wp2_with fail
      refine (qunder_any d' q.den _ _ _ _ _ _ _ (N2.out.below HX2.out) HD.out q.den_nz).mono ?_
      rintro e w5 ⟨vu, rfl, hvu, hb5⟩
      replace HX2 := Lib.hid (ext_trans HX2.out hb5)
      clear p0 p1 p2 hb5
      go_wp2_with fail
      refine (qdigits_any q.den _ _ hvu (Nat.le_trans HS.out.2 (by omega)) (Nat.le_trans (HXL.out _ HS.out.2) (by omega))).mono ?_
      rintro e w6 ⟨rfl, hb6⟩
      have hz7 : (strB (decT q.den)).size ≤ 20000000001 := HX.out _ HS.out.2
      have hc2 : strB (X ++ [47]) ++ strB (decT q.den) = strB (txtQ q) := by rw [strB_append, HR.out]; simp
      replace HX2 := Lib.hid (ext_trans HX2.out hb6)
      clear hb6 hvu
      go_wp2_with fail
      go_ret
      exact ⟨rfl, HX2.out⟩
  · have tn : decide (q.num < 0) = false := decide_eq_false hneg
    have Hneg : Hid (¬ q.num < 0) := hneg
    clear hneg
    have hz0 : (strB (decT q.num.natAbs)).size ≤ 20000000001 := HX.out _ HS.out.1
    have hz2 : (strB (decT q.num.natAbs)).size ≤ 20000000002 := by omega
    clear hB hal
    go_wp2_with fail
    refine (qunder_any d' q.den _ _ _ _ _ _ _ (N2.out.below hx1) HD.out q.den_nz).mono ?_
    rintro e w2 ⟨vu, rfl, hvu, hb2⟩
    have HX2 := Lib.hid (ext_trans hx1 hb2)
    have hB2 := blk_keep hB1 hb2 (blk_lt hB1)
    have HVU := Lib.hid hvu
    clear hb2 hvu hB1 p0 p1 p2
    go_wp2_with fail
    refine (nat_any 1 _ (by unfold b64; omega)).mono ?_
    rintro e w3 ⟨v1, rfl, hv1, hb3⟩
    replace HX2 := Lib.hid (ext_trans HX2.out hb3)
    have hB3 := blk_keep hB2 hb3 (blk_lt hB2)
    replace HVU := Lib.hid (HVU.out.below hb3)
    have HV1 := Lib.hid hv1
    clear hb3 hv1 hB2
    go_wp2_with fail
    refine (order_any q.den 1 _ _ _ HVU.out HV1.out).mono ?_
    rintro e w4 ⟨rfl, hq4⟩
    have hbq := Quiet.below hq4
    have p0 := blk_cell (blk_keep hB3 hbq (blk_lt hB3)) 0 (.bool (decide (q.num < 0))) rfl
    have p1 := blk_cell (blk_keep hB3 hbq (blk_lt hB3)) 1 (.slice a1 (dig b32 q.num.natAbs).length c1) rfl
    have p2 := blk_cell (blk_keep hB3 hbq (blk_lt hB3)) 2 (.slice a2 (dig b32 d').length c2) rfl
    replace HX2 := Lib.hid (ext_trans HX2.out hbq)
    clear hbq hB3 HV1 HVU
    by_cases hd : q.den = 1
    · have hc : cmpN q.den 1 = 0 := by rw [hd]; rfl
      have HR : Hid (txtQ q = decT q.num.natAbs) := by show _ = _; rw [Htx.out, if_neg (by have := Hneg.out; omega), if_pos hd]; simp
      rw [hc]
      clear hd hc
      go_wp2_with fail
      go_ret
      exact ⟨by rw [HR.out] <;> rfl, HX2.out⟩
    · have hc : cmpN q.den 1 = 1 := by
        have := q.den_pos
        unfold cmpN
        rw [if_neg (by omega), if_pos (by omega)]
      have HR : Hid (txtQ q = decT q.num.natAbs ++ 47 :: decT q.den) := by show _ = _; rw [Htx.out, if_neg (by have := Hneg.out; omega), if_neg hd]; simp
      rw [hc]
      clear hd hc
      have hc1 : strB (decT q.num.natAbs) ++ { data := #[47] } = strB (decT q.num.natAbs ++ [47]) := by rw [← strB_append]; rfl
      have ho : (ByteArray.mk #[47]).size = 1 := rfl
      have hz5 : (strB (decT q.num.natAbs)).size ≤ 20000000002 := hz2
      have hz6 : (strB (decT q.num.natAbs ++ [47])).size ≤ 20000000003 := by rw [strB_size] at hz5 ⊢; rw [List.length_append, List.length_singleton]; omega
      go_wp2_with fail
      refine (qunder_any d' q.den _ _ _ _ _ _ _ (N2.out.below HX2.out) HD.out q.den_nz).mono ?_
      rintro e w5 ⟨vu, rfl, hvu, hb5⟩
      replace HX2 := Lib.hid (ext_trans HX2.out hb5)
      clear p0 p1 p2 hb5
      go_wp2_with fail
      refine (qdigits_any q.den _ _ hvu (Nat.le_trans HS.out.2 (by omega)) (Nat.le_trans (HXL.out _ HS.out.2) (by omega))).mono ?_
      rintro e w6 ⟨rfl, hb6⟩
      have hz7 : (strB (decT q.den)).size ≤ 20000000001 := HX.out _ HS.out.2
      have hc2 : strB (decT q.num.natAbs ++ [47]) ++ strB (decT q.den) = strB (txtQ q) := by rw [strB_append, HR.out]; simp
      replace HX2 := Lib.hid (ext_trans HX2.out hb6)
      clear hb6 hvu
      go_wp2_with fail
      go_ret
      exact ⟨rfl, HX2.out⟩
end Go.Proofs.YtmfochplnchgcaaGreat

namespace Go.Proofs.YtmfochplnchgcaaGreat
open Go.RowKit

set_option maxRecDepth 100000 in
set_option maxHeartbeats 4000000 in
theorem lis_any (q : Rat) (vx vy : Value) (w : World) (hx : IsRat w vx q) (hy : IsR w vy q) (s1 : szR q 400000000) :
    Calls Tryz.prog 58 #[vx, vy] w (RetBool true w) := by
  obtain ⟨x1, rfl⟩ := hx.open3
  obtain ⟨y1, rfl⟩ := hy.open3
  have HS := Lib.hid (((Sx.init w).addP hx).addQ hy)
  have S1 := Lib.hid s1
  clear hx hy s1
  go_enter Tryz.func58, Tryz.ntmps58
  go_wp2_with fail
  generalize hW1 : ((w).alloc (.cells _ _)).alloc (.cells _ _) = W1 at *
  replace HS : Hid (Sx w W1 [(w.heap.size + 1, y1.arr, 45), (w.heap.size, x1.arr, 40)] [(false, y1.val, q), (true, x1.val, q)]) := by subst hW1; exact ((HS.out).alloc (B := w.heap.size) rfl (by rfl)).alloc (B := w.heap.size + 1) (by simp) (by rfl)
  clear hW1
  refine wp_region_held_drew (S := (fun w' => Sx w w' [(w.heap.size + 1, y1.arr, 45), (w.heap.size, x1.arr, 40)] [])) (by kernel_rfl) ((HS.out.drew).bare) (fun hh => ?_)
  replace HS := Lib.hid HS.out.drew
  refine tkA (i := 0) (v := ?vpr2_0_k4) rfl (Or.inl ⟨by first | rfl | kernel_rfl, ?hypr2_0_k4⟩) (by assumption) ?repr2_0_k4
  case hypr2_0_k4 => (intro u hSu; (try dsimp only at hSu); obtain ⟨qb0c0, qb0c1, qb0c2, _⟩ := fac3 (x := x1) (hSu.at 1 _ _ _ rfl); clear hSu; (first | (go_simp; done) | (go_simp; with_reducible rfl)))
  try simp only [nb1, nb2, nb3, Act.put, nb4, nb5, nb6]
  refine tkA (i := 2) (v := ?vpr2_2_k6) rfl (Or.inl ⟨by first | rfl | kernel_rfl, ?hypr2_2_k6⟩) (by assumption) ?repr2_2_k6
  case hypr2_2_k6 => (intro u hSu; (try dsimp only at hSu); obtain ⟨qb1c0, qb1c1, qb1c2, _⟩ := fac3 (x := y1) (hSu.at 0 _ _ _ rfl); clear hSu; (first | (go_simp; done) | (go_simp; with_reducible rfl)))
  try simp only [nb1, nb2, nb3, Act.put, nb4, nb5, nb6]
  refine rdA (i := 1) rfl (fun K hK => ?_)
  go_simp
  have a8 := HS.out.p 1 _ _ rfl
  go_wp2_with (go_at_call 73; (with_reducible refine (textRat_any q _ _ a8 (szR_mono S1.out (by omega))).mono ?_); rintro e w7 ⟨rfl, hb7⟩)
  refine hK.out _ _ (Sx.below hh hb7) (fun hh => ?_)
  clear hK K
  try simp only [nb1, nb2, nb3, Act.put, nb4, nb5, nb6]
  replace HS := Lib.hid (HS.out.below hb7)
  clear hb7 a8
  refine rdA (i := 3) rfl (fun K hK => ?_)
  go_simp
  have a10 := HS.out.q 0 _ _ rfl
  go_wp2_with (go_at_call 98; (with_reducible refine (qtext_any q _ _ a10 (szQ_mono (szQ_of S1.out) (by omega))).mono ?_); rintro e w9 ⟨rfl, hb9⟩)
  refine hK.out _ _ (Sx.below hh hb9) (fun hh => ?_)
  clear hK K
  try simp only [nb1, nb2, nb3, Act.put, nb4, nb5, nb6]
  replace HS := Lib.hid (HS.out.below hb9)
  clear hb9 a10
  refine tkA (i := 4) (v := ?vpr2_4_k12) rfl (Or.inl ⟨by first | rfl | kernel_rfl, ?hypr2_4_k12⟩) (by assumption) ?repr2_4_k12
  case hypr2_4_k12 => (intro u hSu; (first | (go_simp; done) | (go_simp; with_reducible rfl)))
  try simp only [nb1, nb2, nb3, Act.put, nb4, nb5, nb6]
  refine tkA (i := 5) (v := ?vpr2_5_k14) rfl (Or.inl ⟨by first | rfl | kernel_rfl, ?hypr2_5_k14⟩) (by assumption) ?repr2_5_k14
  case hypr2_5_k14 => (intro u hSu; (first | (go_simp; done) | (go_simp; with_reducible rfl)))
  try simp only [nb1, nb2, nb3, Act.put, nb4, nb5, nb6]
  refine wpAnyH_done (by kernel_rfl) ?_ _
  obtain ⟨b0c0, b0c1, b0c2, b0f0, b0f1, b0f2⟩ := fac3 (x := x1) (HS.out.at 1 _ _ _ rfl)
  have b0l := blk_lt (HS.out.at 1 _ _ _ rfl)
  obtain ⟨b1c0, b1c1, b1c2, b1f0, b1f1, b1f2⟩ := fac3 (x := y1) (HS.out.at 0 _ _ _ rfl)
  have b1l := blk_lt (HS.out.at 0 _ _ _ rfl)
  go_wp2_with fail
  clear b0c0 b0c1 b0c2 b0f0 b0f1 b0f2 b0l b1c0 b1c1 b1c2 b1f0 b1f1 b1f2 b1l
  go_ret
  exact ⟨by simp, HS.out.bel⟩
set_option maxRecDepth 100000 in
set_option maxHeartbeats 4000000 in
theorem isRange_any (p q : Rat) (vx vy : Value) (w : World) (hx : IsRng w vx p q) (hy : IsRngQ w vy p q) (s1 : szR p 400000000) (s2 : szR q 400000000) :
    Calls Tryz.prog 23 #[vx, vy] w (RetBool true w) := by
  obtain ⟨x1, x2, rfl, h1, h2⟩ := hx
  obtain ⟨y1, y2, rfl, h3, h4⟩ := hy
  have HS := Lib.hid (((((Sx.init w).addP h1).addP h2).addQ h3).addQ h4)
  have S1 := Lib.hid s1
  have S2 := Lib.hid s2
  clear h1 h2 h3 h4 s1 s2
  go_enter Tryz.func23, Tryz.ntmps23
  go_wp2_with fail
  generalize hW1 : ((w).alloc (.cells _ _)).alloc (.cells _ _) = W1 at *
  replace HS : Hid (Sx w W1 [(w.heap.size + 1, arr6 y1 y2, 60), (w.heap.size, arr6 x1 x2, 55)] [(false, y2.val, q), (false, y1.val, p), (true, x2.val, q), (true, x1.val, p)]) := by subst hW1; exact ((HS.out).alloc (B := w.heap.size) rfl (by rfl)).alloc (B := w.heap.size + 1) (by simp) (by rfl)
  clear hW1
  refine wp_region_held_drew (S := (fun w' => Sx w w' [(w.heap.size + 1, arr6 y1 y2, 60), (w.heap.size, arr6 x1 x2, 55)] [])) (by kernel_rfl) ((HS.out.drew).bare) (fun hh => ?_)
  replace HS := Lib.hid HS.out.drew
  refine tkA (i := 0) (v := ?vpr2_0_k4) rfl (Or.inl ⟨by first | rfl | kernel_rfl, ?hypr2_0_k4⟩) (by assumption) ?repr2_0_k4
  case hypr2_0_k4 => (intro u hSu; (try dsimp only at hSu); obtain ⟨qb0c0, qb0c1, qb0c2, qb0c3, qb0c4, qb0c5, _⟩ := fac6 (x := x1) (y := x2) (hSu.at 1 _ _ _ rfl); clear hSu; (first | (go_simp; done) | (go_simp; with_reducible rfl)))
  try simp only [nb1, nb2, nb3, Act.put, nb4, nb5, nb6]
  refine tkA (i := 2) (v := ?vpr2_2_k6) rfl (Or.inl ⟨by first | rfl | kernel_rfl, ?hypr2_2_k6⟩) (by assumption) ?repr2_2_k6
  case hypr2_2_k6 => (intro u hSu; (first | (go_simp; done) | (go_simp; with_reducible rfl)))
  try simp only [nb1, nb2, nb3, Act.put, nb4, nb5, nb6]
  refine tkA (i := 3) (v := ?vpr2_3_k8) rfl (Or.inl ⟨by first | rfl | kernel_rfl, ?hypr2_3_k8⟩) (by assumption) ?repr2_3_k8
  case hypr2_3_k8 => (intro u hSu; (try dsimp only at hSu); obtain ⟨qb1c0, qb1c1, qb1c2, qb1c3, qb1c4, qb1c5, _⟩ := fac6 (x := y1) (y := y2) (hSu.at 0 _ _ _ rfl); clear hSu; (first | (go_simp; done) | (go_simp; with_reducible rfl)))
  try simp only [nb1, nb2, nb3, Act.put, nb4, nb5, nb6]
  refine rdA (i := 1) rfl (fun K hK => ?_)
  go_simp
  have a10 := HS.out.p 3 _ _ rfl
  have a11 := HS.out.p 2 _ _ rfl
  go_wp2_with (go_at_call 56; (with_reducible refine (rlo_any p q _ _ (rngP a10 a11)).mono ?_); rintro e w9 ⟨v9, rfl, hv9, hb9⟩; obtain ⟨z9, rfl⟩ := hv9.open3)
  refine hK.out _ _ (Sx.below hh hb9) (fun hh => ?_)
  clear hK K
  try simp only [nb1, nb2, nb3, Act.put, nb4, nb5, nb6]
  replace HS := Lib.hid (HS.out.below hb9)
  clear hb9 a10 a11
  replace HS := Lib.hid (HS.out.addP hv9)
  clear hv9
  refine rdA (i := 4) rfl (fun K hK => ?_)
  go_simp
  have a13 := HS.out.p 0 _ _ rfl
  have a14 := HS.out.q 2 _ _ rfl
  go_wp2_with (go_at_call 58; (with_reducible refine (lis_any p _ _ _ a13 a14 (szR_mono S1.out (by omega))).mono ?_); rintro e w12 ⟨rfl, hb12⟩)
  refine hK.out _ _ (Sx.below hh hb12) (fun hh => ?_)
  clear hK K
  try simp only [nb1, nb2, nb3, Act.put, nb4, nb5, nb6]
  replace HS := Lib.hid (HS.out.below hb12)
  clear hb12 a13 a14
  refine tkA (i := 5) (v := ?vpr2_5_k16) rfl (Or.inl ⟨by first | rfl | kernel_rfl, ?hypr2_5_k16⟩) (by assumption) ?repr2_5_k16
  case hypr2_5_k16 => (intro u hSu; (first | (go_simp; done) | (go_simp; with_reducible rfl)))
  try simp only [nb1, nb2, nb3, Act.put, nb4, nb5, nb6]
  refine tkA (i := 6) (v := ?vpr2_6_k18) rfl (Or.inl ⟨by first | rfl | kernel_rfl, ?hypr2_6_k18⟩) (by assumption) ?repr2_6_k18
  case hypr2_6_k18 => (intro u hSu; (try dsimp only at hSu); obtain ⟨qb0c0, qb0c1, qb0c2, qb0c3, qb0c4, qb0c5, _⟩ := fac6 (x := x1) (y := x2) (hSu.at 1 _ _ _ rfl); clear hSu; (first | (go_simp; done) | (go_simp; with_reducible rfl)))
  try simp only [nb1, nb2, nb3, Act.put, nb4, nb5, nb6]
  refine tkA (i := 8) (v := ?vpr2_8_k20) rfl (Or.inl ⟨by first | rfl | kernel_rfl, ?hypr2_8_k20⟩) (by assumption) ?repr2_8_k20
  case hypr2_8_k20 => (intro u hSu; (first | (go_simp; done) | (go_simp; with_reducible rfl)))
  try simp only [nb1, nb2, nb3, Act.put, nb4, nb5, nb6]
  refine tkA (i := 9) (v := ?vpr2_9_k22) rfl (Or.inl ⟨by first | rfl | kernel_rfl, ?hypr2_9_k22⟩) (by assumption) ?repr2_9_k22
  case hypr2_9_k22 => (intro u hSu; (try dsimp only at hSu); obtain ⟨qb1c0, qb1c1, qb1c2, qb1c3, qb1c4, qb1c5, _⟩ := fac6 (x := y1) (y := y2) (hSu.at 0 _ _ _ rfl); clear hSu; (first | (go_simp; done) | (go_simp; with_reducible rfl)))
  try simp only [nb1, nb2, nb3, Act.put, nb4, nb5, nb6]
  refine rdA (i := 7) rfl (fun K hK => ?_)
  go_simp
  have a24 := HS.out.p 4 _ _ rfl
  have a25 := HS.out.p 3 _ _ rfl
  go_wp2_with (go_at_call 57; (with_reducible refine (rhi_any p q _ _ (rngP a24 a25)).mono ?_); rintro e w23 ⟨v23, rfl, hv23, hb23⟩; obtain ⟨z23, rfl⟩ := hv23.open3)
  refine hK.out _ _ (Sx.below hh hb23) (fun hh => ?_)
  clear hK K
  try simp only [nb1, nb2, nb3, Act.put, nb4, nb5, nb6]
  replace HS := Lib.hid (HS.out.below hb23)
  clear hb23 a24 a25
  replace HS := Lib.hid (HS.out.addP hv23)
  clear hv23
  refine rdA (i := 10) rfl (fun K hK => ?_)
  go_simp
  have a27 := HS.out.p 0 _ _ rfl
  have a28 := HS.out.q 2 _ _ rfl
  go_wp2_with (go_at_call 58; (with_reducible refine (lis_any q _ _ _ a27 a28 (szR_mono S2.out (by omega))).mono ?_); rintro e w26 ⟨rfl, hb26⟩)
  refine hK.out _ _ (Sx.below hh hb26) (fun hh => ?_)
  clear hK K
  try simp only [nb1, nb2, nb3, Act.put, nb4, nb5, nb6]
  replace HS := Lib.hid (HS.out.below hb26)
  clear hb26 a27 a28
  refine tkA (i := 11) (v := ?vpr2_11_k30) rfl (Or.inl ⟨by first | rfl | kernel_rfl, ?hypr2_11_k30⟩) (by assumption) ?repr2_11_k30
  case hypr2_11_k30 => (intro u hSu; (first | (go_simp; done) | (go_simp; with_reducible rfl)))
  try simp only [nb1, nb2, nb3, Act.put, nb4, nb5, nb6]
  refine tkA (i := 12) (v := ?vpr2_12_k32) rfl (Or.inl ⟨by first | rfl | kernel_rfl, ?hypr2_12_k32⟩) (by assumption) ?repr2_12_k32
  case hypr2_12_k32 => (intro u hSu; (first | (go_simp; done) | (go_simp; with_reducible rfl)))
  try simp only [nb1, nb2, nb3, Act.put, nb4, nb5, nb6]
  refine wpAnyH_done (by kernel_rfl) ?_ _
  obtain ⟨b0c0, b0c1, b0c2, b0c3, b0c4, b0c5, b0f0, b0f1, b0f2, b0f3, b0f4, b0f5⟩ := fac6 (x := x1) (y := x2) (HS.out.at 1 _ _ _ rfl)
  have b0l := blk_lt (HS.out.at 1 _ _ _ rfl)
  obtain ⟨b1c0, b1c1, b1c2, b1c3, b1c4, b1c5, b1f0, b1f1, b1f2, b1f3, b1f4, b1f5⟩ := fac6 (x := y1) (y := y2) (HS.out.at 0 _ _ _ rfl)
  have b1l := blk_lt (HS.out.at 0 _ _ _ rfl)
  go_wp2_with fail
  clear b0c0 b0c1 b0c2 b0c3 b0c4 b0c5 b0f0 b0f1 b0f2 b0f3 b0f4 b0f5 b0l b1c0 b1c1 b1c2 b1c3 b1c4 b1c5 b1f0 b1f1 b1f2 b1f3 b1f4 b1f5 b1l
  go_ret
  exact ⟨rfl, HS.out.bel⟩
end Go.Proofs.YtmfochplnchgcaaGreat
