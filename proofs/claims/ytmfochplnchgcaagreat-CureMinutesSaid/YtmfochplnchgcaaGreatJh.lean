/- Part h of the lemmas and walks. -/
import Derived.Test.YtmfochplnchgcaaGreatJg

namespace Go.Proofs.YtmfochplnchgcaaGreat
open Go.RowKit

theorem whole_f (n : Int) (w : World) (h1 : -9223372036854775808 ≤ n) (h2 : n ≤ 9223372036854775807) : Calls Tryz.prog 41 #[.int .i64 n] w (RetR (n : Rat) w) := whole_any n w h1 h2
set_option maxRecDepth 100000 in
set_option maxHeartbeats 4000000 in
theorem qrate_any (es : List Ent) (t : Rat) (vt vx : Value) (w : World) (ht : TabOf IsR w vt es) (hx : IsR w vx t) (hl : es.length ≤ 1000) (hI : entI es) (hZ : entS es) (s1 : szR t 10000) :
    Calls Tryz.prog 47 #[vt, vx] w (RetRngQ (rtOf es t).1 (rtOf es t).2 w) := by
  obtain ⟨x1, rfl⟩ := hx.open3
  have HS := Lib.hid ((Sx.init w).addQ hx)
  have HI := Lib.hid hI
  have HZ := Lib.hid hZ
  have S1 := Lib.hid s1
  obtain ⟨ao, cap, rfl, hE⟩ := ht
  have HE := Lib.hid hE
  clear hE hx hI hZ s1
  go_enter Tryz.func47, Tryz.ntmps47
  go_wp2_with fail
  generalize hW1 : ((w).alloc (.cells _ _)).alloc (.cells _ _) = W1 at *
  replace HS : Hid (Sx w W1 [(w.heap.size + 1, #[.bool false, .slice none 0 0, .slice none 0 0, .bool false, .slice none 0 0, .slice none 0 0], 60), (w.heap.size, x1.arr, 45)] [(false, x1.val, t)]) := by subst hW1; exact ((HS.out).alloc (B := w.heap.size) rfl (by rfl)).alloc (B := w.heap.size + 1) (by simp) (by rfl)
  clear hW1
  refine (none_any _).mono ?_
  rintro e w2 ⟨v2, rfl, ⟨z2a, z2b, rfl, hv2, hw2⟩, hb2⟩
  replace HS := Lib.hid (HS.out.below hb2)
  clear hb2
  replace HS := Lib.hid (HS.out.addQ hv2)
  clear hv2
  replace HS := Lib.hid (HS.out.addQ hw2)
  clear hw2
  go_wp2_with fail
  generalize hW3 : (w2).alloc (.cells _ _) = W3 at *
  replace HS : Hid (Sx w W3 [(w2.heap.size, arr6 z2a z2b, 60), (w.heap.size + 1, #[.bool false, .slice none 0 0, .slice none 0 0, .bool false, .slice none 0 0, .slice none 0 0], 60), (w.heap.size, x1.arr, 45)] [(false, z2b.val, 0), (false, z2a.val, 0), (false, x1.val, t)]) := by subst hW3; exact (HS.out).alloc (B := w2.heap.size) rfl (by rfl)
  clear hW3
  go_loopw [6] (fun u6 wr => ∃ (i : Nat) (y1 y2 : R3), i ≤ es.length ∧ u6 = .int .i64 i ∧ Hid (Sx w wr [(w2.heap.size, arr6 y1 y2, 60), (w.heap.size + 1, #[.bool false, .slice none 0 0, .slice none 0 0, .bool false, .slice none 0 0, .slice none 0 0], 60), (w.heap.size, x1.arr, 45)] [(false, y2.val, (rtUp es t i).2), (false, y1.val, (rtUp es t i).1), (false, x1.val, t)]))
    (fun u _ => es.length - (intOf u).toNat)
  case atStart => exact ⟨0, z2a, z2b, Nat.zero_le _, rfl, Lib.hid ((((HS.out.bare).addQ (HS.out.q 2 _ _ rfl)).addQ (HS.out.q 1 _ _ rfl)).addQ (HS.out.q 0 _ _ rfl))⟩
  case round =>
    clear HS
    obtain ⟨i, y1, y2, hi, rfl, HS⟩ := hrel
    by_cases hlt : i < es.length
    ·
      have hlt' : (i : Int) < es.length := by omega
      have hge' : (0 : Int) ≤ i := by omega
      have HLT := Lib.hid hlt
      obtain ⟨b, off, rfl, hbl, hEE⟩ := HE.out (by omega)
      have HBL := Lib.hid hbl
      clear hbl
      obtain ⟨Ex, Ey, Eg0, Eg1, Eg2, Eg3, Eg4, Eg5, Eg6, Eh1, Eh2⟩ := hEE i hlt
      have E0 := Lib.hid Eg0
      have E1 := Lib.hid Eg1
      have E2 := Lib.hid Eg2
      have E3 := Lib.hid Eg3
      have E4 := Lib.hid Eg4
      have E5 := Lib.hid Eg5
      have E6 := Lib.hid Eg6
      clear Eg0 Eg1 Eg2 Eg3 Eg4 Eg5 Eg6
      replace HS := Lib.hid ((HS.out.addQ (Eh1.below HS.out.bel)).addQ (Eh2.below HS.out.bel))
      clear Eh1 Eh2
      have HF1 := Lib.hid (rtUp_1 es t i)
      have HF2 := Lib.hid (rtUp_2 es t i)
      have HII := Lib.hid (HI.out i hlt)
      clear hEE hlt
      generalize (es.getD i (0, 0, 0)).1 = f at *
      generalize (es.getD i (0, 0, 0)).2.1 = lo at *
      generalize (es.getD i (0, 0, 0)).2.2 = hi at *
      obtain ⟨hf1, hf2⟩ := HII.out
      go_wp2_with fail
      refine wp_region_held_drew (S := (fun w' => Sx w w' [(w2.heap.size, arr6 y1 y2, 60), (w.heap.size + 1, #[.bool false, .slice none 0 0, .slice none 0 0, .bool false, .slice none 0 0, .slice none 0 0], 60), (w.heap.size, x1.arr, 45)] [])) (by kernel_rfl) ((HS.out.drew).bare) (fun hh => ?_)
      replace HS := Lib.hid HS.out.drew
      refine tkA (i := 0) (v := ?vpr4_0_k6) rfl (Or.inl ⟨by first | rfl | kernel_rfl, ?hypr4_0_k6⟩) (by assumption) ?repr4_0_k6
      case hypr4_0_k6 => (intro u hSu; (first | (go_simp; done) | (go_simp; with_reducible rfl)))
      try simp only [nb1, nb2, nb3, Act.put, nb4, nb5, nb6]
      refine tkA (i := 1) (v := ?vpr4_1_k8) rfl (Or.inl ⟨by first | rfl | kernel_rfl, ?hypr4_1_k8⟩) (by assumption) ?repr4_1_k8
      case hypr4_1_k8 => (intro u hSu; (first | (go_simp; done) | (go_simp; with_reducible rfl)))
      try simp only [nb1, nb2, nb3, Act.put, nb4, nb5, nb6]
      refine tkA (i := 2) (v := ?vpr4_2_k10) rfl (Or.inl ⟨by first | rfl | kernel_rfl, ?hypr4_2_k10⟩) (by assumption) ?repr4_2_k10
      case hypr4_2_k10 => (intro u hSu; (first | (go_simp; done) | (go_simp; with_reducible rfl)))
      try simp only [nb1, nb2, nb3, Act.put, nb4, nb5, nb6]
      refine tkA (i := 3) (v := ?vpr4_3_k12) rfl (Or.inl ⟨by first | rfl | kernel_rfl, ?hypr4_3_k12⟩) (by assumption) ?repr4_3_k12
      case hypr4_3_k12 => (intro u hSu; (first | (go_simp; done) | (go_simp; with_reducible rfl)))
      try simp only [nb1, nb2, nb3, Act.put, nb4, nb5, nb6]
      refine tkA (i := 4) (v := ?vpr4_4_k14) rfl (Or.inl ⟨by first | rfl | kernel_rfl, ?hypr4_4_k14⟩) (by assumption) ?repr4_4_k14
      case hypr4_4_k14 => (intro u hSu; (try dsimp only at hSu); have Ec0 := (hSu.bel.cell (p := ⟨b, off + i * 7, none⟩) HBL.out).trans E0.out; have Ec1 := (hSu.bel.cell (p := ⟨b, off + i * 7 + 1, none⟩) HBL.out).trans E1.out; have Ec2 := (hSu.bel.cell (p := ⟨b, off + i * 7 + 2, none⟩) HBL.out).trans E2.out; have Ec3 := (hSu.bel.cell (p := ⟨b, off + i * 7 + 3, none⟩) HBL.out).trans E3.out; have Ec4 := (hSu.bel.cell (p := ⟨b, off + i * 7 + 4, none⟩) HBL.out).trans E4.out; have Ec5 := (hSu.bel.cell (p := ⟨b, off + i * 7 + 5, none⟩) HBL.out).trans E5.out; have Ec6 := (hSu.bel.cell (p := ⟨b, off + i * 7 + 6, none⟩) HBL.out).trans E6.out; clear hSu; (first | (go_simp; done) | (go_simp; with_reducible rfl)))
      try simp only [nb1, nb2, nb3, Act.put, nb4, nb5, nb6]
      refine tkA (i := 6) (v := ?vpr4_6_k16) rfl (Or.inl ⟨by first | rfl | kernel_rfl, ?hypr4_6_k16⟩) (by assumption) ?repr4_6_k16
      case hypr4_6_k16 => (intro u hSu; (try dsimp only at hSu); obtain ⟨qb0c0, qb0c1, qb0c2, _⟩ := fac3 (x := x1) (hSu.at 2 _ _ _ rfl); clear hSu; (first | (go_simp; done) | (go_simp; with_reducible rfl)))
      try simp only [nb1, nb2, nb3, Act.put, nb4, nb5, nb6]
      refine rdA (i := 5) rfl (fun K hK => ?_)
      go_simp
      go_wp2_with (go_at_call 41; (with_reducible refine (whole_f f _ hf1 hf2).mono ?_); rintro e w17 ⟨v17, rfl, hv17, hb17⟩; obtain ⟨z17, rfl⟩ := hv17.open3)
      refine hK.out _ _ (Sx.below hh hb17) (fun hh => ?_)
      clear hK K
      try simp only [nb1, nb2, nb3, Act.put, nb4, nb5, nb6]
      replace HS := Lib.hid (HS.out.below hb17)
      clear hb17
      replace HS := Lib.hid (HS.out.addQ hv17)
      clear hv17
      refine rdA (i := 7) rfl (fun K hK => ?_)
      go_simp
      obtain ⟨c18, hc18⟩ : ∃ c, c = cmpR (f : Rat) t := ⟨_, rfl⟩
      have HC18 := Lib.hid hc18
      clear hc18
      have a19 := HS.out.q 0 _ _ rfl
      have a20 := HS.out.q 5 _ _ rfl
      go_wp2_with (go_at_call 38; (with_reducible refine (qcmp_any (f : Rat) t _ _ _ a19 a20 (szQ_mono (szQ_of (i64_szR' f hf1 hf2 10000 (by omega))) (by omega)) (szQ_mono (szQ_of S1.out) (by omega))).mono ?_); rw [← HC18.out]; rintro e w18 ⟨rfl, hb18⟩)
      refine hK.out _ _ (Sx.below hh hb18) (fun hh => ?_)
      clear hK K
      try simp only [nb1, nb2, nb3, Act.put, nb4, nb5, nb6]
      replace HS := Lib.hid (HS.out.below hb18)
      clear hb18 a19 a20
      by_cases t22p : c18 ≤ 0
      ·
        have t22 : decide (c18 ≤ 0) = true := decide_eq_true t22p
        have T22 := Lib.hid t22p
        clear t22p
        refine tkA (i := 8) (v := ?vpr4_8_k23) rfl (Or.inl ⟨by first | rfl | kernel_rfl, ?hypr4_8_k23⟩) (by assumption) ?repr4_8_k23
        case hypr4_8_k23 => (intro u hSu; (first | (go_simp; done) | (go_simp; with_reducible rfl)))
        try simp only [nb1, nb2, nb3, Act.put, nb4, nb5, nb6]
        refine wpAnyH_done (by kernel_rfl) ?_ _
        obtain ⟨b0c0, b0c1, b0c2, b0f0, b0f1, b0f2⟩ := fac3 (x := x1) (HS.out.at 2 _ _ _ rfl)
        have b0l := blk_lt (HS.out.at 2 _ _ _ rfl)
        obtain ⟨b2c0, b2c1, b2c2, b2c3, b2c4, b2c5, b2f0, b2f1, b2f2, b2f3, b2f4, b2f5⟩ := fac6 (x := y1) (y := y2) (HS.out.at 0 _ _ _ rfl)
        have b2l := blk_lt (HS.out.at 0 _ _ _ rfl)
        have Ec0 := (HS.out.bel.cell (p := ⟨b, off + i * 7, none⟩) HBL.out).trans E0.out
        have Ec1 := (HS.out.bel.cell (p := ⟨b, off + i * 7 + 1, none⟩) HBL.out).trans E1.out
        have Ec2 := (HS.out.bel.cell (p := ⟨b, off + i * 7 + 2, none⟩) HBL.out).trans E2.out
        have Ec3 := (HS.out.bel.cell (p := ⟨b, off + i * 7 + 3, none⟩) HBL.out).trans E3.out
        have Ec4 := (HS.out.bel.cell (p := ⟨b, off + i * 7 + 4, none⟩) HBL.out).trans E4.out
        have Ec5 := (HS.out.bel.cell (p := ⟨b, off + i * 7 + 5, none⟩) HBL.out).trans E5.out
        have Ec6 := (HS.out.bel.cell (p := ⟨b, off + i * 7 + 6, none⟩) HBL.out).trans E6.out
        go_wp2_with fail
        clear b0c0 b0c1 b0c2 b0f0 b0f1 b0f2 b0l b2c0 b2c1 b2c2 b2c3 b2c4 b2c5 b2f0 b2f1 b2f2 b2f3 b2f4 b2f5 b2l Ec0 Ec1 Ec2 Ec3 Ec4 Ec5 Ec6
        generalize hW24 : ((((((w18).setCell _ _).setCell _ _).setCell _ _).setCell _ _).setCell _ _).setCell _ _ = W24 at *
        replace HS : Hid (Sx w W24 [(w2.heap.size, arr6 Ex Ey, 60), (w.heap.size + 1, #[.bool false, .slice none 0 0, .slice none 0 0, .bool false, .slice none 0 0, .slice none 0 0], 60), (w.heap.size, x1.arr, 45)] [(false, z17.val, (f : Rat)), (false, Ey.val, hi), (false, Ex.val, lo), (false, y2.val, (rtUp es t i).2), (false, y1.val, (rtUp es t i).1), (false, x1.val, t)]) := by subst hW24; exact (HS.out).st_RR 0 y1 y2 Ex Ey rfl
        clear hW24
        have EQ1 := Lib.hid (HF1.out.trans (if_pos (by rw [← HC18.out]; exact T22.out)))
        have EQ2 := Lib.hid (HF2.out.trans (if_pos (by rw [← HC18.out]; exact T22.out)))
        exact ⟨⟨i + 1, Ex, Ey, by have := HLT.out; omega, by go_num, Lib.hid ((((HS.out.bare).addQ (HS.out.q 5 _ _ rfl)).addQ (by rw [EQ1.out]; exact (HS.out.q 2 _ _ rfl))).addQ (by rw [EQ2.out]; exact (HS.out.q 1 _ _ rfl)))⟩, meas_up HLT.out⟩
      ·
        have t22 : decide (c18 ≤ 0) = false := decide_eq_false t22p
        have T22 := Lib.hid t22p
        clear t22p
        refine tkA (i := 8) (v := ?vpr4_8_k25) rfl (Or.inl ⟨by first | rfl | kernel_rfl, ?hypr4_8_k25⟩) (by assumption) ?repr4_8_k25
        case hypr4_8_k25 => (intro u hSu; (first | (go_simp; done) | (go_simp; with_reducible rfl)))
        try simp only [nb1, nb2, nb3, Act.put, nb4, nb5, nb6]
        refine wpAnyH_done (by kernel_rfl) ?_ _
        obtain ⟨b0c0, b0c1, b0c2, b0f0, b0f1, b0f2⟩ := fac3 (x := x1) (HS.out.at 2 _ _ _ rfl)
        have b0l := blk_lt (HS.out.at 2 _ _ _ rfl)
        have Ec0 := (HS.out.bel.cell (p := ⟨b, off + i * 7, none⟩) HBL.out).trans E0.out
        have Ec1 := (HS.out.bel.cell (p := ⟨b, off + i * 7 + 1, none⟩) HBL.out).trans E1.out
        have Ec2 := (HS.out.bel.cell (p := ⟨b, off + i * 7 + 2, none⟩) HBL.out).trans E2.out
        have Ec3 := (HS.out.bel.cell (p := ⟨b, off + i * 7 + 3, none⟩) HBL.out).trans E3.out
        have Ec4 := (HS.out.bel.cell (p := ⟨b, off + i * 7 + 4, none⟩) HBL.out).trans E4.out
        have Ec5 := (HS.out.bel.cell (p := ⟨b, off + i * 7 + 5, none⟩) HBL.out).trans E5.out
        have Ec6 := (HS.out.bel.cell (p := ⟨b, off + i * 7 + 6, none⟩) HBL.out).trans E6.out
        go_wp2_with fail
        clear b0c0 b0c1 b0c2 b0f0 b0f1 b0f2 b0l Ec0 Ec1 Ec2 Ec3 Ec4 Ec5 Ec6
        have EQ1 := Lib.hid (HF1.out.trans (if_neg (by rw [← HC18.out]; exact T22.out)))
        have EQ2 := Lib.hid (HF2.out.trans (if_neg (by rw [← HC18.out]; exact T22.out)))
        exact ⟨⟨i + 1, y1, y2, by have := HLT.out; omega, by go_num, Lib.hid ((((HS.out.bare).addQ (HS.out.q 5 _ _ rfl)).addQ (by rw [EQ1.out]; exact (HS.out.q 4 _ _ rfl))).addQ (by rw [EQ2.out]; exact (HS.out.q 3 _ _ rfl)))⟩, meas_up HLT.out⟩
    ·
      obtain rfl : i = es.length := by omega
      obtain ⟨b2c0, b2c1, b2c2, b2c3, b2c4, b2c5, b2f0, b2f1, b2f2, b2f3, b2f4, b2f5⟩ := fac6 (x := y1) (y := y2) (HS.out.at 0 _ _ _ rfl)
      have b2l := blk_lt (HS.out.at 0 _ _ _ rfl)
      have b1e := (HS.out.at 1 _ _ _ rfl)
      have b1c0 := blk_cell b1e 0 (.bool false) rfl
      have b1c1 := blk_cell b1e 1 (.slice none 0 0) rfl
      have b1c2 := blk_cell b1e 2 (.slice none 0 0) rfl
      have b1c3 := blk_cell b1e 3 (.bool false) rfl
      have b1c4 := blk_cell b1e 4 (.slice none 0 0) rfl
      have b1c5 := blk_cell b1e 5 (.slice none 0 0) rfl
      have b1f0 := blk_frozen b1e 0
      have b1f1 := blk_frozen b1e 1
      have b1f2 := blk_frozen b1e 2
      have b1f3 := blk_frozen b1e 3
      have b1f4 := blk_frozen b1e 4
      have b1f5 := blk_frozen b1e 5
      have b1l := blk_lt b1e
      clear b1e
      go_wp2_with fail
      clear b2c0 b2c1 b2c2 b2c3 b2c4 b2c5 b2f0 b2f1 b2f2 b2f3 b2f4 b2f5 b2l b1c0 b1c1 b1c2 b1c3 b1c4 b1c5 b1f0 b1f1 b1f2 b1f3 b1f4 b1f5 b1l
      generalize hW26 : ((((((wr).setCell _ _).setCell _ _).setCell _ _).setCell _ _).setCell _ _).setCell _ _ = W26 at *
      replace HS : Hid (Sx w W26 [(w2.heap.size, arr6 y1 y2, 60), (w.heap.size + 1, arr6 y1 y2, 60), (w.heap.size, x1.arr, 45)] [(false, y2.val, (rtUp es t es.length).2), (false, y1.val, (rtUp es t es.length).1), (false, x1.val, t)]) := by subst hW26; exact (HS.out).st_RR 1 r30 r30 y1 y2 rfl
      clear hW26
      obtain ⟨b1c0, b1c1, b1c2, b1c3, b1c4, b1c5, _⟩ := fac6 (x := y1) (y := y2) (HS.out.at 1 _ _ _ rfl)
      refine bodyPost_ret (v := .agg #[.bool y1.b, .slice y1.a y1.n y1.c, .slice y1.d y1.m y1.e, .bool y2.b, .slice y2.a y2.n y2.c, .slice y2.d y2.m y2.e]) (by simp [results, Tryz.results47, go_sem, b1c0, b1c1, b1c2, b1c3, b1c4, b1c5]) rfl ⟨_, rfl, (rngQ (HS.out.q 1 _ _ rfl) (HS.out.q 0 _ _ rfl)), HS.out.bel⟩
set_option maxRecDepth 100000 in
set_option maxHeartbeats 4000000 in
theorem qctable_any (es : List Ent) (vt : Value) (w : World) (ht : TabOf IsR w vt es) (hl : es.length ≤ 1000) (hI : entI es) (hZ : entS es) (hO : entO es) :
    Calls Tryz.prog 22 #[vt] w (RetInt (ctErr es) w) := by
  have HS := Lib.hid (Sx.init w)
  have HI := Lib.hid hI
  have HZ := Lib.hid hZ
  have HO := Lib.hid hO
  obtain ⟨ao, cap, rfl, hE⟩ := ht
  have HE := Lib.hid hE
  clear hE hI hZ hO
  by_cases h1 : es.length < 1
  ·
    have HR : Hid (ctErr es = 4) := by show _ = _; unfold ctErr; rw [if_pos (.inl h1)]
    have t1 : decide ((es.length : Int) < 1) = true := decide_eq_true (by omega)
    go_enter Tryz.func22, Tryz.ntmps22
    go_wp2_with fail
    go_ret
    exact ⟨by rw [HR.out] <;> rfl, HS.out.bel⟩
  by_cases h2 : 16 < es.length
  ·
    have HR : Hid (ctErr es = 4) := by show _ = _; unfold ctErr; rw [if_pos (.inr h2)]
    have t1 : decide ((es.length : Int) < 1) = false := decide_eq_false (by omega)
    have t2 : decide ((es.length : Int) > 16) = true := decide_eq_true (by omega)
    clear h1 h2
    go_enter Tryz.func22, Tryz.ntmps22
    go_wp2_with fail
    go_ret
    exact ⟨by rw [HR.out] <;> rfl, HS.out.bel⟩
  ·
    have HLN : Hid (¬ (es.length < 1 ∨ 16 < es.length)) := by show ¬ _; omega
    have t1 : decide ((es.length : Int) < 1) = false := decide_eq_false (by omega)
    have t2 : decide ((es.length : Int) > 16) = false := decide_eq_false (by omega)
    clear h1 h2
    go_enter Tryz.func22, Tryz.ntmps22
    go_wp2_with fail
    go_loopw [3] (fun u3 wr => ∃ (i : Nat), i ≤ es.length ∧ u3 = .int .i64 i ∧ Hid (cvErrs es i = 0) ∧ Hid (Sx w wr [] []))
      (fun u _ => es.length - (intOf u).toNat)
    case atStart => exact ⟨0, Nat.zero_le _, rfl, Lib.hid rfl, Lib.hid (HS.out.bare)⟩
    case round =>
      clear HS
      obtain ⟨i, hi, rfl, HOK, HS⟩ := hrel
      by_cases hlt : i < es.length
      ·
        have hlt' : (i : Int) < es.length := by omega
        have hge' : (0 : Int) ≤ i := by omega
        have HLT := Lib.hid hlt
        have HPI := Lib.hid (part_in (HO.out i hlt))
        obtain ⟨b, off, rfl, hbl, hEE⟩ := HE.out (by omega)
        have HBL := Lib.hid hbl
        clear hbl
        obtain ⟨Ex, Ey, Eg0, Eg1, Eg2, Eg3, Eg4, Eg5, Eg6, Eh1, Eh2⟩ := hEE i hlt
        have E0 := Lib.hid Eg0
        have E1 := Lib.hid Eg1
        have E2 := Lib.hid Eg2
        have E3 := Lib.hid Eg3
        have E4 := Lib.hid Eg4
        have E5 := Lib.hid Eg5
        have E6 := Lib.hid Eg6
        clear Eg0 Eg1 Eg2 Eg3 Eg4 Eg5 Eg6
        replace HS := Lib.hid ((HS.out.addQ (Eh1.below HS.out.bel)).addQ (Eh2.below HS.out.bel))
        clear Eh1 Eh2
        have HSZ := Lib.hid (HZ.out i)
        by_cases hp : 0 < i
        ·
          obtain ⟨j, hj⟩ : ∃ j, i = j + 1 := ⟨i - 1, by omega⟩
          have hjl : j < es.length := by omega
          obtain ⟨Dx, Dy, Dg0, Dg1, Dg2, Dg3, Dg4, Dg5, Dg6, Dh1, Dh2⟩ := hEE j hjl
          have D0 := Lib.hid Dg0
          have D1 := Lib.hid Dg1
          have D2 := Lib.hid Dg2
          have D3 := Lib.hid Dg3
          have D4 := Lib.hid Dg4
          have D5 := Lib.hid Dg5
          have D6 := Lib.hid Dg6
          clear Dg0 Dg1 Dg2 Dg3 Dg4 Dg5 Dg6
          replace HS := Lib.hid ((HS.out.addQ (Dh1.below HS.out.bel)).addQ (Dh2.below HS.out.bel))
          clear Dh1 Dh2
          have HF := Lib.hid (cvErr_s (es := es) hj)
          have HSY := Lib.hid (HZ.out j)
          have hw : IntKind.i64.wrap ((i : Int) - 1) = (j : Int) := (IntWalk.i64_in _ (by omega)).trans (by omega)
          have hj1 : (0 : Int) ≤ j := by omega
          have hj2 : (j : Int) < es.length := by omega
          have tp1 : decide ((i : Int) > 0) = true := decide_eq_true (by omega)
          have tp2 : decide (0 < i) = true := decide_eq_true hp
          have hpI : (0 : Int) < i := by omega
          clear hjl hj
          clear hEE hlt
          generalize (es.getD i (0, 0, 0)).1 = f at *
          generalize (es.getD i (0, 0, 0)).2.1 = lo at *
          generalize (es.getD i (0, 0, 0)).2.2 = hi at *
          generalize (es.getD j (0, 0, 0)).1 = fp at *
          generalize (es.getD j (0, 0, 0)).2.1 = lop at *
          generalize (es.getD j (0, 0, 0)).2.2 = hip at *
          go_wp2_with fail
          refine wp_region_held_drew (S := (fun w' => Sx w w' [] [])) (by kernel_rfl) ((HS.out.drew).bare) (fun hh => ?_)
          replace HS := Lib.hid HS.out.drew
          refine tkA (i := 0) (v := ?vpr1_0_k3) rfl (Or.inl ⟨by first | rfl | kernel_rfl, ?hypr1_0_k3⟩) (by assumption) ?repr1_0_k3
          case hypr1_0_k3 => (intro u hSu; (first | (go_simp; done) | (go_simp; with_reducible rfl)))
          try simp only [nb1, nb2, nb3, Act.put, nb4, nb5, nb6]
          refine tkA (i := 1) (v := ?vpr1_1_k5) rfl (Or.inl ⟨by first | rfl | kernel_rfl, ?hypr1_1_k5⟩) (by assumption) ?repr1_1_k5
          case hypr1_1_k5 => (intro u hSu; (first | (go_simp; done) | (go_simp; with_reducible rfl)))
          try simp only [nb1, nb2, nb3, Act.put, nb4, nb5, nb6]
          refine tkA (i := 2) (v := ?vpr1_2_k7) rfl (Or.inl ⟨by first | rfl | kernel_rfl, ?hypr1_2_k7⟩) (by assumption) ?repr1_2_k7
          case hypr1_2_k7 => (intro u hSu; (first | (go_simp; done) | (go_simp; with_reducible rfl)))
          try simp only [nb1, nb2, nb3, Act.put, nb4, nb5, nb6]
          refine tkA (i := 3) (v := ?vpr1_3_k9) rfl (Or.inl ⟨by first | rfl | kernel_rfl, ?hypr1_3_k9⟩) (by assumption) ?repr1_3_k9
          case hypr1_3_k9 => (intro u hSu; (first | (go_simp; done) | (go_simp; with_reducible rfl)))
          try simp only [nb1, nb2, nb3, Act.put, nb4, nb5, nb6]
          refine tkA (i := 4) (v := ?vpr1_4_k11) rfl (Or.inl ⟨by first | rfl | kernel_rfl, ?hypr1_4_k11⟩) (by assumption) ?repr1_4_k11
          case hypr1_4_k11 => (intro u hSu; (first | (go_simp; done) | (go_simp; with_reducible rfl)))
          try simp only [nb1, nb2, nb3, Act.put, nb4, nb5, nb6]
          refine tkA (i := 5) (v := ?vpr1_5_k13) rfl (Or.inl ⟨by first | rfl | kernel_rfl, ?hypr1_5_k13⟩) (by assumption) ?repr1_5_k13
          case hypr1_5_k13 => (intro u hSu; (first | (go_simp; done) | (go_simp; with_reducible rfl)))
          try simp only [nb1, nb2, nb3, Act.put, nb4, nb5, nb6]
          refine tkA (i := 6) (v := ?vpr1_6_k15) rfl (Or.inl ⟨by first | rfl | kernel_rfl, ?hypr1_6_k15⟩) (by assumption) ?repr1_6_k15
          case hypr1_6_k15 => (intro u hSu; (first | (go_simp; done) | (go_simp; with_reducible rfl)))
          try simp only [nb1, nb2, nb3, Act.put, nb4, nb5, nb6]
          refine tkA (i := 7) (v := ?vpr1_7_k17) rfl (Or.inl ⟨by first | rfl | kernel_rfl, ?hypr1_7_k17⟩) (by assumption) ?repr1_7_k17
          case hypr1_7_k17 => (intro u hSu; (try dsimp only at hSu); have Ec0 := (hSu.bel.cell (p := ⟨b, off + i * 7, none⟩) HBL.out).trans E0.out; have Ec1 := (hSu.bel.cell (p := ⟨b, off + i * 7 + 1, none⟩) HBL.out).trans E1.out; have Ec2 := (hSu.bel.cell (p := ⟨b, off + i * 7 + 2, none⟩) HBL.out).trans E2.out; have Ec3 := (hSu.bel.cell (p := ⟨b, off + i * 7 + 3, none⟩) HBL.out).trans E3.out; have Ec4 := (hSu.bel.cell (p := ⟨b, off + i * 7 + 4, none⟩) HBL.out).trans E4.out; have Ec5 := (hSu.bel.cell (p := ⟨b, off + i * 7 + 5, none⟩) HBL.out).trans E5.out; have Ec6 := (hSu.bel.cell (p := ⟨b, off + i * 7 + 6, none⟩) HBL.out).trans E6.out; clear hSu; (first | (go_simp; done) | (go_simp; with_reducible rfl)))
          try simp only [nb1, nb2, nb3, Act.put, nb4, nb5, nb6]
          refine tkA (i := 8) (v := ?vpr1_8_k19) rfl (Or.inl ⟨by first | rfl | kernel_rfl, ?hypr1_8_k19⟩) (by assumption) ?repr1_8_k19
          case hypr1_8_k19 => (intro u hSu; (first | (go_simp; done) | (go_simp; with_reducible rfl)))
          try simp only [nb1, nb2, nb3, Act.put, nb4, nb5, nb6]
          refine tkA (i := 9) (v := ?vpr1_9_k21) rfl (Or.inl ⟨by first | rfl | kernel_rfl, ?hypr1_9_k21⟩) (by assumption) ?repr1_9_k21
          case hypr1_9_k21 => (intro u hSu; (first | (go_simp; done) | (go_simp; with_reducible rfl)))
          try simp only [nb1, nb2, nb3, Act.put, nb4, nb5, nb6]
          refine tkA (i := 10) (v := ?vpr1_10_k23) rfl (Or.inl ⟨by first | rfl | kernel_rfl, ?hypr1_10_k23⟩) (by assumption) ?repr1_10_k23
          case hypr1_10_k23 => (intro u hSu; (first | (go_simp; done) | (go_simp; with_reducible rfl)))
          try simp only [nb1, nb2, nb3, Act.put, nb4, nb5, nb6]
          refine tkA (i := 11) (v := ?vpr1_11_k25) rfl (Or.inl ⟨by first | rfl | kernel_rfl, ?hypr1_11_k25⟩) (by assumption) ?repr1_11_k25
          case hypr1_11_k25 => (intro u hSu; (first | (go_simp; done) | (go_simp; with_reducible rfl)))
          try simp only [nb1, nb2, nb3, Act.put, nb4, nb5, nb6]
          refine tkA (i := 12) (v := ?vpr1_12_k27) rfl (Or.inl ⟨by first | rfl | kernel_rfl, ?hypr1_12_k27⟩) (by assumption) ?repr1_12_k27
          case hypr1_12_k27 => (intro u hSu; (first | (go_simp; done) | (go_simp; with_reducible rfl)))
          try simp only [nb1, nb2, nb3, Act.put, nb4, nb5, nb6]
          refine tkA (i := 13) (v := ?vpr1_13_k29) rfl (Or.inl ⟨by first | rfl | kernel_rfl, ?hypr1_13_k29⟩) (by assumption) ?repr1_13_k29
          case hypr1_13_k29 => (intro u hSu; (try dsimp only at hSu); have Dc0 := (hSu.bel.cell (p := ⟨b, off + j * 7, none⟩) HBL.out).trans D0.out; have Dc1 := (hSu.bel.cell (p := ⟨b, off + j * 7 + 1, none⟩) HBL.out).trans D1.out; have Dc2 := (hSu.bel.cell (p := ⟨b, off + j * 7 + 2, none⟩) HBL.out).trans D2.out; have Dc3 := (hSu.bel.cell (p := ⟨b, off + j * 7 + 3, none⟩) HBL.out).trans D3.out; have Dc4 := (hSu.bel.cell (p := ⟨b, off + j * 7 + 4, none⟩) HBL.out).trans D4.out; have Dc5 := (hSu.bel.cell (p := ⟨b, off + j * 7 + 5, none⟩) HBL.out).trans D5.out; have Dc6 := (hSu.bel.cell (p := ⟨b, off + j * 7 + 6, none⟩) HBL.out).trans D6.out; clear hSu; (first | (go_simp; done) | (go_simp; with_reducible rfl)))
          try simp only [nb1, nb2, nb3, Act.put, nb4, nb5, nb6]
          by_cases t31p : f ≤ fp
          ·
            have t31 : decide (f ≤ fp) = true := decide_eq_true t31p
            have T31 := Lib.hid t31p
            clear t31p
            refine tkA (i := 14) (v := ?vpr1_14_k32) rfl (Or.inl ⟨by first | rfl | kernel_rfl, ?hypr1_14_k32⟩) (by assumption) ?repr1_14_k32
            case hypr1_14_k32 => (intro u hSu; (first | (go_simp; done) | (go_simp; with_reducible rfl)))
            try simp only [nb1, nb2, nb3, Act.put, nb4, nb5, nb6]
            refine tkA (i := 15) (v := ?vpr1_15_k34) rfl (Or.inl ⟨by first | rfl | kernel_rfl, ?hypr1_15_k34⟩) (by assumption) ?repr1_15_k34
            case hypr1_15_k34 => (intro u hSu; (first | (go_simp; done) | (go_simp; with_reducible rfl)))
            try simp only [nb1, nb2, nb3, Act.put, nb4, nb5, nb6]
            refine wpAnyH_done (by kernel_rfl) ?_ _
            have Ec0 := (HS.out.bel.cell (p := ⟨b, off + i * 7, none⟩) HBL.out).trans E0.out
            have Ec1 := (HS.out.bel.cell (p := ⟨b, off + i * 7 + 1, none⟩) HBL.out).trans E1.out
            have Ec2 := (HS.out.bel.cell (p := ⟨b, off + i * 7 + 2, none⟩) HBL.out).trans E2.out
            have Ec3 := (HS.out.bel.cell (p := ⟨b, off + i * 7 + 3, none⟩) HBL.out).trans E3.out
            have Ec4 := (HS.out.bel.cell (p := ⟨b, off + i * 7 + 4, none⟩) HBL.out).trans E4.out
            have Ec5 := (HS.out.bel.cell (p := ⟨b, off + i * 7 + 5, none⟩) HBL.out).trans E5.out
            have Ec6 := (HS.out.bel.cell (p := ⟨b, off + i * 7 + 6, none⟩) HBL.out).trans E6.out
            have Dc0 := (HS.out.bel.cell (p := ⟨b, off + j * 7, none⟩) HBL.out).trans D0.out
            have Dc1 := (HS.out.bel.cell (p := ⟨b, off + j * 7 + 1, none⟩) HBL.out).trans D1.out
            have Dc2 := (HS.out.bel.cell (p := ⟨b, off + j * 7 + 2, none⟩) HBL.out).trans D2.out
            have Dc3 := (HS.out.bel.cell (p := ⟨b, off + j * 7 + 3, none⟩) HBL.out).trans D3.out
            have Dc4 := (HS.out.bel.cell (p := ⟨b, off + j * 7 + 4, none⟩) HBL.out).trans D4.out
            have Dc5 := (HS.out.bel.cell (p := ⟨b, off + j * 7 + 5, none⟩) HBL.out).trans D5.out
            have Dc6 := (HS.out.bel.cell (p := ⟨b, off + j * 7 + 6, none⟩) HBL.out).trans D6.out
            go_wp2_with fail
            clear Ec0 Ec1 Ec2 Ec3 Ec4 Ec5 Ec6 Dc0 Dc1 Dc2 Dc3 Dc4 Dc5 Dc6
            have HR : Hid (ctErr es = 7) := cvErrs_at HOK.out (by first | (rw [HF.out, HPI.out]; simp only [t31, Bool.and_true, Bool.true_and, Bool.and_false, Bool.false_and, Bool.or_true, Bool.true_or, Bool.or_false, Bool.false_or, Bool.not_true, Bool.not_false, cond_true, cond_false]) | (rw [HF.out, HPI.out]; simp [t31])) (by omega) HLT.out HLN.out
            go_ret
            exact ⟨by rw [HR.out] <;> rfl, HS.out.bel⟩
          ·
            have t31 : decide (f ≤ fp) = false := decide_eq_false t31p
            have T31 := Lib.hid t31p
            clear t31p
            refine tkA (i := 14) (v := ?vpr1_14_k35) rfl (Or.inl ⟨by first | rfl | kernel_rfl, ?hypr1_14_k35⟩) (by assumption) ?repr1_14_k35
            case hypr1_14_k35 => (intro u hSu; (first | (go_simp; done) | (go_simp; with_reducible rfl)))
            try simp only [nb1, nb2, nb3, Act.put, nb4, nb5, nb6]
            refine tkA (i := 15) (v := ?vpr1_15_k37) rfl (Or.inl ⟨by first | rfl | kernel_rfl, ?hypr1_15_k37⟩) (by assumption) ?repr1_15_k37
            case hypr1_15_k37 => (intro u hSu; (first | (go_simp; done) | (go_simp; with_reducible rfl)))
            try simp only [nb1, nb2, nb3, Act.put, nb4, nb5, nb6]
            refine wpAnyH_done (by kernel_rfl) ?_ _
            have Ec0 := (HS.out.bel.cell (p := ⟨b, off + i * 7, none⟩) HBL.out).trans E0.out
            have Ec1 := (HS.out.bel.cell (p := ⟨b, off + i * 7 + 1, none⟩) HBL.out).trans E1.out
            have Ec2 := (HS.out.bel.cell (p := ⟨b, off + i * 7 + 2, none⟩) HBL.out).trans E2.out
            have Ec3 := (HS.out.bel.cell (p := ⟨b, off + i * 7 + 3, none⟩) HBL.out).trans E3.out
            have Ec4 := (HS.out.bel.cell (p := ⟨b, off + i * 7 + 4, none⟩) HBL.out).trans E4.out
            have Ec5 := (HS.out.bel.cell (p := ⟨b, off + i * 7 + 5, none⟩) HBL.out).trans E5.out
            have Ec6 := (HS.out.bel.cell (p := ⟨b, off + i * 7 + 6, none⟩) HBL.out).trans E6.out
            have Dc0 := (HS.out.bel.cell (p := ⟨b, off + j * 7, none⟩) HBL.out).trans D0.out
            have Dc1 := (HS.out.bel.cell (p := ⟨b, off + j * 7 + 1, none⟩) HBL.out).trans D1.out
            have Dc2 := (HS.out.bel.cell (p := ⟨b, off + j * 7 + 2, none⟩) HBL.out).trans D2.out
            have Dc3 := (HS.out.bel.cell (p := ⟨b, off + j * 7 + 3, none⟩) HBL.out).trans D3.out
            have Dc4 := (HS.out.bel.cell (p := ⟨b, off + j * 7 + 4, none⟩) HBL.out).trans D4.out
            have Dc5 := (HS.out.bel.cell (p := ⟨b, off + j * 7 + 5, none⟩) HBL.out).trans D5.out
            have Dc6 := (HS.out.bel.cell (p := ⟨b, off + j * 7 + 6, none⟩) HBL.out).trans D6.out
            go_wp2_with fail
            clear Ec0 Ec1 Ec2 Ec3 Ec4 Ec5 Ec6 Dc0 Dc1 Dc2 Dc3 Dc4 Dc5 Dc6
            refine wp_region_held_drew (S := (fun w' => Sx w w' [] [])) (by kernel_rfl) ((HS.out.drew).bare) (fun hh => ?_)
            replace HS := Lib.hid HS.out.drew
            refine tkA (i := 0) (v := ?vpr38_0_k40) rfl (Or.inl ⟨by first | rfl | kernel_rfl, ?hypr38_0_k40⟩) (by assumption) ?repr38_0_k40
            case hypr38_0_k40 => (intro u hSu; (first | (go_simp; done) | (go_simp; with_reducible rfl)))
            try simp only [nb1, nb2, nb3, Act.put, nb4, nb5, nb6]
            refine tkA (i := 1) (v := ?vpr38_1_k42) rfl (Or.inl ⟨by first | rfl | kernel_rfl, ?hypr38_1_k42⟩) (by assumption) ?repr38_1_k42
            case hypr38_1_k42 => (intro u hSu; (first | (go_simp; done) | (go_simp; with_reducible rfl)))
            try simp only [nb1, nb2, nb3, Act.put, nb4, nb5, nb6]
            refine tkA (i := 2) (v := ?vpr38_2_k44) rfl (Or.inl ⟨by first | rfl | kernel_rfl, ?hypr38_2_k44⟩) (by assumption) ?repr38_2_k44
            case hypr38_2_k44 => (intro u hSu; (first | (go_simp; done) | (go_simp; with_reducible rfl)))
            try simp only [nb1, nb2, nb3, Act.put, nb4, nb5, nb6]
            refine tkA (i := 3) (v := ?vpr38_3_k46) rfl (Or.inl ⟨by first | rfl | kernel_rfl, ?hypr38_3_k46⟩) (by assumption) ?repr38_3_k46
            case hypr38_3_k46 => (intro u hSu; (first | (go_simp; done) | (go_simp; with_reducible rfl)))
            try simp only [nb1, nb2, nb3, Act.put, nb4, nb5, nb6]
            refine tkA (i := 4) (v := ?vpr38_4_k48) rfl (Or.inl ⟨by first | rfl | kernel_rfl, ?hypr38_4_k48⟩) (by assumption) ?repr38_4_k48
            case hypr38_4_k48 => (intro u hSu; (try dsimp only at hSu); have Ec0 := (hSu.bel.cell (p := ⟨b, off + i * 7, none⟩) HBL.out).trans E0.out; have Ec1 := (hSu.bel.cell (p := ⟨b, off + i * 7 + 1, none⟩) HBL.out).trans E1.out; have Ec2 := (hSu.bel.cell (p := ⟨b, off + i * 7 + 2, none⟩) HBL.out).trans E2.out; have Ec3 := (hSu.bel.cell (p := ⟨b, off + i * 7 + 3, none⟩) HBL.out).trans E3.out; have Ec4 := (hSu.bel.cell (p := ⟨b, off + i * 7 + 4, none⟩) HBL.out).trans E4.out; have Ec5 := (hSu.bel.cell (p := ⟨b, off + i * 7 + 5, none⟩) HBL.out).trans E5.out; have Ec6 := (hSu.bel.cell (p := ⟨b, off + i * 7 + 6, none⟩) HBL.out).trans E6.out; clear hSu; (first | (go_simp; done) | (go_simp; with_reducible rfl)))
            try simp only [nb1, nb2, nb3, Act.put, nb4, nb5, nb6]
            refine rdA (i := 5) rfl (fun K hK => ?_)
            go_simp
            go_wp2_with (go_at_call 53; (with_reducible refine (unit_any _).mono ?_); rintro e w49 ⟨v49, rfl, ⟨z49a, z49b, rfl, hv49, hw49⟩, hb49⟩)
            refine hK.out _ _ (Sx.below hh hb49) (fun hh => ?_)
            clear hK K
            try simp only [nb1, nb2, nb3, Act.put, nb4, nb5, nb6]
            replace HS := Lib.hid (HS.out.below hb49)
            clear hb49
            replace HS := Lib.hid (HS.out.addQ hv49)
            clear hv49
            replace HS := Lib.hid (HS.out.addQ hw49)
            clear hw49
            refine rdA (i := 6) rfl (fun K hK => ?_)
            go_simp
            cases t50 : inB lo hi with
            | true =>
              have a52 := HS.out.q 5 _ _ rfl
              have a53 := HS.out.q 4 _ _ rfl
              have a54 := HS.out.q 1 _ _ rfl
              have a55 := HS.out.q 0 _ _ rfl
              go_wp2_with (go_at_call 52; (with_reducible refine (qinB_any lo hi _ _ _ (rngQ a52 a53) (rngQ a54 a55) (szQ_mono (szQ_of HSZ.out.1) (by omega)) (szQ_mono (szQ_of HSZ.out.2) (by omega))).mono ?_); rw [t50]; rintro e w51 ⟨rfl, hb51⟩)
              refine hK.out _ _ (Sx.below hh hb51) (fun hh => ?_)
              clear hK K
              try simp only [nb1, nb2, nb3, Act.put, nb4, nb5, nb6]
              replace HS := Lib.hid (HS.out.below hb51)
              clear hb51 a52 a53 a54 a55
              refine tkA (i := 7) (v := ?vpr38_7_k57) rfl (Or.inl ⟨by first | rfl | kernel_rfl, ?hypr38_7_k57⟩) (by assumption) ?repr38_7_k57
              case hypr38_7_k57 => (intro u hSu; (first | (go_simp; done) | (go_simp; with_reducible rfl)))
              try simp only [nb1, nb2, nb3, Act.put, nb4, nb5, nb6]
              refine wpAnyH_done (by kernel_rfl) ?_ _
              have Ec0 := (HS.out.bel.cell (p := ⟨b, off + i * 7, none⟩) HBL.out).trans E0.out
              have Ec1 := (HS.out.bel.cell (p := ⟨b, off + i * 7 + 1, none⟩) HBL.out).trans E1.out
              have Ec2 := (HS.out.bel.cell (p := ⟨b, off + i * 7 + 2, none⟩) HBL.out).trans E2.out
              have Ec3 := (HS.out.bel.cell (p := ⟨b, off + i * 7 + 3, none⟩) HBL.out).trans E3.out
              have Ec4 := (HS.out.bel.cell (p := ⟨b, off + i * 7 + 4, none⟩) HBL.out).trans E4.out
              have Ec5 := (HS.out.bel.cell (p := ⟨b, off + i * 7 + 5, none⟩) HBL.out).trans E5.out
              have Ec6 := (HS.out.bel.cell (p := ⟨b, off + i * 7 + 6, none⟩) HBL.out).trans E6.out
              go_wp2_with fail
              clear Ec0 Ec1 Ec2 Ec3 Ec4 Ec5 Ec6
              refine wp_region_held_drew (S := (fun w' => Sx w w' [] [])) (by kernel_rfl) ((HS.out.drew).bare) (fun hh => ?_)
              replace HS := Lib.hid HS.out.drew
              refine tkA (i := 0) (v := ?vpr58_0_k60) rfl (Or.inl ⟨by first | rfl | kernel_rfl, ?hypr58_0_k60⟩) (by assumption) ?repr58_0_k60
              case hypr58_0_k60 => (intro u hSu; (first | (go_simp; done) | (go_simp; with_reducible rfl)))
              try simp only [nb1, nb2, nb3, Act.put, nb4, nb5, nb6]
              refine tkA (i := 1) (v := ?vpr58_1_k62) rfl (Or.inl ⟨by first | rfl | kernel_rfl, ?hypr58_1_k62⟩) (by assumption) ?repr58_1_k62
              case hypr58_1_k62 => (intro u hSu; (first | (go_simp; done) | (go_simp; with_reducible rfl)))
              try simp only [nb1, nb2, nb3, Act.put, nb4, nb5, nb6]
              refine tkA (i := 2) (v := ?vpr58_2_k64) rfl (Or.inl ⟨by first | rfl | kernel_rfl, ?hypr58_2_k64⟩) (by assumption) ?repr58_2_k64
              case hypr58_2_k64 => (intro u hSu; (first | (go_simp; done) | (go_simp; with_reducible rfl)))
              try simp only [nb1, nb2, nb3, Act.put, nb4, nb5, nb6]
              refine tkA (i := 3) (v := ?vpr58_3_k66) rfl (Or.inl ⟨by first | rfl | kernel_rfl, ?hypr58_3_k66⟩) (by assumption) ?repr58_3_k66
              case hypr58_3_k66 => (intro u hSu; (first | (go_simp; done) | (go_simp; with_reducible rfl)))
              try simp only [nb1, nb2, nb3, Act.put, nb4, nb5, nb6]
              refine tkA (i := 4) (v := ?vpr58_4_k68) rfl (Or.inl ⟨by first | rfl | kernel_rfl, ?hypr58_4_k68⟩) (by assumption) ?repr58_4_k68
              case hypr58_4_k68 => (intro u hSu; (first | (go_simp; done) | (go_simp; with_reducible rfl)))
              try simp only [nb1, nb2, nb3, Act.put, nb4, nb5, nb6]
              refine tkA (i := 5) (v := ?vpr58_5_k70) rfl (Or.inl ⟨by first | rfl | kernel_rfl, ?hypr58_5_k70⟩) (by assumption) ?repr58_5_k70
              case hypr58_5_k70 => (intro u hSu; (first | (go_simp; done) | (go_simp; with_reducible rfl)))
              try simp only [nb1, nb2, nb3, Act.put, nb4, nb5, nb6]
              refine tkA (i := 6) (v := ?vpr58_6_k72) rfl (Or.inl ⟨by first | rfl | kernel_rfl, ?hypr58_6_k72⟩) (by assumption) ?repr58_6_k72
              case hypr58_6_k72 => (intro u hSu; (first | (go_simp; done) | (go_simp; with_reducible rfl)))
              try simp only [nb1, nb2, nb3, Act.put, nb4, nb5, nb6]
              refine tkA (i := 7) (v := ?vpr58_7_k74) rfl (Or.inl ⟨by first | rfl | kernel_rfl, ?hypr58_7_k74⟩) (by assumption) ?repr58_7_k74
              case hypr58_7_k74 => (intro u hSu; (first | (go_simp; done) | (go_simp; with_reducible rfl)))
              try simp only [nb1, nb2, nb3, Act.put, nb4, nb5, nb6]
              refine tkA (i := 8) (v := ?vpr58_8_k76) rfl (Or.inl ⟨by first | rfl | kernel_rfl, ?hypr58_8_k76⟩) (by assumption) ?repr58_8_k76
              case hypr58_8_k76 => (intro u hSu; (try dsimp only at hSu); have Ec0 := (hSu.bel.cell (p := ⟨b, off + i * 7, none⟩) HBL.out).trans E0.out; have Ec1 := (hSu.bel.cell (p := ⟨b, off + i * 7 + 1, none⟩) HBL.out).trans E1.out; have Ec2 := (hSu.bel.cell (p := ⟨b, off + i * 7 + 2, none⟩) HBL.out).trans E2.out; have Ec3 := (hSu.bel.cell (p := ⟨b, off + i * 7 + 3, none⟩) HBL.out).trans E3.out; have Ec4 := (hSu.bel.cell (p := ⟨b, off + i * 7 + 4, none⟩) HBL.out).trans E4.out; have Ec5 := (hSu.bel.cell (p := ⟨b, off + i * 7 + 5, none⟩) HBL.out).trans E5.out; have Ec6 := (hSu.bel.cell (p := ⟨b, off + i * 7 + 6, none⟩) HBL.out).trans E6.out; clear hSu; (first | (go_simp; done) | (go_simp; with_reducible rfl)))
              try simp only [nb1, nb2, nb3, Act.put, nb4, nb5, nb6]
              refine tkA (i := 9) (v := ?vpr58_9_k78) rfl (Or.inl ⟨by first | rfl | kernel_rfl, ?hypr58_9_k78⟩) (by assumption) ?repr58_9_k78
              case hypr58_9_k78 => (intro u hSu; (first | (go_simp; done) | (go_simp; with_reducible rfl)))
              try simp only [nb1, nb2, nb3, Act.put, nb4, nb5, nb6]
              refine tkA (i := 10) (v := ?vpr58_10_k80) rfl (Or.inl ⟨by first | rfl | kernel_rfl, ?hypr58_10_k80⟩) (by assumption) ?repr58_10_k80
              case hypr58_10_k80 => (intro u hSu; (first | (go_simp; done) | (go_simp; with_reducible rfl)))
              try simp only [nb1, nb2, nb3, Act.put, nb4, nb5, nb6]
              refine tkA (i := 11) (v := ?vpr58_11_k82) rfl (Or.inl ⟨by first | rfl | kernel_rfl, ?hypr58_11_k82⟩) (by assumption) ?repr58_11_k82
              case hypr58_11_k82 => (intro u hSu; (first | (go_simp; done) | (go_simp; with_reducible rfl)))
              try simp only [nb1, nb2, nb3, Act.put, nb4, nb5, nb6]
              refine tkA (i := 12) (v := ?vpr58_12_k84) rfl (Or.inl ⟨by first | rfl | kernel_rfl, ?hypr58_12_k84⟩) (by assumption) ?repr58_12_k84
              case hypr58_12_k84 => (intro u hSu; (first | (go_simp; done) | (go_simp; with_reducible rfl)))
              try simp only [nb1, nb2, nb3, Act.put, nb4, nb5, nb6]
              refine tkA (i := 13) (v := ?vpr58_13_k86) rfl (Or.inl ⟨by first | rfl | kernel_rfl, ?hypr58_13_k86⟩) (by assumption) ?repr58_13_k86
              case hypr58_13_k86 => (intro u hSu; (first | (go_simp; done) | (go_simp; with_reducible rfl)))
              try simp only [nb1, nb2, nb3, Act.put, nb4, nb5, nb6]
              refine tkA (i := 14) (v := ?vpr58_14_k88) rfl (Or.inl ⟨by first | rfl | kernel_rfl, ?hypr58_14_k88⟩) (by assumption) ?repr58_14_k88
              case hypr58_14_k88 => (intro u hSu; (first | (go_simp; done) | (go_simp; with_reducible rfl)))
              try simp only [nb1, nb2, nb3, Act.put, nb4, nb5, nb6]
              refine tkA (i := 15) (v := ?vpr58_15_k90) rfl (Or.inl ⟨by first | rfl | kernel_rfl, ?hypr58_15_k90⟩) (by assumption) ?repr58_15_k90
              case hypr58_15_k90 => (intro u hSu; (try dsimp only at hSu); have Dc0 := (hSu.bel.cell (p := ⟨b, off + j * 7, none⟩) HBL.out).trans D0.out; have Dc1 := (hSu.bel.cell (p := ⟨b, off + j * 7 + 1, none⟩) HBL.out).trans D1.out; have Dc2 := (hSu.bel.cell (p := ⟨b, off + j * 7 + 2, none⟩) HBL.out).trans D2.out; have Dc3 := (hSu.bel.cell (p := ⟨b, off + j * 7 + 3, none⟩) HBL.out).trans D3.out; have Dc4 := (hSu.bel.cell (p := ⟨b, off + j * 7 + 4, none⟩) HBL.out).trans D4.out; have Dc5 := (hSu.bel.cell (p := ⟨b, off + j * 7 + 5, none⟩) HBL.out).trans D5.out; have Dc6 := (hSu.bel.cell (p := ⟨b, off + j * 7 + 6, none⟩) HBL.out).trans D6.out; clear hSu; (first | (go_simp; done) | (go_simp; with_reducible rfl)))
              try simp only [nb1, nb2, nb3, Act.put, nb4, nb5, nb6]
              refine rdA (i := 16) rfl (fun K hK => ?_)
              go_simp
              obtain ⟨c91, hc91⟩ : ∃ c, c = cmpR lo lop := ⟨_, rfl⟩
              have HC91 := Lib.hid hc91
              clear hc91
              have a92 := HS.out.q 5 _ _ rfl
              have a93 := HS.out.q 3 _ _ rfl
              go_wp2_with (go_at_call 38; (with_reducible refine (qcmp_any lo lop _ _ _ a92 a93 (szQ_mono (szQ_of HSZ.out.1) (by omega)) (szQ_mono (szQ_of HSY.out.1) (by omega))).mono ?_); rw [← HC91.out]; rintro e w91 ⟨rfl, hb91⟩)
              refine hK.out _ _ (Sx.below hh hb91) (fun hh => ?_)
              clear hK K
              try simp only [nb1, nb2, nb3, Act.put, nb4, nb5, nb6]
              replace HS := Lib.hid (HS.out.below hb91)
              clear hb91 a92 a93
              by_cases t95p : c91 < 0
              ·
                have t95 : decide (c91 < 0) = true := decide_eq_true t95p
                have T95 := Lib.hid t95p
                clear t95p
                refine tkA (i := 17) (v := ?vpr58_17_k96) rfl (Or.inl ⟨by first | rfl | kernel_rfl, ?hypr58_17_k96⟩) (by assumption) ?repr58_17_k96
                case hypr58_17_k96 => (intro u hSu; (first | (go_simp; done) | (go_simp; with_reducible rfl)))
                try simp only [nb1, nb2, nb3, Act.put, nb4, nb5, nb6]
                refine tkA (i := 18) (v := ?vpr58_18_k98) rfl (Or.inl ⟨by first | rfl | kernel_rfl, ?hypr58_18_k98⟩) (by assumption) ?repr58_18_k98
                case hypr58_18_k98 => (intro u hSu; (first | (go_simp; done) | (go_simp; with_reducible rfl)))
                try simp only [nb1, nb2, nb3, Act.put, nb4, nb5, nb6]
                refine tkA (i := 19) (v := undef) rfl (Or.inr ⟨by first | rfl | kernel_rfl, rfl⟩) (by assumption) ?repr58_19_k99
                try simp only [nb1, nb2, nb3, Act.put, nb4, nb5, nb6]
                refine tkA (i := 20) (v := undef) rfl (Or.inr ⟨by first | rfl | kernel_rfl, rfl⟩) (by assumption) ?repr58_20_k100
                try simp only [nb1, nb2, nb3, Act.put, nb4, nb5, nb6]
                refine tkA (i := 21) (v := undef) rfl (Or.inr ⟨by first | rfl | kernel_rfl, rfl⟩) (by assumption) ?repr58_21_k101
                try simp only [nb1, nb2, nb3, Act.put, nb4, nb5, nb6]
                refine tkA (i := 22) (v := undef) rfl (Or.inr ⟨by first | rfl | kernel_rfl, rfl⟩) (by assumption) ?repr58_22_k102
                try simp only [nb1, nb2, nb3, Act.put, nb4, nb5, nb6]
                refine tkA (i := 23) (v := undef) rfl (Or.inr ⟨by first | rfl | kernel_rfl, rfl⟩) (by assumption) ?repr58_23_k103
                try simp only [nb1, nb2, nb3, Act.put, nb4, nb5, nb6]
                refine tkA (i := 24) (v := undef) rfl (Or.inr ⟨by first | rfl | kernel_rfl, rfl⟩) (by assumption) ?repr58_24_k104
                try simp only [nb1, nb2, nb3, Act.put, nb4, nb5, nb6]
                refine tkA (i := 25) (v := undef) rfl (Or.inr ⟨by first | rfl | kernel_rfl, rfl⟩) (by assumption) ?repr58_25_k105
                try simp only [nb1, nb2, nb3, Act.put, nb4, nb5, nb6]
                refine tkA (i := 26) (v := undef) rfl (Or.inr ⟨by first | rfl | kernel_rfl, rfl⟩) (by assumption) ?repr58_26_k106
                try simp only [nb1, nb2, nb3, Act.put, nb4, nb5, nb6]
                refine tkA (i := 27) (v := undef) rfl (Or.inr ⟨by first | rfl | kernel_rfl, rfl⟩) (by assumption) ?repr58_27_k107
                try simp only [nb1, nb2, nb3, Act.put, nb4, nb5, nb6]
                refine tkA (i := 28) (v := undef) rfl (Or.inr ⟨by first | rfl | kernel_rfl, rfl⟩) (by assumption) ?repr58_28_k108
                try simp only [nb1, nb2, nb3, Act.put, nb4, nb5, nb6]
                refine tkA (i := 29) (v := undef) rfl (Or.inr ⟨by first | rfl | kernel_rfl, rfl⟩) (by assumption) ?repr58_29_k109
                try simp only [nb1, nb2, nb3, Act.put, nb4, nb5, nb6]
                refine tkA (i := 30) (v := undef) rfl (Or.inr ⟨by first | rfl | kernel_rfl, rfl⟩) (by assumption) ?repr58_30_k110
                try simp only [nb1, nb2, nb3, Act.put, nb4, nb5, nb6]
                refine tkA (i := 31) (v := undef) rfl (Or.inr ⟨by first | rfl | kernel_rfl, rfl⟩) (by assumption) ?repr58_31_k111
                try simp only [nb1, nb2, nb3, Act.put, nb4, nb5, nb6]
                refine tkA (i := 32) (v := undef) rfl (Or.inr ⟨by first | rfl | kernel_rfl, rfl⟩) (by assumption) ?repr58_32_k112
                try simp only [nb1, nb2, nb3, Act.put, nb4, nb5, nb6]
                refine tkA (i := 33) (v := undef) rfl (Or.inr ⟨by first | rfl | kernel_rfl, rfl⟩) (by assumption) ?repr58_33_k113
                try simp only [nb1, nb2, nb3, Act.put, nb4, nb5, nb6]
                refine tkA (i := 34) (v := ?vpr58_34_k115) rfl (Or.inl ⟨by first | rfl | kernel_rfl, ?hypr58_34_k115⟩) (by assumption) ?repr58_34_k115
                case hypr58_34_k115 => (intro u hSu; (first | (go_simp; done) | (go_simp; with_reducible rfl)))
                try simp only [nb1, nb2, nb3, Act.put, nb4, nb5, nb6]
                refine tkA (i := 35) (v := ?vpr58_35_k117) rfl (Or.inl ⟨by first | rfl | kernel_rfl, ?hypr58_35_k117⟩) (by assumption) ?repr58_35_k117
                case hypr58_35_k117 => (intro u hSu; (first | (go_simp; done) | (go_simp; with_reducible rfl)))
                try simp only [nb1, nb2, nb3, Act.put, nb4, nb5, nb6]
                refine wpAnyH_done (by kernel_rfl) ?_ _
                have Ec0 := (HS.out.bel.cell (p := ⟨b, off + i * 7, none⟩) HBL.out).trans E0.out
                have Ec1 := (HS.out.bel.cell (p := ⟨b, off + i * 7 + 1, none⟩) HBL.out).trans E1.out
                have Ec2 := (HS.out.bel.cell (p := ⟨b, off + i * 7 + 2, none⟩) HBL.out).trans E2.out
                have Ec3 := (HS.out.bel.cell (p := ⟨b, off + i * 7 + 3, none⟩) HBL.out).trans E3.out
                have Ec4 := (HS.out.bel.cell (p := ⟨b, off + i * 7 + 4, none⟩) HBL.out).trans E4.out
                have Ec5 := (HS.out.bel.cell (p := ⟨b, off + i * 7 + 5, none⟩) HBL.out).trans E5.out
                have Ec6 := (HS.out.bel.cell (p := ⟨b, off + i * 7 + 6, none⟩) HBL.out).trans E6.out
                have Dc0 := (HS.out.bel.cell (p := ⟨b, off + j * 7, none⟩) HBL.out).trans D0.out
                have Dc1 := (HS.out.bel.cell (p := ⟨b, off + j * 7 + 1, none⟩) HBL.out).trans D1.out
                have Dc2 := (HS.out.bel.cell (p := ⟨b, off + j * 7 + 2, none⟩) HBL.out).trans D2.out
                have Dc3 := (HS.out.bel.cell (p := ⟨b, off + j * 7 + 3, none⟩) HBL.out).trans D3.out
                have Dc4 := (HS.out.bel.cell (p := ⟨b, off + j * 7 + 4, none⟩) HBL.out).trans D4.out
                have Dc5 := (HS.out.bel.cell (p := ⟨b, off + j * 7 + 5, none⟩) HBL.out).trans D5.out
                have Dc6 := (HS.out.bel.cell (p := ⟨b, off + j * 7 + 6, none⟩) HBL.out).trans D6.out
                go_wp2_with fail
                clear Ec0 Ec1 Ec2 Ec3 Ec4 Ec5 Ec6 Dc0 Dc1 Dc2 Dc3 Dc4 Dc5 Dc6
                have HR : Hid (ctErr es = 1) := cvErrs_at HOK.out (by first | (rw [HF.out, HPI.out]; simp only [← HC91.out, t31, t50, t95, Bool.and_true, Bool.true_and, Bool.and_false, Bool.false_and, Bool.or_true, Bool.true_or, Bool.or_false, Bool.false_or, Bool.not_true, Bool.not_false, cond_true, cond_false]) | (rw [HF.out, HPI.out]; simp [← HC91.out, t31, t50, t95])) (by omega) HLT.out HLN.out
                go_ret
                exact ⟨by rw [HR.out] <;> rfl, HS.out.bel⟩
              ·
                have t95 : decide (c91 < 0) = false := decide_eq_false t95p
                have T95 := Lib.hid t95p
                clear t95p
                refine tkA (i := 17) (v := ?vpr58_17_k118) rfl (Or.inl ⟨by first | rfl | kernel_rfl, ?hypr58_17_k118⟩) (by assumption) ?repr58_17_k118
                case hypr58_17_k118 => (intro u hSu; (first | (go_simp; done) | (go_simp; with_reducible rfl)))
                try simp only [nb1, nb2, nb3, Act.put, nb4, nb5, nb6]
                refine tkA (i := 18) (v := ?vpr58_18_k120) rfl (Or.inl ⟨by first | rfl | kernel_rfl, ?hypr58_18_k120⟩) (by assumption) ?repr58_18_k120
                case hypr58_18_k120 => (intro u hSu; (first | (go_simp; done) | (go_simp; with_reducible rfl)))
                try simp only [nb1, nb2, nb3, Act.put, nb4, nb5, nb6]
                refine tkA (i := 19) (v := ?vpr58_19_k122) rfl (Or.inl ⟨by first | rfl | kernel_rfl, ?hypr58_19_k122⟩) (by assumption) ?repr58_19_k122
                case hypr58_19_k122 => (intro u hSu; (first | (go_simp; done) | (go_simp; with_reducible rfl)))
                try simp only [nb1, nb2, nb3, Act.put, nb4, nb5, nb6]
                refine tkA (i := 20) (v := ?vpr58_20_k124) rfl (Or.inl ⟨by first | rfl | kernel_rfl, ?hypr58_20_k124⟩) (by assumption) ?repr58_20_k124
                case hypr58_20_k124 => (intro u hSu; (first | (go_simp; done) | (go_simp; with_reducible rfl)))
                try simp only [nb1, nb2, nb3, Act.put, nb4, nb5, nb6]
                refine tkA (i := 21) (v := ?vpr58_21_k126) rfl (Or.inl ⟨by first | rfl | kernel_rfl, ?hypr58_21_k126⟩) (by assumption) ?repr58_21_k126
                case hypr58_21_k126 => (intro u hSu; (first | (go_simp; done) | (go_simp; with_reducible rfl)))
                try simp only [nb1, nb2, nb3, Act.put, nb4, nb5, nb6]
                refine tkA (i := 22) (v := ?vpr58_22_k128) rfl (Or.inl ⟨by first | rfl | kernel_rfl, ?hypr58_22_k128⟩) (by assumption) ?repr58_22_k128
                case hypr58_22_k128 => (intro u hSu; (first | (go_simp; done) | (go_simp; with_reducible rfl)))
                try simp only [nb1, nb2, nb3, Act.put, nb4, nb5, nb6]
                refine tkA (i := 23) (v := ?vpr58_23_k130) rfl (Or.inl ⟨by first | rfl | kernel_rfl, ?hypr58_23_k130⟩) (by assumption) ?repr58_23_k130
                case hypr58_23_k130 => (intro u hSu; (first | (go_simp; done) | (go_simp; with_reducible rfl)))
                try simp only [nb1, nb2, nb3, Act.put, nb4, nb5, nb6]
                refine tkA (i := 24) (v := ?vpr58_24_k132) rfl (Or.inl ⟨by first | rfl | kernel_rfl, ?hypr58_24_k132⟩) (by assumption) ?repr58_24_k132
                case hypr58_24_k132 => (intro u hSu; (try dsimp only at hSu); have Ec0 := (hSu.bel.cell (p := ⟨b, off + i * 7, none⟩) HBL.out).trans E0.out; have Ec1 := (hSu.bel.cell (p := ⟨b, off + i * 7 + 1, none⟩) HBL.out).trans E1.out; have Ec2 := (hSu.bel.cell (p := ⟨b, off + i * 7 + 2, none⟩) HBL.out).trans E2.out; have Ec3 := (hSu.bel.cell (p := ⟨b, off + i * 7 + 3, none⟩) HBL.out).trans E3.out; have Ec4 := (hSu.bel.cell (p := ⟨b, off + i * 7 + 4, none⟩) HBL.out).trans E4.out; have Ec5 := (hSu.bel.cell (p := ⟨b, off + i * 7 + 5, none⟩) HBL.out).trans E5.out; have Ec6 := (hSu.bel.cell (p := ⟨b, off + i * 7 + 6, none⟩) HBL.out).trans E6.out; clear hSu; (first | (go_simp; done) | (go_simp; with_reducible rfl)))
                try simp only [nb1, nb2, nb3, Act.put, nb4, nb5, nb6]
                refine tkA (i := 25) (v := ?vpr58_25_k134) rfl (Or.inl ⟨by first | rfl | kernel_rfl, ?hypr58_25_k134⟩) (by assumption) ?repr58_25_k134
                case hypr58_25_k134 => (intro u hSu; (first | (go_simp; done) | (go_simp; with_reducible rfl)))
                try simp only [nb1, nb2, nb3, Act.put, nb4, nb5, nb6]
                refine tkA (i := 26) (v := ?vpr58_26_k136) rfl (Or.inl ⟨by first | rfl | kernel_rfl, ?hypr58_26_k136⟩) (by assumption) ?repr58_26_k136
                case hypr58_26_k136 => (intro u hSu; (first | (go_simp; done) | (go_simp; with_reducible rfl)))
                try simp only [nb1, nb2, nb3, Act.put, nb4, nb5, nb6]
                refine tkA (i := 27) (v := ?vpr58_27_k138) rfl (Or.inl ⟨by first | rfl | kernel_rfl, ?hypr58_27_k138⟩) (by assumption) ?repr58_27_k138
                case hypr58_27_k138 => (intro u hSu; (first | (go_simp; done) | (go_simp; with_reducible rfl)))
                try simp only [nb1, nb2, nb3, Act.put, nb4, nb5, nb6]
                refine tkA (i := 28) (v := ?vpr58_28_k140) rfl (Or.inl ⟨by first | rfl | kernel_rfl, ?hypr58_28_k140⟩) (by assumption) ?repr58_28_k140
                case hypr58_28_k140 => (intro u hSu; (first | (go_simp; done) | (go_simp; with_reducible rfl)))
                try simp only [nb1, nb2, nb3, Act.put, nb4, nb5, nb6]
                refine tkA (i := 29) (v := ?vpr58_29_k142) rfl (Or.inl ⟨by first | rfl | kernel_rfl, ?hypr58_29_k142⟩) (by assumption) ?repr58_29_k142
                case hypr58_29_k142 => (intro u hSu; (first | (go_simp; done) | (go_simp; with_reducible rfl)))
                try simp only [nb1, nb2, nb3, Act.put, nb4, nb5, nb6]
                refine tkA (i := 30) (v := ?vpr58_30_k144) rfl (Or.inl ⟨by first | rfl | kernel_rfl, ?hypr58_30_k144⟩) (by assumption) ?repr58_30_k144
                case hypr58_30_k144 => (intro u hSu; (first | (go_simp; done) | (go_simp; with_reducible rfl)))
                try simp only [nb1, nb2, nb3, Act.put, nb4, nb5, nb6]
                refine tkA (i := 31) (v := ?vpr58_31_k146) rfl (Or.inl ⟨by first | rfl | kernel_rfl, ?hypr58_31_k146⟩) (by assumption) ?repr58_31_k146
                case hypr58_31_k146 => (intro u hSu; (try dsimp only at hSu); have Dc0 := (hSu.bel.cell (p := ⟨b, off + j * 7, none⟩) HBL.out).trans D0.out; have Dc1 := (hSu.bel.cell (p := ⟨b, off + j * 7 + 1, none⟩) HBL.out).trans D1.out; have Dc2 := (hSu.bel.cell (p := ⟨b, off + j * 7 + 2, none⟩) HBL.out).trans D2.out; have Dc3 := (hSu.bel.cell (p := ⟨b, off + j * 7 + 3, none⟩) HBL.out).trans D3.out; have Dc4 := (hSu.bel.cell (p := ⟨b, off + j * 7 + 4, none⟩) HBL.out).trans D4.out; have Dc5 := (hSu.bel.cell (p := ⟨b, off + j * 7 + 5, none⟩) HBL.out).trans D5.out; have Dc6 := (hSu.bel.cell (p := ⟨b, off + j * 7 + 6, none⟩) HBL.out).trans D6.out; clear hSu; (first | (go_simp; done) | (go_simp; with_reducible rfl)))
                try simp only [nb1, nb2, nb3, Act.put, nb4, nb5, nb6]
                refine rdA (i := 32) rfl (fun K hK => ?_)
                go_simp
                obtain ⟨c147, hc147⟩ : ∃ c, c = cmpR hi hip := ⟨_, rfl⟩
                have HC147 := Lib.hid hc147
                clear hc147
                have a148 := HS.out.q 4 _ _ rfl
                have a149 := HS.out.q 2 _ _ rfl
                go_wp2_with (go_at_call 38; (with_reducible refine (qcmp_any hi hip _ _ _ a148 a149 (szQ_mono (szQ_of HSZ.out.2) (by omega)) (szQ_mono (szQ_of HSY.out.2) (by omega))).mono ?_); rw [← HC147.out]; rintro e w147 ⟨rfl, hb147⟩)
                refine hK.out _ _ (Sx.below hh hb147) (fun hh => ?_)
                clear hK K
                try simp only [nb1, nb2, nb3, Act.put, nb4, nb5, nb6]
                replace HS := Lib.hid (HS.out.below hb147)
                clear hb147 a148 a149
                by_cases t151p : c147 < 0
                ·
                  have t151 : decide (c147 < 0) = true := decide_eq_true t151p
                  have T151 := Lib.hid t151p
                  clear t151p
                  refine tkA (i := 33) (v := ?vpr58_33_k152) rfl (Or.inl ⟨by first | rfl | kernel_rfl, ?hypr58_33_k152⟩) (by assumption) ?repr58_33_k152
                  case hypr58_33_k152 => (intro u hSu; (first | (go_simp; done) | (go_simp; with_reducible rfl)))
                  try simp only [nb1, nb2, nb3, Act.put, nb4, nb5, nb6]
                  refine tkA (i := 34) (v := ?vpr58_34_k154) rfl (Or.inl ⟨by first | rfl | kernel_rfl, ?hypr58_34_k154⟩) (by assumption) ?repr58_34_k154
                  case hypr58_34_k154 => (intro u hSu; (first | (go_simp; done) | (go_simp; with_reducible rfl)))
                  try simp only [nb1, nb2, nb3, Act.put, nb4, nb5, nb6]
                  refine tkA (i := 35) (v := ?vpr58_35_k156) rfl (Or.inl ⟨by first | rfl | kernel_rfl, ?hypr58_35_k156⟩) (by assumption) ?repr58_35_k156
                  case hypr58_35_k156 => (intro u hSu; (first | (go_simp; done) | (go_simp; with_reducible rfl)))
                  try simp only [nb1, nb2, nb3, Act.put, nb4, nb5, nb6]
                  refine wpAnyH_done (by kernel_rfl) ?_ _
                  have Ec0 := (HS.out.bel.cell (p := ⟨b, off + i * 7, none⟩) HBL.out).trans E0.out
                  have Ec1 := (HS.out.bel.cell (p := ⟨b, off + i * 7 + 1, none⟩) HBL.out).trans E1.out
                  have Ec2 := (HS.out.bel.cell (p := ⟨b, off + i * 7 + 2, none⟩) HBL.out).trans E2.out
                  have Ec3 := (HS.out.bel.cell (p := ⟨b, off + i * 7 + 3, none⟩) HBL.out).trans E3.out
                  have Ec4 := (HS.out.bel.cell (p := ⟨b, off + i * 7 + 4, none⟩) HBL.out).trans E4.out
                  have Ec5 := (HS.out.bel.cell (p := ⟨b, off + i * 7 + 5, none⟩) HBL.out).trans E5.out
                  have Ec6 := (HS.out.bel.cell (p := ⟨b, off + i * 7 + 6, none⟩) HBL.out).trans E6.out
                  have Dc0 := (HS.out.bel.cell (p := ⟨b, off + j * 7, none⟩) HBL.out).trans D0.out
                  have Dc1 := (HS.out.bel.cell (p := ⟨b, off + j * 7 + 1, none⟩) HBL.out).trans D1.out
                  have Dc2 := (HS.out.bel.cell (p := ⟨b, off + j * 7 + 2, none⟩) HBL.out).trans D2.out
                  have Dc3 := (HS.out.bel.cell (p := ⟨b, off + j * 7 + 3, none⟩) HBL.out).trans D3.out
                  have Dc4 := (HS.out.bel.cell (p := ⟨b, off + j * 7 + 4, none⟩) HBL.out).trans D4.out
                  have Dc5 := (HS.out.bel.cell (p := ⟨b, off + j * 7 + 5, none⟩) HBL.out).trans D5.out
                  have Dc6 := (HS.out.bel.cell (p := ⟨b, off + j * 7 + 6, none⟩) HBL.out).trans D6.out
                  go_wp2_with fail
                  clear Ec0 Ec1 Ec2 Ec3 Ec4 Ec5 Ec6 Dc0 Dc1 Dc2 Dc3 Dc4 Dc5 Dc6
                  have HR : Hid (ctErr es = 1) := cvErrs_at HOK.out (by first | (rw [HF.out, HPI.out]; simp only [← HC91.out, ← HC147.out, t31, t50, t95, t151, Bool.and_true, Bool.true_and, Bool.and_false, Bool.false_and, Bool.or_true, Bool.true_or, Bool.or_false, Bool.false_or, Bool.not_true, Bool.not_false, cond_true, cond_false]) | (rw [HF.out, HPI.out]; simp [← HC91.out, ← HC147.out, t31, t50, t95, t151])) (by omega) HLT.out HLN.out
                  go_ret
                  exact ⟨by rw [HR.out] <;> rfl, HS.out.bel⟩
                ·
                  have t151 : decide (c147 < 0) = false := decide_eq_false t151p
                  have T151 := Lib.hid t151p
                  clear t151p
                  refine tkA (i := 33) (v := ?vpr58_33_k157) rfl (Or.inl ⟨by first | rfl | kernel_rfl, ?hypr58_33_k157⟩) (by assumption) ?repr58_33_k157
                  case hypr58_33_k157 => (intro u hSu; (first | (go_simp; done) | (go_simp; with_reducible rfl)))
                  try simp only [nb1, nb2, nb3, Act.put, nb4, nb5, nb6]
                  refine tkA (i := 34) (v := ?vpr58_34_k159) rfl (Or.inl ⟨by first | rfl | kernel_rfl, ?hypr58_34_k159⟩) (by assumption) ?repr58_34_k159
                  case hypr58_34_k159 => (intro u hSu; (first | (go_simp; done) | (go_simp; with_reducible rfl)))
                  try simp only [nb1, nb2, nb3, Act.put, nb4, nb5, nb6]
                  refine tkA (i := 35) (v := ?vpr58_35_k161) rfl (Or.inl ⟨by first | rfl | kernel_rfl, ?hypr58_35_k161⟩) (by assumption) ?repr58_35_k161
                  case hypr58_35_k161 => (intro u hSu; (first | (go_simp; done) | (go_simp; with_reducible rfl)))
                  try simp only [nb1, nb2, nb3, Act.put, nb4, nb5, nb6]
                  refine wpAnyH_done (by kernel_rfl) ?_ _
                  have Ec0 := (HS.out.bel.cell (p := ⟨b, off + i * 7, none⟩) HBL.out).trans E0.out
                  have Ec1 := (HS.out.bel.cell (p := ⟨b, off + i * 7 + 1, none⟩) HBL.out).trans E1.out
                  have Ec2 := (HS.out.bel.cell (p := ⟨b, off + i * 7 + 2, none⟩) HBL.out).trans E2.out
                  have Ec3 := (HS.out.bel.cell (p := ⟨b, off + i * 7 + 3, none⟩) HBL.out).trans E3.out
                  have Ec4 := (HS.out.bel.cell (p := ⟨b, off + i * 7 + 4, none⟩) HBL.out).trans E4.out
                  have Ec5 := (HS.out.bel.cell (p := ⟨b, off + i * 7 + 5, none⟩) HBL.out).trans E5.out
                  have Ec6 := (HS.out.bel.cell (p := ⟨b, off + i * 7 + 6, none⟩) HBL.out).trans E6.out
                  have Dc0 := (HS.out.bel.cell (p := ⟨b, off + j * 7, none⟩) HBL.out).trans D0.out
                  have Dc1 := (HS.out.bel.cell (p := ⟨b, off + j * 7 + 1, none⟩) HBL.out).trans D1.out
                  have Dc2 := (HS.out.bel.cell (p := ⟨b, off + j * 7 + 2, none⟩) HBL.out).trans D2.out
                  have Dc3 := (HS.out.bel.cell (p := ⟨b, off + j * 7 + 3, none⟩) HBL.out).trans D3.out
                  have Dc4 := (HS.out.bel.cell (p := ⟨b, off + j * 7 + 4, none⟩) HBL.out).trans D4.out
                  have Dc5 := (HS.out.bel.cell (p := ⟨b, off + j * 7 + 5, none⟩) HBL.out).trans D5.out
                  have Dc6 := (HS.out.bel.cell (p := ⟨b, off + j * 7 + 6, none⟩) HBL.out).trans D6.out
                  go_wp2_with fail
                  clear Ec0 Ec1 Ec2 Ec3 Ec4 Ec5 Ec6 Dc0 Dc1 Dc2 Dc3 Dc4 Dc5 Dc6
                  exact ⟨⟨i + 1, by have := HLT.out; omega, by go_num, Lib.hid (cvErrs_next HOK.out (by first | (rw [HF.out, HPI.out]; simp only [← HC91.out, ← HC147.out, t31, t50, t95, t151, Bool.and_true, Bool.true_and, Bool.and_false, Bool.false_and, Bool.or_true, Bool.true_or, Bool.or_false, Bool.false_or, Bool.not_true, Bool.not_false, cond_true, cond_false]) | (rw [HF.out, HPI.out]; simp [← HC91.out, ← HC147.out, t31, t50, t95, t151]))), Lib.hid (HS.out.bare)⟩, meas_up HLT.out⟩
            | false =>
              have a163 := HS.out.q 5 _ _ rfl
              have a164 := HS.out.q 4 _ _ rfl
              have a165 := HS.out.q 1 _ _ rfl
              have a166 := HS.out.q 0 _ _ rfl
              go_wp2_with (go_at_call 52; (with_reducible refine (qinB_any lo hi _ _ _ (rngQ a163 a164) (rngQ a165 a166) (szQ_mono (szQ_of HSZ.out.1) (by omega)) (szQ_mono (szQ_of HSZ.out.2) (by omega))).mono ?_); rw [t50]; rintro e w162 ⟨rfl, hb162⟩)
              refine hK.out _ _ (Sx.below hh hb162) (fun hh => ?_)
              clear hK K
              try simp only [nb1, nb2, nb3, Act.put, nb4, nb5, nb6]
              replace HS := Lib.hid (HS.out.below hb162)
              clear hb162 a163 a164 a165 a166
              refine tkA (i := 7) (v := ?vpr38_7_k168) rfl (Or.inl ⟨by first | rfl | kernel_rfl, ?hypr38_7_k168⟩) (by assumption) ?repr38_7_k168
              case hypr38_7_k168 => (intro u hSu; (first | (go_simp; done) | (go_simp; with_reducible rfl)))
              try simp only [nb1, nb2, nb3, Act.put, nb4, nb5, nb6]
              refine wpAnyH_done (by kernel_rfl) ?_ _
              have Ec0 := (HS.out.bel.cell (p := ⟨b, off + i * 7, none⟩) HBL.out).trans E0.out
              have Ec1 := (HS.out.bel.cell (p := ⟨b, off + i * 7 + 1, none⟩) HBL.out).trans E1.out
              have Ec2 := (HS.out.bel.cell (p := ⟨b, off + i * 7 + 2, none⟩) HBL.out).trans E2.out
              have Ec3 := (HS.out.bel.cell (p := ⟨b, off + i * 7 + 3, none⟩) HBL.out).trans E3.out
              have Ec4 := (HS.out.bel.cell (p := ⟨b, off + i * 7 + 4, none⟩) HBL.out).trans E4.out
              have Ec5 := (HS.out.bel.cell (p := ⟨b, off + i * 7 + 5, none⟩) HBL.out).trans E5.out
              have Ec6 := (HS.out.bel.cell (p := ⟨b, off + i * 7 + 6, none⟩) HBL.out).trans E6.out
              go_wp2_with fail
              clear Ec0 Ec1 Ec2 Ec3 Ec4 Ec5 Ec6
              have HR : Hid (ctErr es = 1) := cvErrs_at HOK.out (by first | (rw [HF.out, HPI.out]; simp only [t31, t50, Bool.and_true, Bool.true_and, Bool.and_false, Bool.false_and, Bool.or_true, Bool.true_or, Bool.or_false, Bool.false_or, Bool.not_true, Bool.not_false, cond_true, cond_false]) | (rw [HF.out, HPI.out]; simp [t31, t50])) (by omega) HLT.out HLN.out
              go_ret
              exact ⟨by rw [HR.out] <;> rfl, HS.out.bel⟩
        ·
          have HF := Lib.hid (cvErr_0 (es := es) hp)
          have tp1 : decide ((i : Int) > 0) = false := decide_eq_false (by omega)
          have tp2 : decide (0 < i) = false := decide_eq_false hp
          have hpI : ¬ (0 : Int) < i := by omega
          clear hEE hlt hp
          generalize (es.getD i (0, 0, 0)).1 = f at *
          generalize (es.getD i (0, 0, 0)).2.1 = lo at *
          generalize (es.getD i (0, 0, 0)).2.2 = hi at *
          go_wp2_with fail
          refine wp_region_held_drew (S := (fun w' => Sx w w' [] [])) (by kernel_rfl) ((HS.out.drew).bare) (fun hh => ?_)
          replace HS := Lib.hid HS.out.drew
          refine tkA (i := 0) (v := ?vpr169_0_k171) rfl (Or.inl ⟨by first | rfl | kernel_rfl, ?hypr169_0_k171⟩) (by assumption) ?repr169_0_k171
          case hypr169_0_k171 => (intro u hSu; (first | (go_simp; done) | (go_simp; with_reducible rfl)))
          try simp only [nb1, nb2, nb3, Act.put, nb4, nb5, nb6]
          refine tkA (i := 1) (v := ?vpr169_1_k173) rfl (Or.inl ⟨by first | rfl | kernel_rfl, ?hypr169_1_k173⟩) (by assumption) ?repr169_1_k173
          case hypr169_1_k173 => (intro u hSu; (first | (go_simp; done) | (go_simp; with_reducible rfl)))
          try simp only [nb1, nb2, nb3, Act.put, nb4, nb5, nb6]
          refine tkA (i := 2) (v := ?vpr169_2_k175) rfl (Or.inl ⟨by first | rfl | kernel_rfl, ?hypr169_2_k175⟩) (by assumption) ?repr169_2_k175
          case hypr169_2_k175 => (intro u hSu; (first | (go_simp; done) | (go_simp; with_reducible rfl)))
          try simp only [nb1, nb2, nb3, Act.put, nb4, nb5, nb6]
          refine tkA (i := 3) (v := undef) rfl (Or.inr ⟨by first | rfl | kernel_rfl, rfl⟩) (by assumption) ?repr169_3_k176
          try simp only [nb1, nb2, nb3, Act.put, nb4, nb5, nb6]
          refine tkA (i := 4) (v := undef) rfl (Or.inr ⟨by first | rfl | kernel_rfl, rfl⟩) (by assumption) ?repr169_4_k177
          try simp only [nb1, nb2, nb3, Act.put, nb4, nb5, nb6]
          refine tkA (i := 5) (v := undef) rfl (Or.inr ⟨by first | rfl | kernel_rfl, rfl⟩) (by assumption) ?repr169_5_k178
          try simp only [nb1, nb2, nb3, Act.put, nb4, nb5, nb6]
          refine tkA (i := 6) (v := undef) rfl (Or.inr ⟨by first | rfl | kernel_rfl, rfl⟩) (by assumption) ?repr169_6_k179
          try simp only [nb1, nb2, nb3, Act.put, nb4, nb5, nb6]
          refine tkA (i := 7) (v := undef) rfl (Or.inr ⟨by first | rfl | kernel_rfl, rfl⟩) (by assumption) ?repr169_7_k180
          try simp only [nb1, nb2, nb3, Act.put, nb4, nb5, nb6]
          refine tkA (i := 8) (v := undef) rfl (Or.inr ⟨by first | rfl | kernel_rfl, rfl⟩) (by assumption) ?repr169_8_k181
          try simp only [nb1, nb2, nb3, Act.put, nb4, nb5, nb6]
          refine tkA (i := 9) (v := undef) rfl (Or.inr ⟨by first | rfl | kernel_rfl, rfl⟩) (by assumption) ?repr169_9_k182
          try simp only [nb1, nb2, nb3, Act.put, nb4, nb5, nb6]
          refine tkA (i := 10) (v := undef) rfl (Or.inr ⟨by first | rfl | kernel_rfl, rfl⟩) (by assumption) ?repr169_10_k183
          try simp only [nb1, nb2, nb3, Act.put, nb4, nb5, nb6]
          refine tkA (i := 11) (v := undef) rfl (Or.inr ⟨by first | rfl | kernel_rfl, rfl⟩) (by assumption) ?repr169_11_k184
          try simp only [nb1, nb2, nb3, Act.put, nb4, nb5, nb6]
          refine tkA (i := 12) (v := undef) rfl (Or.inr ⟨by first | rfl | kernel_rfl, rfl⟩) (by assumption) ?repr169_12_k185
          try simp only [nb1, nb2, nb3, Act.put, nb4, nb5, nb6]
          refine tkA (i := 13) (v := undef) rfl (Or.inr ⟨by first | rfl | kernel_rfl, rfl⟩) (by assumption) ?repr169_13_k186
          try simp only [nb1, nb2, nb3, Act.put, nb4, nb5, nb6]
          refine tkA (i := 14) (v := undef) rfl (Or.inr ⟨by first | rfl | kernel_rfl, rfl⟩) (by assumption) ?repr169_14_k187
          try simp only [nb1, nb2, nb3, Act.put, nb4, nb5, nb6]
          refine tkA (i := 15) (v := ?vpr169_15_k189) rfl (Or.inl ⟨by first | rfl | kernel_rfl, ?hypr169_15_k189⟩) (by assumption) ?repr169_15_k189
          case hypr169_15_k189 => (intro u hSu; (first | (go_simp; done) | (go_simp; with_reducible rfl)))
          try simp only [nb1, nb2, nb3, Act.put, nb4, nb5, nb6]
          refine wpAnyH_done (by kernel_rfl) ?_ _
          go_wp2_with fail
          refine wp_region_held_drew (S := (fun w' => Sx w w' [] [])) (by kernel_rfl) ((HS.out.drew).bare) (fun hh => ?_)
          replace HS := Lib.hid HS.out.drew
          refine tkA (i := 0) (v := ?vpr190_0_k192) rfl (Or.inl ⟨by first | rfl | kernel_rfl, ?hypr190_0_k192⟩) (by assumption) ?repr190_0_k192
          case hypr190_0_k192 => (intro u hSu; (first | (go_simp; done) | (go_simp; with_reducible rfl)))
          try simp only [nb1, nb2, nb3, Act.put, nb4, nb5, nb6]
          refine tkA (i := 1) (v := ?vpr190_1_k194) rfl (Or.inl ⟨by first | rfl | kernel_rfl, ?hypr190_1_k194⟩) (by assumption) ?repr190_1_k194
          case hypr190_1_k194 => (intro u hSu; (first | (go_simp; done) | (go_simp; with_reducible rfl)))
          try simp only [nb1, nb2, nb3, Act.put, nb4, nb5, nb6]
          refine tkA (i := 2) (v := ?vpr190_2_k196) rfl (Or.inl ⟨by first | rfl | kernel_rfl, ?hypr190_2_k196⟩) (by assumption) ?repr190_2_k196
          case hypr190_2_k196 => (intro u hSu; (first | (go_simp; done) | (go_simp; with_reducible rfl)))
          try simp only [nb1, nb2, nb3, Act.put, nb4, nb5, nb6]
          refine tkA (i := 3) (v := ?vpr190_3_k198) rfl (Or.inl ⟨by first | rfl | kernel_rfl, ?hypr190_3_k198⟩) (by assumption) ?repr190_3_k198
          case hypr190_3_k198 => (intro u hSu; (first | (go_simp; done) | (go_simp; with_reducible rfl)))
          try simp only [nb1, nb2, nb3, Act.put, nb4, nb5, nb6]
          refine tkA (i := 4) (v := ?vpr190_4_k200) rfl (Or.inl ⟨by first | rfl | kernel_rfl, ?hypr190_4_k200⟩) (by assumption) ?repr190_4_k200
          case hypr190_4_k200 => (intro u hSu; (try dsimp only at hSu); have Ec0 := (hSu.bel.cell (p := ⟨b, off + i * 7, none⟩) HBL.out).trans E0.out; have Ec1 := (hSu.bel.cell (p := ⟨b, off + i * 7 + 1, none⟩) HBL.out).trans E1.out; have Ec2 := (hSu.bel.cell (p := ⟨b, off + i * 7 + 2, none⟩) HBL.out).trans E2.out; have Ec3 := (hSu.bel.cell (p := ⟨b, off + i * 7 + 3, none⟩) HBL.out).trans E3.out; have Ec4 := (hSu.bel.cell (p := ⟨b, off + i * 7 + 4, none⟩) HBL.out).trans E4.out; have Ec5 := (hSu.bel.cell (p := ⟨b, off + i * 7 + 5, none⟩) HBL.out).trans E5.out; have Ec6 := (hSu.bel.cell (p := ⟨b, off + i * 7 + 6, none⟩) HBL.out).trans E6.out; clear hSu; (first | (go_simp; done) | (go_simp; with_reducible rfl)))
          try simp only [nb1, nb2, nb3, Act.put, nb4, nb5, nb6]
          refine rdA (i := 5) rfl (fun K hK => ?_)
          go_simp
          go_wp2_with (go_at_call 53; (with_reducible refine (unit_any _).mono ?_); rintro e w201 ⟨v201, rfl, ⟨z201a, z201b, rfl, hv201, hw201⟩, hb201⟩)
          refine hK.out _ _ (Sx.below hh hb201) (fun hh => ?_)
          clear hK K
          try simp only [nb1, nb2, nb3, Act.put, nb4, nb5, nb6]
          replace HS := Lib.hid (HS.out.below hb201)
          clear hb201
          replace HS := Lib.hid (HS.out.addQ hv201)
          clear hv201
          replace HS := Lib.hid (HS.out.addQ hw201)
          clear hw201
          refine rdA (i := 6) rfl (fun K hK => ?_)
          go_simp
          cases t202 : inB lo hi with
          | true =>
            have a204 := HS.out.q 3 _ _ rfl
            have a205 := HS.out.q 2 _ _ rfl
            have a206 := HS.out.q 1 _ _ rfl
            have a207 := HS.out.q 0 _ _ rfl
            go_wp2_with (go_at_call 52; (with_reducible refine (qinB_any lo hi _ _ _ (rngQ a204 a205) (rngQ a206 a207) (szQ_mono (szQ_of HSZ.out.1) (by omega)) (szQ_mono (szQ_of HSZ.out.2) (by omega))).mono ?_); rw [t202]; rintro e w203 ⟨rfl, hb203⟩)
            refine hK.out _ _ (Sx.below hh hb203) (fun hh => ?_)
            clear hK K
            try simp only [nb1, nb2, nb3, Act.put, nb4, nb5, nb6]
            replace HS := Lib.hid (HS.out.below hb203)
            clear hb203 a204 a205 a206 a207
            refine tkA (i := 7) (v := ?vpr190_7_k209) rfl (Or.inl ⟨by first | rfl | kernel_rfl, ?hypr190_7_k209⟩) (by assumption) ?repr190_7_k209
            case hypr190_7_k209 => (intro u hSu; (first | (go_simp; done) | (go_simp; with_reducible rfl)))
            try simp only [nb1, nb2, nb3, Act.put, nb4, nb5, nb6]
            refine wpAnyH_done (by kernel_rfl) ?_ _
            have Ec0 := (HS.out.bel.cell (p := ⟨b, off + i * 7, none⟩) HBL.out).trans E0.out
            have Ec1 := (HS.out.bel.cell (p := ⟨b, off + i * 7 + 1, none⟩) HBL.out).trans E1.out
            have Ec2 := (HS.out.bel.cell (p := ⟨b, off + i * 7 + 2, none⟩) HBL.out).trans E2.out
            have Ec3 := (HS.out.bel.cell (p := ⟨b, off + i * 7 + 3, none⟩) HBL.out).trans E3.out
            have Ec4 := (HS.out.bel.cell (p := ⟨b, off + i * 7 + 4, none⟩) HBL.out).trans E4.out
            have Ec5 := (HS.out.bel.cell (p := ⟨b, off + i * 7 + 5, none⟩) HBL.out).trans E5.out
            have Ec6 := (HS.out.bel.cell (p := ⟨b, off + i * 7 + 6, none⟩) HBL.out).trans E6.out
            go_wp2_with fail
            clear Ec0 Ec1 Ec2 Ec3 Ec4 Ec5 Ec6
            refine wp_region_held_drew (S := (fun w' => Sx w w' [] [])) (by kernel_rfl) ((HS.out.drew).bare) (fun hh => ?_)
            replace HS := Lib.hid HS.out.drew
            refine tkA (i := 0) (v := ?vpr210_0_k212) rfl (Or.inl ⟨by first | rfl | kernel_rfl, ?hypr210_0_k212⟩) (by assumption) ?repr210_0_k212
            case hypr210_0_k212 => (intro u hSu; (first | (go_simp; done) | (go_simp; with_reducible rfl)))
            try simp only [nb1, nb2, nb3, Act.put, nb4, nb5, nb6]
            refine tkA (i := 1) (v := ?vpr210_1_k214) rfl (Or.inl ⟨by first | rfl | kernel_rfl, ?hypr210_1_k214⟩) (by assumption) ?repr210_1_k214
            case hypr210_1_k214 => (intro u hSu; (first | (go_simp; done) | (go_simp; with_reducible rfl)))
            try simp only [nb1, nb2, nb3, Act.put, nb4, nb5, nb6]
            refine tkA (i := 2) (v := ?vpr210_2_k216) rfl (Or.inl ⟨by first | rfl | kernel_rfl, ?hypr210_2_k216⟩) (by assumption) ?repr210_2_k216
            case hypr210_2_k216 => (intro u hSu; (first | (go_simp; done) | (go_simp; with_reducible rfl)))
            try simp only [nb1, nb2, nb3, Act.put, nb4, nb5, nb6]
            refine tkA (i := 3) (v := undef) rfl (Or.inr ⟨by first | rfl | kernel_rfl, rfl⟩) (by assumption) ?repr210_3_k217
            try simp only [nb1, nb2, nb3, Act.put, nb4, nb5, nb6]
            refine tkA (i := 4) (v := undef) rfl (Or.inr ⟨by first | rfl | kernel_rfl, rfl⟩) (by assumption) ?repr210_4_k218
            try simp only [nb1, nb2, nb3, Act.put, nb4, nb5, nb6]
            refine tkA (i := 5) (v := undef) rfl (Or.inr ⟨by first | rfl | kernel_rfl, rfl⟩) (by assumption) ?repr210_5_k219
            try simp only [nb1, nb2, nb3, Act.put, nb4, nb5, nb6]
            refine tkA (i := 6) (v := undef) rfl (Or.inr ⟨by first | rfl | kernel_rfl, rfl⟩) (by assumption) ?repr210_6_k220
            try simp only [nb1, nb2, nb3, Act.put, nb4, nb5, nb6]
            refine tkA (i := 7) (v := undef) rfl (Or.inr ⟨by first | rfl | kernel_rfl, rfl⟩) (by assumption) ?repr210_7_k221
            try simp only [nb1, nb2, nb3, Act.put, nb4, nb5, nb6]
            refine tkA (i := 8) (v := undef) rfl (Or.inr ⟨by first | rfl | kernel_rfl, rfl⟩) (by assumption) ?repr210_8_k222
            try simp only [nb1, nb2, nb3, Act.put, nb4, nb5, nb6]
            refine tkA (i := 9) (v := undef) rfl (Or.inr ⟨by first | rfl | kernel_rfl, rfl⟩) (by assumption) ?repr210_9_k223
            try simp only [nb1, nb2, nb3, Act.put, nb4, nb5, nb6]
            refine tkA (i := 10) (v := undef) rfl (Or.inr ⟨by first | rfl | kernel_rfl, rfl⟩) (by assumption) ?repr210_10_k224
            try simp only [nb1, nb2, nb3, Act.put, nb4, nb5, nb6]
            refine tkA (i := 11) (v := undef) rfl (Or.inr ⟨by first | rfl | kernel_rfl, rfl⟩) (by assumption) ?repr210_11_k225
            try simp only [nb1, nb2, nb3, Act.put, nb4, nb5, nb6]
            refine tkA (i := 12) (v := undef) rfl (Or.inr ⟨by first | rfl | kernel_rfl, rfl⟩) (by assumption) ?repr210_12_k226
            try simp only [nb1, nb2, nb3, Act.put, nb4, nb5, nb6]
            refine tkA (i := 13) (v := undef) rfl (Or.inr ⟨by first | rfl | kernel_rfl, rfl⟩) (by assumption) ?repr210_13_k227
            try simp only [nb1, nb2, nb3, Act.put, nb4, nb5, nb6]
            refine tkA (i := 14) (v := undef) rfl (Or.inr ⟨by first | rfl | kernel_rfl, rfl⟩) (by assumption) ?repr210_14_k228
            try simp only [nb1, nb2, nb3, Act.put, nb4, nb5, nb6]
            refine tkA (i := 15) (v := undef) rfl (Or.inr ⟨by first | rfl | kernel_rfl, rfl⟩) (by assumption) ?repr210_15_k229
            try simp only [nb1, nb2, nb3, Act.put, nb4, nb5, nb6]
            refine tkA (i := 16) (v := undef) rfl (Or.inr ⟨by first | rfl | kernel_rfl, rfl⟩) (by assumption) ?repr210_16_k230
            try simp only [nb1, nb2, nb3, Act.put, nb4, nb5, nb6]
            refine tkA (i := 17) (v := undef) rfl (Or.inr ⟨by first | rfl | kernel_rfl, rfl⟩) (by assumption) ?repr210_17_k231
            try simp only [nb1, nb2, nb3, Act.put, nb4, nb5, nb6]
            refine tkA (i := 18) (v := undef) rfl (Or.inr ⟨by first | rfl | kernel_rfl, rfl⟩) (by assumption) ?repr210_18_k232
            try simp only [nb1, nb2, nb3, Act.put, nb4, nb5, nb6]
            refine tkA (i := 19) (v := undef) rfl (Or.inr ⟨by first | rfl | kernel_rfl, rfl⟩) (by assumption) ?repr210_19_k233
            try simp only [nb1, nb2, nb3, Act.put, nb4, nb5, nb6]
            refine tkA (i := 20) (v := undef) rfl (Or.inr ⟨by first | rfl | kernel_rfl, rfl⟩) (by assumption) ?repr210_20_k234
            try simp only [nb1, nb2, nb3, Act.put, nb4, nb5, nb6]
            refine tkA (i := 21) (v := undef) rfl (Or.inr ⟨by first | rfl | kernel_rfl, rfl⟩) (by assumption) ?repr210_21_k235
            try simp only [nb1, nb2, nb3, Act.put, nb4, nb5, nb6]
            refine tkA (i := 22) (v := undef) rfl (Or.inr ⟨by first | rfl | kernel_rfl, rfl⟩) (by assumption) ?repr210_22_k236
            try simp only [nb1, nb2, nb3, Act.put, nb4, nb5, nb6]
            refine tkA (i := 23) (v := undef) rfl (Or.inr ⟨by first | rfl | kernel_rfl, rfl⟩) (by assumption) ?repr210_23_k237
            try simp only [nb1, nb2, nb3, Act.put, nb4, nb5, nb6]
            refine tkA (i := 24) (v := undef) rfl (Or.inr ⟨by first | rfl | kernel_rfl, rfl⟩) (by assumption) ?repr210_24_k238
            try simp only [nb1, nb2, nb3, Act.put, nb4, nb5, nb6]
            refine tkA (i := 25) (v := undef) rfl (Or.inr ⟨by first | rfl | kernel_rfl, rfl⟩) (by assumption) ?repr210_25_k239
            try simp only [nb1, nb2, nb3, Act.put, nb4, nb5, nb6]
            refine tkA (i := 26) (v := undef) rfl (Or.inr ⟨by first | rfl | kernel_rfl, rfl⟩) (by assumption) ?repr210_26_k240
            try simp only [nb1, nb2, nb3, Act.put, nb4, nb5, nb6]
            refine tkA (i := 27) (v := undef) rfl (Or.inr ⟨by first | rfl | kernel_rfl, rfl⟩) (by assumption) ?repr210_27_k241
            try simp only [nb1, nb2, nb3, Act.put, nb4, nb5, nb6]
            refine tkA (i := 28) (v := undef) rfl (Or.inr ⟨by first | rfl | kernel_rfl, rfl⟩) (by assumption) ?repr210_28_k242
            try simp only [nb1, nb2, nb3, Act.put, nb4, nb5, nb6]
            refine tkA (i := 29) (v := undef) rfl (Or.inr ⟨by first | rfl | kernel_rfl, rfl⟩) (by assumption) ?repr210_29_k243
            try simp only [nb1, nb2, nb3, Act.put, nb4, nb5, nb6]
            refine tkA (i := 30) (v := undef) rfl (Or.inr ⟨by first | rfl | kernel_rfl, rfl⟩) (by assumption) ?repr210_30_k244
            try simp only [nb1, nb2, nb3, Act.put, nb4, nb5, nb6]
            refine tkA (i := 31) (v := undef) rfl (Or.inr ⟨by first | rfl | kernel_rfl, rfl⟩) (by assumption) ?repr210_31_k245
            try simp only [nb1, nb2, nb3, Act.put, nb4, nb5, nb6]
            refine tkA (i := 32) (v := undef) rfl (Or.inr ⟨by first | rfl | kernel_rfl, rfl⟩) (by assumption) ?repr210_32_k246
            try simp only [nb1, nb2, nb3, Act.put, nb4, nb5, nb6]
            refine tkA (i := 33) (v := undef) rfl (Or.inr ⟨by first | rfl | kernel_rfl, rfl⟩) (by assumption) ?repr210_33_k247
            try simp only [nb1, nb2, nb3, Act.put, nb4, nb5, nb6]
            refine tkA (i := 34) (v := undef) rfl (Or.inr ⟨by first | rfl | kernel_rfl, rfl⟩) (by assumption) ?repr210_34_k248
            try simp only [nb1, nb2, nb3, Act.put, nb4, nb5, nb6]
            refine tkA (i := 35) (v := ?vpr210_35_k250) rfl (Or.inl ⟨by first | rfl | kernel_rfl, ?hypr210_35_k250⟩) (by assumption) ?repr210_35_k250
            case hypr210_35_k250 => (intro u hSu; (first | (go_simp; done) | (go_simp; with_reducible rfl)))
            try simp only [nb1, nb2, nb3, Act.put, nb4, nb5, nb6]
            refine wpAnyH_done (by kernel_rfl) ?_ _
            go_wp2_with fail
            exact ⟨⟨i + 1, by have := HLT.out; omega, by go_num, Lib.hid (cvErrs_next HOK.out (by first | (rw [HF.out, HPI.out]; simp only [t202, Bool.and_true, Bool.true_and, Bool.and_false, Bool.false_and, Bool.or_true, Bool.true_or, Bool.or_false, Bool.false_or, Bool.not_true, Bool.not_false, cond_true, cond_false]) | (rw [HF.out, HPI.out]; simp [t202]))), Lib.hid (HS.out.bare)⟩, meas_up HLT.out⟩
          | false =>
            have a252 := HS.out.q 3 _ _ rfl
            have a253 := HS.out.q 2 _ _ rfl
            have a254 := HS.out.q 1 _ _ rfl
            have a255 := HS.out.q 0 _ _ rfl
            go_wp2_with (go_at_call 52; (with_reducible refine (qinB_any lo hi _ _ _ (rngQ a252 a253) (rngQ a254 a255) (szQ_mono (szQ_of HSZ.out.1) (by omega)) (szQ_mono (szQ_of HSZ.out.2) (by omega))).mono ?_); rw [t202]; rintro e w251 ⟨rfl, hb251⟩)
            refine hK.out _ _ (Sx.below hh hb251) (fun hh => ?_)
            clear hK K
            try simp only [nb1, nb2, nb3, Act.put, nb4, nb5, nb6]
            replace HS := Lib.hid (HS.out.below hb251)
            clear hb251 a252 a253 a254 a255
            refine tkA (i := 7) (v := ?vpr190_7_k257) rfl (Or.inl ⟨by first | rfl | kernel_rfl, ?hypr190_7_k257⟩) (by assumption) ?repr190_7_k257
            case hypr190_7_k257 => (intro u hSu; (first | (go_simp; done) | (go_simp; with_reducible rfl)))
            try simp only [nb1, nb2, nb3, Act.put, nb4, nb5, nb6]
            refine wpAnyH_done (by kernel_rfl) ?_ _
            have Ec0 := (HS.out.bel.cell (p := ⟨b, off + i * 7, none⟩) HBL.out).trans E0.out
            have Ec1 := (HS.out.bel.cell (p := ⟨b, off + i * 7 + 1, none⟩) HBL.out).trans E1.out
            have Ec2 := (HS.out.bel.cell (p := ⟨b, off + i * 7 + 2, none⟩) HBL.out).trans E2.out
            have Ec3 := (HS.out.bel.cell (p := ⟨b, off + i * 7 + 3, none⟩) HBL.out).trans E3.out
            have Ec4 := (HS.out.bel.cell (p := ⟨b, off + i * 7 + 4, none⟩) HBL.out).trans E4.out
            have Ec5 := (HS.out.bel.cell (p := ⟨b, off + i * 7 + 5, none⟩) HBL.out).trans E5.out
            have Ec6 := (HS.out.bel.cell (p := ⟨b, off + i * 7 + 6, none⟩) HBL.out).trans E6.out
            go_wp2_with fail
            clear Ec0 Ec1 Ec2 Ec3 Ec4 Ec5 Ec6
            have HR : Hid (ctErr es = 1) := cvErrs_at HOK.out (by first | (rw [HF.out, HPI.out]; simp only [t202, Bool.and_true, Bool.true_and, Bool.and_false, Bool.false_and, Bool.or_true, Bool.true_or, Bool.or_false, Bool.false_or, Bool.not_true, Bool.not_false, cond_true, cond_false]) | (rw [HF.out, HPI.out]; simp [t202])) (by omega) HLT.out HLN.out
            go_ret
            exact ⟨by rw [HR.out] <;> rfl, HS.out.bel⟩
      ·
        obtain rfl : i = es.length := by omega
        have HR : Hid (ctErr es = 0) := by show _ = _; unfold ctErr; rw [if_neg HLN.out]; exact HOK.out
        go_wp2_with fail
        go_ret
        exact ⟨by rw [HR.out] <;> rfl, HS.out.bel⟩
end Go.Proofs.YtmfochplnchgcaaGreat

namespace Go.Proofs.YtmfochplnchgcaaGreat
open Go.RowKit

theorem pairsB {W : World} {B T : Nat} {n0 d0 n1 d1 : Int} (h : W.heap[B]? = some (.cells #[.int .i64 n0, .int .i64 d0, .int .i64 n1, .int .i64 d1] T (0, 0))) : PairsOf W (.slice (some ⟨B, 0, none⟩) 2 2) [(n0, d0), (n1, d1)] := by
  refine ⟨_, 2, rfl, fun _ => ⟨B, 0, rfl, blk_lt h, fun i hi => ?_⟩⟩
  match i, hi with
  | 0, _ => exact ⟨blk_cell h 0 _ rfl, blk_cell h 1 _ rfl⟩
  | 1, _ => exact ⟨blk_cell h 2 _ rfl, blk_cell h 3 _ rfl⟩
  | i + 2, hi => simp at hi; omega
theorem light2_any (n0 d0 n1 d1 : Int) (v : Value) (w : World) (h : PairsOf w v [(n0, d0), (n1, d1)]) : Calls Tryz.prog 8 #[v] w (RetBool (lightUp [(n0, d0), (n1, d1)] 2) w) := light_any [(n0, d0), (n1, d1)] v w h (by simp)
theorem entsE_get (rs : List RawE) {i : Nat} (hi : i < rs.length) : (entsE rs).getD i (0, 0, 0) = ((rs.getD i (0, (0, 0), (0, 0))).1, loE (rs.getD i (0, (0, 0), (0, 0))), hiE (rs.getD i (0, (0, 0), (0, 0)))) := by
  unfold entsE
  simp [List.getD, hi]
theorem loQ_sz {a b : Rat} {k : Nat} (h1 : szR a k) (h2 : szR b k) : szR (loQ a b) k := by unfold loQ; split <;> assumption
theorem hiQ_sz {a b : Rat} {k : Nat} (h1 : szR a k) (h2 : szR b k) : szR (hiQ a b) k := by unfold hiQ; split <;> assumption
theorem fracP_sz {n d : Int} (h : i64P (n, d)) : szR (fracQ n d) 100 := szR_mono (fracQ_szR n d h.1.1 h.1.2 h.2.1 h.2.2) (by omega)
theorem entsE_sz (rs : List RawE) (h : ∀ i, i < rs.length → rawR (rs.getD i (0, (0, 0), (0, 0)))) : entS (entsE rs) := fun i => by
  by_cases hi : i < rs.length
  · rw [entsE_get rs hi]
    obtain ⟨h1, h2⟩ := h i hi
    exact ⟨szR_mono (loQ_sz (fracP_sz h1) (fracP_sz h2)) (by omega), szR_mono (hiQ_sz (fracP_sz h1) (fracP_sz h2)) (by omega)⟩
  · have : (entsE rs).getD i (0, 0, 0) = (0, 0, 0) := by
      rw [List.getD_eq_getElem?_getD, List.getElem?_eq_none (by unfold entsE; rw [List.length_map]; omega)]
      rfl
    rw [this]
    exact ⟨szR_zero _ (by omega), szR_zero _ (by omega)⟩
theorem entsE_o (rs : List RawE) : entO (entsE rs) := fun i hi => by
  have hi' : i < rs.length := by simpa [entsE] using hi
  rw [entsE_get rs hi']
  exact lo_hi _ _
theorem entsE_i (rs : List RawE) (h : ∀ i, i < rs.length → -9223372036854775808 ≤ (rs.getD i (0, (0, 0), (0, 0))).1 ∧ (rs.getD i (0, (0, 0), (0, 0))).1 ≤ 9223372036854775807) : entI (entsE rs) := fun i hi => by
  have hi' : i < rs.length := by simpa [entsE] using hi
  rw [entsE_get rs hi']
  exact h i hi'
theorem entsE_len (rs : List RawE) : (entsE rs).length = rs.length := by simp [entsE]
theorem tabOk_len {rs : List RawE} (h : tabOk rs = true) : rs.length ≤ 20 := by
  unfold tabOk at h
  simp at h
  exact h.1
theorem tab_good {rs : List RawE} {w w' : World} {e : Ending} (h : tabOk rs = true) (hr : RetTabs rs w e w') : ∃ va vb, e = .returned (.tuple #[va, vb, .bool true]) ∧ TabOf IsRat w' va (entsE rs) ∧ TabOf IsR w' vb (entsE rs) ∧ Below w.heap.size w w' := by
  rcases hr with ⟨_, h⟩ | ⟨h0, _⟩
  · exact h
  · rw [h] at h0; exact absurd h0 (by simp)
theorem tab_bad {rs : List RawE} {w w' : World} {e : Ending} (h : tabOk rs = false) (hr : RetTabs rs w e w') : e = .returned (.tuple #[.slice none 0 0, .slice none 0 0, .bool false]) ∧ Below w.heap.size w w' := by
  rcases hr with ⟨h0, _⟩ | ⟨_, h⟩
  · rw [h] at h0; exact absurd h0 (by simp)
  · exact h
end Go.Proofs.YtmfochplnchgcaaGreat

namespace Go.Proofs.YtmfochplnchgcaaGreat
open Go.RowKit

theorem floorQ_eq (y : Rat) : floorQ y = (y.floor : Rat) := by
  unfold floorQ mkQ
  rw [Rat.mkRat_one, Rat.floor_def]
  congr 1
  unfold flN sg
  have hd : 0 < y.den := y.den_pos
  by_cases h : y.num < 0
  · obtain ⟨m, hm⟩ : ∃ m : Nat, y.num = -(m : Int) := ⟨y.num.natAbs, by omega⟩
    rw [decide_eq_true h, if_pos rfl, hm, Int.natAbs_neg, Int.natAbs_natCast, Int.neg_ediv]
    have hb : (-(m : Int) < 0) := by rw [← hm]; exact h
    by_cases hr : m % y.den = 0
    · have hdv : ((y.den : Int)) ∣ (m : Int) := Int.natCast_dvd_natCast.2 (Nat.dvd_of_mod_eq_zero hr)
      rw [if_neg (fun h => h.2 hr), if_pos hdv]
      simp
    · have hdv : ¬ ((y.den : Int)) ∣ (m : Int) := fun h => hr (Nat.mod_eq_zero_of_dvd (Int.natCast_dvd_natCast.1 h))
      rw [if_pos ⟨hb, hr⟩, if_neg hdv]
      have : (y.den : Int).sign = 1 := Int.sign_eq_one_of_pos (by omega)
      rw [this]
      push_cast
      omega
  · obtain ⟨m, hm⟩ : ∃ m : Nat, y.num = (m : Int) := ⟨y.num.natAbs, by omega⟩
    rw [decide_eq_false h, hm, Int.natAbs_natCast, if_neg (by simp), if_neg (fun h => absurd h.1 (by omega))]
    simp
theorem pw2_nat (k : Nat) : pw2 k 0 = (((2 ^ k : Nat) : Int) : Rat) := by
  unfold pw2 mkQ sg
  rw [Nat.pow_zero, Rat.mkRat_one]
  rfl
theorem pw2_mulinv (k : Nat) : pw2 k 0 * pw2 0 k = 1 := by
  unfold pw2 mkQ sg
  rw [Nat.pow_zero]
  simp only [Bool.false_eq_true, if_false]
  rw [Rat.mkRat_eq_div, Rat.mkRat_eq_div]
  have h : (((2 ^ k : Nat) : Int) : Rat) ≠ 0 := by
    have := Nat.two_pow_pos k
    intro h0
    have : ((2 ^ k : Nat) : Int) = 0 := by exact_mod_cast h0
    omega
  generalize 2 ^ k = m at *
  rw [show (((1 : Nat) : Int) : Rat) = 1 from rfl, show (((m : Nat) : Int) : Rat) = (m : Rat) from rfl] at *
  generalize (m : Rat) = a at *
  have e : ((1 : Nat) : Rat) = 1 := rfl
  rw [e]
  grind
theorem pw2_pos1 (k : Nat) : 0 < pw2 k 0 := by
  rw [pw2_nat]
  have := Nat.two_pow_pos k
  have h : (0 : Int) < ((2 ^ k : Nat) : Int) := by omega
  exact_mod_cast h
theorem pw2_pos2 (k : Nat) : 0 < pw2 0 k := by
  have h1 := pw2_mulinv k
  have h2 := pw2_pos1 k
  rcases Decidable.em (0 < pw2 0 k) with h | h
  · exact h
  · exfalso
    have h3 : pw2 0 k ≤ 0 := by grind
    have := Rat.mul_le_mul_of_nonneg_left h3 (Rat.le_of_lt h2)
    grind
theorem down_le (x : Rat) (k : Nat) : downQ x k ≤ x := by
  rw [← floor_down, floorQ_eq]
  have h := Rat.mul_le_mul_of_nonneg_right (Rat.floor_le (x * pw2 k 0)) (Rat.le_of_lt (pw2_pos2 k))
  rw [Rat.mul_assoc, pw2_mulinv, Rat.mul_one] at h
  exact h
theorem down_int {x : Rat} {n : Int} (h : (n : Rat) ≤ x) (k : Nat) : (n : Rat) ≤ downQ x k := by
  rw [← floor_down, floorQ_eq]
  have h1 := Rat.mul_le_mul_of_nonneg_right h (Rat.le_of_lt (pw2_pos1 k))
  have h2 : (((n * ((2 ^ k : Nat) : Int) : Int)) : Rat) ≤ x * pw2 k 0 := by
    rw [Rat.intCast_mul, ← pw2_nat]; exact h1
  have h3 := Rat.intCast_le_intCast.2 (Rat.le_floor_iff.2 h2)
  rw [Rat.intCast_mul, ← pw2_nat] at h3
  have h4 := Rat.mul_le_mul_of_nonneg_right h3 (Rat.le_of_lt (pw2_pos2 k))
  rw [Rat.mul_assoc, pw2_mulinv, Rat.mul_one] at h4
  exact h4
theorem up_ge (x : Rat) (k : Nat) : x ≤ upQ x k := by
  unfold upQ
  have := down_le (-x) k
  grind
theorem up_int {x : Rat} {n : Int} (h : x ≤ (n : Rat)) (k : Nat) : upQ x k ≤ (n : Rat) := by
  unfold upQ
  have h1 : ((-n : Int) : Rat) ≤ -x := by rw [Rat.intCast_neg]; grind
  have := down_int h1 k
  rw [Rat.intCast_neg] at this
  grind
theorem down_unit_sz {x : Rat} {k : Nat} (hk : k ≤ 256) (h0 : -1 ≤ x) (h1 : x ≤ 1) : szR (downQ x k) 20 := by
  rw [← floor_down, floorQ_eq]
  refine szR_mono (szR_mul (j := 5) (szR_int ?_ (by omega)) (szR_pw2 (show 0 ≤ 256 by omega) hk)) (by omega)
  have e1 := Rat.mul_le_mul_of_nonneg_right h0 (Rat.le_of_lt (pw2_pos1 k))
  have e2 := Rat.mul_le_mul_of_nonneg_right h1 (Rat.le_of_lt (pw2_pos1 k))
  have f1 : (-((2 ^ k : Nat) : Int)) ≤ (x * pw2 k 0).floor := Rat.le_floor_iff.2 (by rw [Rat.intCast_neg, ← pw2_nat]; grind)
  have f2 : (x * pw2 k 0).floor ≤ ((2 ^ k : Nat) : Int) := Rat.intCast_le_intCast.1 (by rw [← pw2_nat]; have := Rat.floor_le (x * pw2 k 0); grind)
  have h2 : 2 ^ k ≤ 2 ^ 256 := Nat.pow_le_pow_right (by omega) hk
  have h3 : 2 ^ 256 < b64 ^ 5 := by unfold b64; decide +kernel
  omega
theorem up_unit_sz {x : Rat} {k : Nat} (hk : k ≤ 256) (h0 : -1 ≤ x) (h1 : x ≤ 1) : szR (upQ x k) 20 := by
  unfold upQ
  exact szR_neg (down_unit_sz hk (by grind) (by grind))
/-- The degree behind n minutes. -/
def curQ (a b p q : Rat) (k : Nat) : Nat → Rat × Rat
  | 0 => (a, b)
  | n + 1 => (downQ ((curQ a b p q k n).1 + p * (1 - (curQ a b p q k n).1)) k, upQ ((curQ a b p q k n).2 + q * (1 - (curQ a b p q k n).2)) k)
theorem cur_ok {a b p q : Rat} {k : Nat} (hk : k ≤ 256) (h1 : partB a b = true) (h2 : partB p q = true) (hab : a ≤ b) (hpq : p ≤ q) (s0 : szR a 10000) (s1 : szR b 10000) : ∀ n,
    partB (curQ a b p q k n).1 (curQ a b p q k n).2 = true ∧ (curQ a b p q k n).1 ≤ (curQ a b p q k n).2 ∧ szR (curQ a b p q k n).1 10000 ∧ szR (curQ a b p q k n).2 10000
  | 0 => ⟨h1, hab, s0, s1⟩
  | n + 1 => by
    obtain ⟨i1, i2, _, _⟩ := cur_ok hk h1 h2 hab hpq s0 s1 n
    have hm := cmp_le0.1 (step_mono i1 h2 i2 hpq)
    rw [partB_iff] at i1 h2 ⊢
    show (0 ≤ downQ _ k ∧ upQ _ k ≤ 1) ∧ downQ _ k ≤ upQ _ k ∧ szR (downQ _ k) _ ∧ szR (upQ _ k) _
    generalize (curQ a b p q k n).1 = x at *
    generalize (curQ a b p q k n).2 = y at *
    have g1 : 0 ≤ p * (1 - x) := Rat.mul_nonneg (by grind) (by grind)
    have g2 : 0 ≤ (1 - y) * (1 - q) := Rat.mul_nonneg (by grind) (by grind)
    have g3 : 0 ≤ (1 - x) * (1 - p) := Rat.mul_nonneg (by grind) (by grind)
    have g4 : 0 ≤ q * (1 - y) := Rat.mul_nonneg (by grind) (by grind)
    have l1 : 0 ≤ x + p * (1 - x) := by grind
    have l2 : y + q * (1 - y) ≤ 1 := by grind
    have l3 : x + p * (1 - x) ≤ 1 := by grind
    have l4 : 0 ≤ y + q * (1 - y) := by grind
    refine ⟨⟨?_, ?_⟩, ?_, ?_, ?_⟩
    · exact down_int (n := 0) l1 k
    · exact up_int (n := 1) l2 k
    · exact Rat.le_trans (down_le _ k) (Rat.le_trans hm (up_ge _ k))
    · exact szR_mono (down_unit_sz hk (by grind) l3) (by omega)
    · exact szR_mono (up_unit_sz hk (by grind) l2) (by omega)
theorem rt_part {es : List Ent} (h : ctErr es = 0) (t : Rat) : ∀ n, n ≤ es.length → 0 ≤ (rtUp es t n).1 ∧ (rtUp es t n).2 ≤ 1
  | 0, _ => by show (0 : Rat) ≤ 0 ∧ (0 : Rat) ≤ 1; grind
  | n + 1, hn => by
    rw [rtUp_1, rtUp_2]
    have h1 := ct_part h (show n < es.length by omega)
    have h2 := rt_part h t n (by omega)
    by_cases k1 : cmpR ((es.getD n (0, 0, 0)).1 : Rat) t ≤ 0
    · rw [if_pos k1, if_pos k1]; exact h1
    · rw [if_neg k1, if_neg k1]; exact h2
theorem rt_good {es : List Ent} (h : ctErr es = 0) (ho : entO es) (t : Rat) : partB (rtOf es t).1 (rtOf es t).2 = true ∧ (rtOf es t).1 ≤ (rtOf es t).2 :=
  ⟨partB_iff.2 (rt_part h t es.length (Nat.le_refl _)), rt_mono h ho (by grind) es.length (Nat.le_refl _)⟩
theorem stepQ_ok {a b p q : Rat} {k : Nat} (h1 : partB a b = true) (h2 : partB p q = true) (hab : a ≤ b) (hpq : p ≤ q) : stepQ a b p q k = (downQ (a + p * (1 - a)) k, upQ (b + q * (1 - b)) k, 0) := by
  unfold stepQ
  rw [← part_in hab, ← part_in hpq, h1, h2]
  rfl
/-- The first place at which f is true. -/
def firstUp (f : Nat → Bool) : Nat → Int
  | 0 => -1
  | n + 1 => if 0 ≤ firstUp f n then firstUp f n else if f n then n else -1
theorem firstUp_stay {f : Nat → Bool} {i n : Nat} (h : 0 ≤ firstUp f i) (hn : i ≤ n) : firstUp f n = firstUp f i := by
  induction n with
  | zero => obtain rfl : i = 0 := by omega
            rfl
  | succ n ih =>
    rcases Nat.lt_or_ge i (n + 1) with h1 | h1
    · have e := ih (by omega)
      show (if 0 ≤ firstUp f n then firstUp f n else _) = _
      rw [if_pos (by rw [e]; exact h), e]
    · obtain rfl : i = n + 1 := by omega
      rfl
theorem firstUp_at {f : Nat → Bool} {i n : Nat} (h : firstUp f i = -1) (hf : f i = true) (hi : i < n) : firstUp f n = i := by
  have e : firstUp f (i + 1) = i := by
    show (if 0 ≤ firstUp f i then _ else _) = _
    rw [h, if_neg (by omega), if_pos hf]
  rw [firstUp_stay (by rw [e]; omega) hi, e]
theorem firstUp_next {f : Nat → Bool} {i : Nat} (h : firstUp f i = -1) (hf : f i = false) : firstUp f (i + 1) = -1 := by
  show (if 0 ≤ firstUp f i then _ else _) = _
  rw [h, if_neg (by omega), hf]
  rfl
def enoughB (a b p q wt : Rat) (k i : Nat) : Bool := decide (cmpR (curQ a b p q k i).1 wt ≥ 0)
/-- What Minutes returns. -/
def minOf (es : List Ent) (a b t wt : Rat) (k : Nat) : Int × Int :=
  if ctErr es ≠ 0 then (0, ctErr es) else if partB a b = false then (0, 1) else
  if 0 ≤ firstUp (enoughB a b (rtOf es t).1 (rtOf es t).2 wt k) 257 then (firstUp (enoughB a b (rtOf es t).1 (rtOf es t).2 wt k) 257, 0) else (0, 5)
end Go.Proofs.YtmfochplnchgcaaGreat

namespace Go.Proofs.YtmfochplnchgcaaGreat
open Go.RowKit

def RetTwoInt (r : Int × Int) (w : World) (e : Ending) (w' : World) : Prop := e = .returned (.tuple #[.int .i64 r.1, .int .i64 r.2]) ∧ Below w.heap.size w w'
set_option maxRecDepth 100000 in
set_option maxHeartbeats 4000000 in
theorem minutes_any (es : List Ent) (a b t wt : Rat) (k : Nat) (z : Int) (vt vx vy vz : Value) (w : World) (ht : TabOf IsRat w vt es) (hx : IsRng w vx a b) (hy : IsRat w vy t) (hyz : IsRat w vz wt) (hl : es.length ≤ 1000) (hI : entI es) (hZ : entS es) (hO : entO es) (hk : k ≤ 256) (hz : min (max z 0) 256 = (k : Int)) (hab : a ≤ b) (s0 : szR a 10000) (s1 : szR b 10000) (s5 : szR t 10000) (s4 : szR wt 10000) :
    Calls Tryz.prog 26 #[vt, vx, vy, vz, .int .i64 z] w (RetTwoInt (minOf es a b t wt k) w) := by
  obtain ⟨x1, x2, rfl, h1, h2⟩ := hx
  obtain ⟨y1, rfl⟩ := hy.open3
  obtain ⟨y2, rfl⟩ := hyz.open3
  have HS := Lib.hid (((((Sx.init w).addP h1).addP h2).addP hy).addP hyz)
  have HT := Lib.hid ht
  have HI := Lib.hid hI
  have HZ := Lib.hid hZ
  have HO := Lib.hid hO
  have HK := Lib.hid hk
  have HZK := Lib.hid hz
  have HAB := Lib.hid hab
  have S0 := Lib.hid s0
  have S1 := Lib.hid s1
  have S4 := Lib.hid s4
  have S5 := Lib.hid s5
  have HRT : Hid (∀ W vt vx, TabOf IsRat W vt es → IsRat W vx t → Calls Tryz.prog 67 #[vt, vx] W (RetRng (rtOf es t).1 (rtOf es t).2 W)) := fun W vt vx h1 h2 => crate_any es t vt vx W h1 h2 hl hI hZ s5
  have HG : Hid (ctErr es = 0 → partB (rtOf es t).1 (rtOf es t).2 = true ∧ (rtOf es t).1 ≤ (rtOf es t).2) := fun h => rt_good h hO t
  have S2 := Lib.hid (rtOf_sz hZ t).1
  have S3 := Lib.hid (rtOf_sz hZ t).2
  have HF : Hid (minOf es a b t wt k = if ctErr es ≠ 0 then (0, ctErr es) else if partB a b = false then (0, 1) else if 0 ≤ firstUp (enoughB a b (rtOf es t).1 (rtOf es t).2 wt k) 257 then (firstUp (enoughB a b (rtOf es t).1 (rtOf es t).2 wt k) 257, 0) else (0, 5)) := rfl
  generalize (rtOf es t).1 = p at *
  generalize (rtOf es t).2 = q at *
  obtain ⟨ao, cap, rfl, _⟩ := ht
  clear h1 h2 hy hyz hI hZ hO hk hz hab s0 s1 s4 s5
  go_enter Tryz.func26, Tryz.ntmps26
  go_wp2_with fail
  generalize hW1 : (((w).alloc (.cells _ _)).alloc (.cells _ _)).alloc (.cells _ _) = W1 at *
  replace HS : Hid (Sx w W1 [(w.heap.size + 2, y2.arr, 40), (w.heap.size + 1, y1.arr, 40), (w.heap.size, arr6 x1 x2, 55)] [(true, y2.val, wt), (true, y1.val, t), (true, x2.val, b), (true, x1.val, a)]) := by subst hW1; exact (((HS.out).alloc (B := w.heap.size) rfl (by rfl)).alloc (B := w.heap.size + 1) (by simp) (by rfl)).alloc (B := w.heap.size + 2) (by simp) (by rfl)
  clear hW1
  by_cases hz2 : ctErr es = 0
  ·
    have HZ2 := Lib.hid hz2
    clear hz2
    refine (ctable_any es _ _ (HT.out.bP HS.out.bel) hl HI.out HZ.out).mono ?_
    rw [HZ2.out]
    rintro e w3 ⟨rfl, hb3⟩
    replace HS := Lib.hid (HS.out.below hb3)
    clear hb3
    obtain ⟨b0c0, b0c1, b0c2, b0c3, b0c4, b0c5, b0f0, b0f1, b0f2, b0f3, b0f4, b0f5⟩ := fac6 (x := x1) (y := x2) (HS.out.at 2 _ _ _ rfl)
    have b0l := blk_lt (HS.out.at 2 _ _ _ rfl)
    go_wp2_with fail
    clear b0c0 b0c1 b0c2 b0c3 b0c4 b0c5 b0f0 b0f1 b0f2 b0f3 b0f4 b0f5 b0l
    cases t4 : partB a b with
    | true =>
      refine (part_any a b _ _ (rngP (HS.out.p 3 _ _ rfl) (HS.out.p 2 _ _ rfl)) (szR_mono S1.out (by omega))).mono ?_
      rw [t4]
      rintro e w5 ⟨rfl, hb5⟩
      replace HS := Lib.hid (HS.out.below hb5)
      clear hb5
      obtain ⟨b1c0, b1c1, b1c2, b1f0, b1f1, b1f2⟩ := fac3 (x := y1) (HS.out.at 1 _ _ _ rfl)
      have b1l := blk_lt (HS.out.at 1 _ _ _ rfl)
      go_wp2_with fail
      clear b1c0 b1c1 b1c2 b1f0 b1f1 b1f2 b1l
      refine (HRT.out _ _ _ (HT.out.bP HS.out.bel) (HS.out.p 1 _ _ rfl)).mono ?_
      rintro e w6 ⟨v6, rfl, ⟨z6a, z6b, rfl, hv6, hw6⟩, hb6⟩
      replace HS := Lib.hid (HS.out.below hb6)
      clear hb6
      replace HS := Lib.hid (HS.out.addP hv6)
      clear hv6
      replace HS := Lib.hid (HS.out.addP hw6)
      clear hw6
      have HPB : Hid (partB a b = true) := t4
      have HPQ := Lib.hid (HG.out HZ2.out)
      go_wp2_with fail
      generalize hW7 : (w6).alloc (.cells _ _) = W7 at *
      replace HS : Hid (Sx w W7 [(w6.heap.size, arr6 z6a z6b, 55), (w.heap.size + 2, y2.arr, 40), (w.heap.size + 1, y1.arr, 40), (w.heap.size, arr6 x1 x2, 55)] [(true, z6b.val, q), (true, z6a.val, p), (true, y2.val, wt), (true, y1.val, t), (true, x2.val, b), (true, x1.val, a)]) := by subst hW7; exact (HS.out).alloc (B := w6.heap.size) rfl (by rfl)
      clear hW7
      go_loopw [26] (fun u26 wr => ∃ (i : Nat) (c1 c2 : R3), i ≤ 257 ∧ u26 = .int .i64 i ∧ Hid (firstUp (enoughB a b p q wt k) i = -1) ∧ Hid (Sx w wr [(w6.heap.size, arr6 z6a z6b, 55), (w.heap.size + 2, y2.arr, 40), (w.heap.size + 1, y1.arr, 40), (w.heap.size, arr6 c1 c2, 55)] [(true, c2.val, (curQ a b p q k i).2), (true, c1.val, (curQ a b p q k i).1), (true, z6b.val, q), (true, z6a.val, p), (true, y2.val, wt), (true, y1.val, t)]))
        (fun u _ => 257 - (intOf u).toNat)
      case atStart => exact ⟨0, x1, x2, Nat.zero_le _, rfl, Lib.hid rfl, Lib.hid (((((((HS.out.bare).addP (HS.out.p 3 _ _ rfl)).addP (HS.out.p 2 _ _ rfl)).addP (HS.out.p 1 _ _ rfl)).addP (HS.out.p 0 _ _ rfl)).addP (HS.out.p 5 _ _ rfl)).addP (HS.out.p 4 _ _ rfl))⟩
      case round =>
        clear HS
        obtain ⟨i, c1, c2, hi, rfl, HOK, HS⟩ := hrel
        by_cases hlt : i < 257
        ·
          have hlt' : (i : Int) < 257 := by omega
          have hge' : (0 : Int) ≤ i := by omega
          have HLT := Lib.hid hlt
          have HCK := Lib.hid (cur_ok HK.out HPB.out HPQ.out.1 HAB.out HPQ.out.2 S0.out S1.out i)
          clear hlt
          go_wp2_with fail
          refine wp_region_held_drew (S := (fun w' => Sx w w' [(w6.heap.size, arr6 z6a z6b, 55), (w.heap.size + 2, y2.arr, 40), (w.heap.size + 1, y1.arr, 40), (w.heap.size, arr6 c1 c2, 55)] [])) (by kernel_rfl) ((HS.out.drew).bare) (fun hh => ?_)
          replace HS := Lib.hid HS.out.drew
          refine tkA (i := 0) (v := ?vpr8_0_k10) rfl (Or.inl ⟨by first | rfl | kernel_rfl, ?hypr8_0_k10⟩) (by assumption) ?repr8_0_k10
          case hypr8_0_k10 => (intro u hSu; (try dsimp only at hSu); obtain ⟨qb0c0, qb0c1, qb0c2, qb0c3, qb0c4, qb0c5, _⟩ := fac6 (x := c1) (y := c2) (hSu.at 3 _ _ _ rfl); clear hSu; (first | (go_simp; done) | (go_simp; with_reducible rfl)))
          try simp only [nb1, nb2, nb3, Act.put, nb4, nb5, nb6]
          refine tkA (i := 2) (v := ?vpr8_2_k12) rfl (Or.inl ⟨by first | rfl | kernel_rfl, ?hypr8_2_k12⟩) (by assumption) ?repr8_2_k12
          case hypr8_2_k12 => (intro u hSu; (try dsimp only at hSu); obtain ⟨qb2c0, qb2c1, qb2c2, _⟩ := fac3 (x := y2) (hSu.at 1 _ _ _ rfl); clear hSu; (first | (go_simp; done) | (go_simp; with_reducible rfl)))
          try simp only [nb1, nb2, nb3, Act.put, nb4, nb5, nb6]
          refine rdA (i := 1) rfl (fun K hK => ?_)
          go_simp
          have a14 := HS.out.p 1 _ _ rfl
          have a15 := HS.out.p 0 _ _ rfl
          go_wp2_with (go_at_call 56; (with_reducible refine (rlo_any ((curQ a b p q k i).1) ((curQ a b p q k i).2) _ _ (rngP a14 a15)).mono ?_); rintro e w13 ⟨v13, rfl, hv13, hb13⟩; obtain ⟨z13, rfl⟩ := hv13.open3)
          refine hK.out _ _ (Sx.below hh hb13) (fun hh => ?_)
          clear hK K
          try simp only [nb1, nb2, nb3, Act.put, nb4, nb5, nb6]
          replace HS := Lib.hid (HS.out.below hb13)
          clear hb13 a14 a15
          replace HS := Lib.hid (HS.out.addP hv13)
          clear hv13
          refine rdA (i := 3) rfl (fun K hK => ?_)
          go_simp
          obtain ⟨c16, hc16⟩ : ∃ c, c = cmpR ((curQ a b p q k i).1) wt := ⟨_, rfl⟩
          have HC16 := Lib.hid hc16
          clear hc16
          have a17 := HS.out.p 0 _ _ rfl
          have a18 := HS.out.p 5 _ _ rfl
          go_wp2_with (go_at_call 34; (with_reducible refine (cmpRat_any ((curQ a b p q k i).1) wt _ _ _ a17 a18 (szR_mono HCK.out.2.2.1 (by omega)) (szR_mono S4.out (by omega))).mono ?_); rw [← HC16.out]; rintro e w16 ⟨rfl, hb16⟩)
          refine hK.out _ _ (Sx.below hh hb16) (fun hh => ?_)
          clear hK K
          try simp only [nb1, nb2, nb3, Act.put, nb4, nb5, nb6]
          replace HS := Lib.hid (HS.out.below hb16)
          clear hb16 a17 a18
          by_cases t20p : c16 ≥ 0
          ·
            have t20 : decide (c16 ≥ 0) = true := decide_eq_true t20p
            have T20 := Lib.hid t20p
            clear t20p
            refine tkA (i := 4) (v := ?vpr8_4_k21) rfl (Or.inl ⟨by first | rfl | kernel_rfl, ?hypr8_4_k21⟩) (by assumption) ?repr8_4_k21
            case hypr8_4_k21 => (intro u hSu; (first | (go_simp; done) | (go_simp; with_reducible rfl)))
            try simp only [nb1, nb2, nb3, Act.put, nb4, nb5, nb6]
            refine wpAnyH_done (by kernel_rfl) ?_ _
            obtain ⟨b0c0, b0c1, b0c2, b0c3, b0c4, b0c5, b0f0, b0f1, b0f2, b0f3, b0f4, b0f5⟩ := fac6 (x := c1) (y := c2) (HS.out.at 3 _ _ _ rfl)
            have b0l := blk_lt (HS.out.at 3 _ _ _ rfl)
            obtain ⟨b2c0, b2c1, b2c2, b2f0, b2f1, b2f2⟩ := fac3 (x := y2) (HS.out.at 1 _ _ _ rfl)
            have b2l := blk_lt (HS.out.at 1 _ _ _ rfl)
            go_wp2_with fail
            clear b0c0 b0c1 b0c2 b0c3 b0c4 b0c5 b0f0 b0f1 b0f2 b0f3 b0f4 b0f5 b0l b2c0 b2c1 b2c2 b2f0 b2f1 b2f2 b2l
            have hfi := firstUp_at HOK.out (show enoughB a b p q wt k i = true by show decide _ = true; rw [← HC16.out]; exact t20) HLT.out
            have HR : Hid (minOf es a b t wt k = ((i : Int), 0)) := by show _ = _; rw [HF.out, if_neg (by rw [HZ2.out]; simp), if_neg (by rw [HPB.out]; simp), hfi, if_pos (by omega)]
            clear hfi
            go_ret2
            exact ⟨by rw [HR.out] <;> rfl, HS.out.bel⟩
          ·
            have t20 : decide (c16 ≥ 0) = false := decide_eq_false t20p
            have T20 := Lib.hid t20p
            clear t20p
            refine tkA (i := 4) (v := ?vpr8_4_k22) rfl (Or.inl ⟨by first | rfl | kernel_rfl, ?hypr8_4_k22⟩) (by assumption) ?repr8_4_k22
            case hypr8_4_k22 => (intro u hSu; (first | (go_simp; done) | (go_simp; with_reducible rfl)))
            try simp only [nb1, nb2, nb3, Act.put, nb4, nb5, nb6]
            refine wpAnyH_done (by kernel_rfl) ?_ _
            obtain ⟨b0c0, b0c1, b0c2, b0c3, b0c4, b0c5, b0f0, b0f1, b0f2, b0f3, b0f4, b0f5⟩ := fac6 (x := c1) (y := c2) (HS.out.at 3 _ _ _ rfl)
            have b0l := blk_lt (HS.out.at 3 _ _ _ rfl)
            obtain ⟨b2c0, b2c1, b2c2, b2f0, b2f1, b2f2⟩ := fac3 (x := y2) (HS.out.at 1 _ _ _ rfl)
            have b2l := blk_lt (HS.out.at 1 _ _ _ rfl)
            obtain ⟨b3c0, b3c1, b3c2, b3c3, b3c4, b3c5, b3f0, b3f1, b3f2, b3f3, b3f4, b3f5⟩ := fac6 (x := z6a) (y := z6b) (HS.out.at 0 _ _ _ rfl)
            have b3l := blk_lt (HS.out.at 0 _ _ _ rfl)
            go_wp2_with fail
            clear b0c0 b0c1 b0c2 b0c3 b0c4 b0c5 b0f0 b0f1 b0f2 b0f3 b0f4 b0f5 b0l b2c0 b2c1 b2c2 b2f0 b2f1 b2f2 b2l b3c0 b3c1 b3c2 b3c3 b3c4 b3c5 b3f0 b3f1 b3f2 b3f3 b3f4 b3f5 b3l
            refine (stepM_any ((curQ a b p q k i).1) ((curQ a b p q k i).2) p q k HK.out z HZK.out _ _ _ (rngP (HS.out.p 2 _ _ rfl) (HS.out.p 1 _ _ rfl)) (rngP (HS.out.p 4 _ _ rfl) (HS.out.p 3 _ _ rfl)) HCK.out.1 HPQ.out.1 HCK.out.2.1 HPQ.out.2 HCK.out.2.2.1 HCK.out.2.2.2 S2.out S3.out).mono ?_
            rintro e w23 ⟨v23, rfl, ⟨z23a, z23b, rfl, hv23, hw23⟩, hb23⟩
            replace HS := Lib.hid (HS.out.below hb23)
            clear hb23
            replace HS := Lib.hid (HS.out.addP hv23)
            clear hv23
            replace HS := Lib.hid (HS.out.addP hw23)
            clear hw23
            obtain ⟨b0c0, b0c1, b0c2, b0c3, b0c4, b0c5, b0f0, b0f1, b0f2, b0f3, b0f4, b0f5⟩ := fac6 (x := c1) (y := c2) (HS.out.at 3 _ _ _ rfl)
            have b0l := blk_lt (HS.out.at 3 _ _ _ rfl)
            go_wp2_with fail
            clear b0c0 b0c1 b0c2 b0c3 b0c4 b0c5 b0f0 b0f1 b0f2 b0f3 b0f4 b0f5 b0l
            generalize hW24 : ((((((w23).setCell _ _).setCell _ _).setCell _ _).setCell _ _).setCell _ _).setCell _ _ = W24 at *
            replace HS : Hid (Sx w W24 [(w6.heap.size, arr6 z6a z6b, 55), (w.heap.size + 2, y2.arr, 40), (w.heap.size + 1, y1.arr, 40), (w.heap.size, arr6 z23a z23b, 55)] [(true, z23b.val, (upQ ((curQ a b p q k i).2 + q * (1 - (curQ a b p q k i).2)) k)), (true, z23a.val, (downQ ((curQ a b p q k i).1 + p * (1 - (curQ a b p q k i).1)) k)), (true, z13.val, (curQ a b p q k i).1), (true, c2.val, (curQ a b p q k i).2), (true, c1.val, (curQ a b p q k i).1), (true, z6b.val, q), (true, z6a.val, p), (true, y2.val, wt), (true, y1.val, t)]) := by subst hW24; exact (HS.out).st_RR 3 c1 c2 z23a z23b rfl
            clear hW24
            have EQ1 : Hid ((curQ a b p q k (i + 1)).1 = downQ ((curQ a b p q k i).1 + p * (1 - (curQ a b p q k i).1)) k) := rfl
            have EQ2 : Hid ((curQ a b p q k (i + 1)).2 = upQ ((curQ a b p q k i).2 + q * (1 - (curQ a b p q k i).2)) k) := rfl
            exact ⟨⟨i + 1, z23a, z23b, by have := HLT.out; omega, by go_num, Lib.hid (firstUp_next HOK.out (by show decide _ = false; rw [← HC16.out]; exact t20)), Lib.hid (((((((HS.out.bare).addP (HS.out.p 8 _ _ rfl)).addP (HS.out.p 7 _ _ rfl)).addP (HS.out.p 6 _ _ rfl)).addP (HS.out.p 5 _ _ rfl)).addP (by rw [EQ1.out]; exact (HS.out.p 1 _ _ rfl))).addP (by rw [EQ2.out]; exact (HS.out.p 0 _ _ rfl)))⟩, meas_up HLT.out⟩
        ·
          obtain rfl : i = 257 := by omega
          have HR : Hid (minOf es a b t wt k = (0, 5)) := by show _ = _; rw [HF.out, if_neg (by rw [HZ2.out]; simp), if_neg (by rw [HPB.out]; simp), HOK.out]; rfl
          go_wp2_with fail
          go_ret2
          exact ⟨by rw [HR.out] <;> rfl, HS.out.bel⟩
    | false =>
      refine (part_any a b _ _ (rngP (HS.out.p 3 _ _ rfl) (HS.out.p 2 _ _ rfl)) (szR_mono S1.out (by omega))).mono ?_
      rw [t4]
      rintro e w25 ⟨rfl, hb25⟩
      replace HS := Lib.hid (HS.out.below hb25)
      clear hb25
      go_wp2_with fail
      have HR : Hid (minOf es a b t wt k = (0, 1)) := by show _ = _; rw [HF.out, if_neg (by rw [HZ2.out]; simp), if_pos t4]
      go_ret2
      exact ⟨by rw [HR.out] <;> rfl, HS.out.bel⟩
  ·
    obtain ⟨er2, her2⟩ : ∃ c, c = ctErr es := ⟨_, rfl⟩
    have HER2 := Lib.hid her2
    rw [← her2] at hz2
    have en2 : (er2 == 0) = false := beq_eq_false_iff_ne.2 hz2
    have eo2 : (er2 != 0) = true := bne_iff_ne.2 hz2
    have ep2 : decide (er2 = 0) = false := decide_eq_false hz2
    have HNZ2 := Lib.hid hz2
    clear her2 hz2
    refine (ctable_any es _ _ (HT.out.bP HS.out.bel) hl HI.out HZ.out).mono ?_
    rw [← HER2.out]
    rintro e w26 ⟨rfl, hb26⟩
    replace HS := Lib.hid (HS.out.below hb26)
    clear hb26
    go_wp2_with fail
    have HR : Hid (minOf es a b t wt k = (0, er2)) := by show _ = _; rw [HF.out, ← HER2.out, if_pos HNZ2.out]
    go_ret2
    exact ⟨by rw [HR.out] <;> rfl, HS.out.bel⟩
end Go.Proofs.YtmfochplnchgcaaGreat

namespace Go.Proofs.YtmfochplnchgcaaGreat
open Go.RowKit

theorem qStepM_any (a b p q : Rat) (k : Nat) (hk : k ≤ 256) (z : Int) (hz : min (max z 0) 256 = (k : Int)) (vc vr : Value) (w : World) (hc : IsRngQ w vc a b) (hr : IsRngQ w vr p q) (h1 : partB a b = true) (h2 : partB p q = true) (hab : a ≤ b) (hpq : p ≤ q)
    (s0 : szR a 10000) (s1 : szR b 10000) (s2 : szR p 10000) (s3 : szR q 10000) : Calls Tryz.prog 20 #[vc, vr, .int .i64 z] w (RetRngQE (downQ (a + p * (1 - a)) k) (upQ (b + q * (1 - b)) k) 0 w) := by
  have := qStep_any a b p q k vc vr w hc hr hk z hz s0 s1 s2 s3
  rw [stepQ_ok h1 h2 hab hpq] at this
  exact this
set_option maxRecDepth 100000 in
set_option maxHeartbeats 4000000 in
theorem qminutes_any (es : List Ent) (a b t wt : Rat) (k : Nat) (z : Int) (vt vx vy vz : Value) (w : World) (ht : TabOf IsR w vt es) (hx : IsRngQ w vx a b) (hy : IsR w vy t) (hyz : IsR w vz wt) (hl : es.length ≤ 1000) (hI : entI es) (hZ : entS es) (hO : entO es) (hk : k ≤ 256) (hz : min (max z 0) 256 = (k : Int)) (hab : a ≤ b) (s0 : szR a 10000) (s1 : szR b 10000) (s5 : szR t 10000) (s4 : szR wt 10000) :
    Calls Tryz.prog 27 #[vt, vx, vy, vz, .int .i64 z] w (RetTwoInt (minOf es a b t wt k) w) := by
  obtain ⟨x1, x2, rfl, h1, h2⟩ := hx
  obtain ⟨y1, rfl⟩ := hy.open3
  obtain ⟨y2, rfl⟩ := hyz.open3
  have HS := Lib.hid (((((Sx.init w).addQ h1).addQ h2).addQ hy).addQ hyz)
  have HT := Lib.hid ht
  have HI := Lib.hid hI
  have HZ := Lib.hid hZ
  have HO := Lib.hid hO
  have HK := Lib.hid hk
  have HZK := Lib.hid hz
  have HAB := Lib.hid hab
  have S0 := Lib.hid s0
  have S1 := Lib.hid s1
  have S4 := Lib.hid s4
  have S5 := Lib.hid s5
  have HRT : Hid (∀ W vt vx, TabOf IsR W vt es → IsR W vx t → Calls Tryz.prog 47 #[vt, vx] W (RetRngQ (rtOf es t).1 (rtOf es t).2 W)) := fun W vt vx h1 h2 => qrate_any es t vt vx W h1 h2 hl hI hZ s5
  have HG : Hid (ctErr es = 0 → partB (rtOf es t).1 (rtOf es t).2 = true ∧ (rtOf es t).1 ≤ (rtOf es t).2) := fun h => rt_good h hO t
  have S2 := Lib.hid (rtOf_sz hZ t).1
  have S3 := Lib.hid (rtOf_sz hZ t).2
  have HF : Hid (minOf es a b t wt k = if ctErr es ≠ 0 then (0, ctErr es) else if partB a b = false then (0, 1) else if 0 ≤ firstUp (enoughB a b (rtOf es t).1 (rtOf es t).2 wt k) 257 then (firstUp (enoughB a b (rtOf es t).1 (rtOf es t).2 wt k) 257, 0) else (0, 5)) := rfl
  generalize (rtOf es t).1 = p at *
  generalize (rtOf es t).2 = q at *
  obtain ⟨ao, cap, rfl, _⟩ := ht
  clear h1 h2 hy hyz hI hZ hO hk hz hab s0 s1 s4 s5
  go_enter Tryz.func27, Tryz.ntmps27
  go_wp2_with fail
  generalize hW1 : (((w).alloc (.cells _ _)).alloc (.cells _ _)).alloc (.cells _ _) = W1 at *
  replace HS : Hid (Sx w W1 [(w.heap.size + 2, y2.arr, 45), (w.heap.size + 1, y1.arr, 45), (w.heap.size, arr6 x1 x2, 60)] [(false, y2.val, wt), (false, y1.val, t), (false, x2.val, b), (false, x1.val, a)]) := by subst hW1; exact (((HS.out).alloc (B := w.heap.size) rfl (by rfl)).alloc (B := w.heap.size + 1) (by simp) (by rfl)).alloc (B := w.heap.size + 2) (by simp) (by rfl)
  clear hW1
  by_cases hz2 : ctErr es = 0
  ·
    have HZ2 := Lib.hid hz2
    clear hz2
    refine (qctable_any es _ _ (HT.out.bQ HS.out.bel) hl HI.out HZ.out HO.out).mono ?_
    rw [HZ2.out]
    rintro e w3 ⟨rfl, hb3⟩
    replace HS := Lib.hid (HS.out.below hb3)
    clear hb3
    go_wp2_with fail
    refine wp_region_held_drew (S := (fun w' => Sx w w' [(w.heap.size + 2, y2.arr, 45), (w.heap.size + 1, y1.arr, 45), (w.heap.size, arr6 x1 x2, 60)] [])) (by kernel_rfl) ((HS.out.drew).bare) (fun hh => ?_)
    replace HS := Lib.hid HS.out.drew
    refine tkA (i := 0) (v := ?vpr4_0_k6) rfl (Or.inl ⟨by first | rfl | kernel_rfl, ?hypr4_0_k6⟩) (by assumption) ?repr4_0_k6
    case hypr4_0_k6 => (intro u hSu; (try dsimp only at hSu); obtain ⟨qb0c0, qb0c1, qb0c2, qb0c3, qb0c4, qb0c5, _⟩ := fac6 (x := x1) (y := x2) (hSu.at 2 _ _ _ rfl); clear hSu; (first | (go_simp; done) | (go_simp; with_reducible rfl)))
    try simp only [nb1, nb2, nb3, Act.put, nb4, nb5, nb6]
    refine rdA (i := 1) rfl (fun K hK => ?_)
    go_simp
    go_wp2_with (go_at_call 53; (with_reducible refine (unit_any _).mono ?_); rintro e w7 ⟨v7, rfl, ⟨z7a, z7b, rfl, hv7, hw7⟩, hb7⟩)
    refine hK.out _ _ (Sx.below hh hb7) (fun hh => ?_)
    clear hK K
    try simp only [nb1, nb2, nb3, Act.put, nb4, nb5, nb6]
    replace HS := Lib.hid (HS.out.below hb7)
    clear hb7
    replace HS := Lib.hid (HS.out.addQ hv7)
    clear hv7
    replace HS := Lib.hid (HS.out.addQ hw7)
    clear hw7
    refine rdA (i := 2) rfl (fun K hK => ?_)
    go_simp
    cases t8 : inB a b with
    | true =>
      have a10 := HS.out.q 5 _ _ rfl
      have a11 := HS.out.q 4 _ _ rfl
      have a12 := HS.out.q 1 _ _ rfl
      have a13 := HS.out.q 0 _ _ rfl
      go_wp2_with (go_at_call 52; (with_reducible refine (qinB_any a b _ _ _ (rngQ a10 a11) (rngQ a12 a13) (szQ_mono (szQ_of S0.out) (by omega)) (szQ_mono (szQ_of S1.out) (by omega))).mono ?_); rw [t8]; rintro e w9 ⟨rfl, hb9⟩)
      refine hK.out _ _ (Sx.below hh hb9) (fun hh => ?_)
      clear hK K
      try simp only [nb1, nb2, nb3, Act.put, nb4, nb5, nb6]
      replace HS := Lib.hid (HS.out.below hb9)
      clear hb9 a10 a11 a12 a13
      refine tkA (i := 3) (v := ?vpr4_3_k15) rfl (Or.inl ⟨by first | rfl | kernel_rfl, ?hypr4_3_k15⟩) (by assumption) ?repr4_3_k15
      case hypr4_3_k15 => (intro u hSu; (first | (go_simp; done) | (go_simp; with_reducible rfl)))
      try simp only [nb1, nb2, nb3, Act.put, nb4, nb5, nb6]
      refine wpAnyH_done (by kernel_rfl) ?_ _
      have HPB : Hid (partB a b = true) := (part_in HAB.out).trans t8
      have HPQ := Lib.hid (HG.out HZ2.out)
      obtain ⟨b0c0, b0c1, b0c2, b0c3, b0c4, b0c5, b0f0, b0f1, b0f2, b0f3, b0f4, b0f5⟩ := fac6 (x := x1) (y := x2) (HS.out.at 2 _ _ _ rfl)
      have b0l := blk_lt (HS.out.at 2 _ _ _ rfl)
      go_wp2_with fail
      clear b0c0 b0c1 b0c2 b0c3 b0c4 b0c5 b0f0 b0f1 b0f2 b0f3 b0f4 b0f5 b0l
      go_loopw [13] (fun u13 wr => ∃ (i : Nat) (c1 c2 : R3), i ≤ 257 ∧ u13 = .int .i64 i ∧ Hid (firstUp (enoughB a b p q wt k) i = -1) ∧ Hid (Sx w wr [(w.heap.size + 2, y2.arr, 45), (w.heap.size + 1, y1.arr, 45), (w.heap.size, arr6 c1 c2, 60)] [(false, c2.val, (curQ a b p q k i).2), (false, c1.val, (curQ a b p q k i).1), (false, y2.val, wt), (false, y1.val, t)]))
        (fun u _ => 257 - (intOf u).toNat)
      case atStart => exact ⟨0, x1, x2, Nat.zero_le _, rfl, Lib.hid rfl, Lib.hid (((((HS.out.bare).addQ (HS.out.q 3 _ _ rfl)).addQ (HS.out.q 2 _ _ rfl)).addQ (HS.out.q 5 _ _ rfl)).addQ (HS.out.q 4 _ _ rfl))⟩
      case round =>
        clear HS
        obtain ⟨i, c1, c2, hi, rfl, HOK, HS⟩ := hrel
        by_cases hlt : i < 257
        ·
          have hlt' : (i : Int) < 257 := by omega
          have hge' : (0 : Int) ≤ i := by omega
          have HLT := Lib.hid hlt
          have HCK := Lib.hid (cur_ok HK.out HPB.out HPQ.out.1 HAB.out HPQ.out.2 S0.out S1.out i)
          have hlt2 : (i : Int) ≤ 256 := by omega
          clear hlt
          obtain ⟨b0c0, b0c1, b0c2, b0c3, b0c4, b0c5, b0f0, b0f1, b0f2, b0f3, b0f4, b0f5⟩ := fac6 (x := c1) (y := c2) (HS.out.at 2 _ _ _ rfl)
          have b0l := blk_lt (HS.out.at 2 _ _ _ rfl)
          obtain ⟨b2c0, b2c1, b2c2, b2f0, b2f1, b2f2⟩ := fac3 (x := y2) (HS.out.at 0 _ _ _ rfl)
          have b2l := blk_lt (HS.out.at 0 _ _ _ rfl)
          go_wp2_with fail
          clear b0c0 b0c1 b0c2 b0c3 b0c4 b0c5 b0f0 b0f1 b0f2 b0f3 b0f4 b0f5 b0l b2c0 b2c1 b2c2 b2f0 b2f1 b2f2 b2l
          obtain ⟨c16, hc16⟩ : ∃ c, c = cmpR ((curQ a b p q k i).1) wt := ⟨_, rfl⟩
          have HC16 := Lib.hid hc16
          clear hc16
          refine (qcmp_any ((curQ a b p q k i).1) wt _ _ _ (HS.out.q 1 _ _ rfl) (HS.out.q 2 _ _ rfl) (szQ_mono (szQ_of HCK.out.2.2.1) (by omega)) (szQ_mono (szQ_of S4.out) (by omega))).mono ?_
          rw [← HC16.out]
          rintro e w16 ⟨rfl, hb16⟩
          replace HS := Lib.hid (HS.out.below hb16)
          clear hb16
          by_cases t17p : c16 ≥ 0
          ·
            have t17 : decide (c16 ≥ 0) = true := decide_eq_true t17p
            have T17 := Lib.hid t17p
            clear t17p
            go_wp2_with fail
            have hfi := firstUp_at HOK.out (show enoughB a b p q wt k i = true by show decide _ = true; rw [← HC16.out]; exact t17) HLT.out
            have HR : Hid (minOf es a b t wt k = ((i : Int), 0)) := by show _ = _; rw [HF.out, if_neg (by rw [HZ2.out]; simp), if_neg (by rw [HPB.out]; simp), hfi, if_pos (by omega)]
            clear hfi
            go_ret2
            exact ⟨by rw [HR.out] <;> rfl, HS.out.bel⟩
          ·
            have t17 : decide (c16 ≥ 0) = false := decide_eq_false t17p
            have T17 := Lib.hid t17p
            clear t17p
            go_wp2_with fail
            refine wp_region_held_drew (S := (fun w' => Sx w w' [(w.heap.size + 2, y2.arr, 45), (w.heap.size + 1, y1.arr, 45)] [])) (by kernel_rfl) ((HS.out.drew).erase 2) (fun hh => ?_)
            replace HS := Lib.hid HS.out.drew
            refine tkA (i := 1) (v := ?vpr18_1_k20) rfl (Or.inl ⟨by first | rfl | kernel_rfl, ?hypr18_1_k20⟩) (by assumption) ?repr18_1_k20
            case hypr18_1_k20 => (intro u hSu; (first | (go_simp; done) | (go_simp; with_reducible rfl)))
            try simp only [nb1, nb2, nb3, Act.put, nb4, nb5, nb6]
            refine tkA (i := 2) (v := ?vpr18_2_k22) rfl (Or.inl ⟨by first | rfl | kernel_rfl, ?hypr18_2_k22⟩) (by assumption) ?repr18_2_k22
            case hypr18_2_k22 => (intro u hSu; (try dsimp only at hSu); obtain ⟨qb1c0, qb1c1, qb1c2, _⟩ := fac3 (x := y1) (hSu.at 1 _ _ _ rfl); clear hSu; (first | (go_simp; done) | (go_simp; with_reducible rfl)))
            try simp only [nb1, nb2, nb3, Act.put, nb4, nb5, nb6]
            refine tkA (i := 4) (v := ?vpr18_4_k24) rfl (Or.inl ⟨by first | rfl | kernel_rfl, ?hypr18_4_k24⟩) (by assumption) ?repr18_4_k24
            case hypr18_4_k24 => (intro u hSu; (first | (go_simp; done) | (go_simp; with_reducible rfl)))
            try simp only [nb1, nb2, nb3, Act.put, nb4, nb5, nb6]
            refine wpAnyH_ready (rs := [0, 3]) (by kernel_rfl) (by simp) ?_
            refine AllReadyH.cons rfl (fun K hK => ?_) ?_
            ·
              obtain ⟨b0c0, b0c1, b0c2, b0c3, b0c4, b0c5, _⟩ := fac6 (x := c1) (y := c2) (HS.out.at 2 _ _ _ rfl)
              go_simp
              refine hK.out _ _ hh (fun hh => ?_)
              clear hK K b0c0 b0c1 b0c2 b0c3 b0c4 b0c5
              try simp only [nb1, nb2, nb3, Act.put, nb4, nb5, nb6]
              refine rdA (i := 3) rfl (fun K hK => ?_)
              go_simp
              have a26 := HS.out.q 3 _ _ rfl
              go_wp2_with (go_at_call 47; (with_reducible refine (HRT.out _ _ _ (HT.out.bQ HS.out.bel) a26).mono ?_); rintro e w25 ⟨v25, rfl, ⟨z25a, z25b, rfl, hv25, hw25⟩, hb25⟩)
              refine hK.out _ _ (Sx.below hh hb25) (fun hh => ?_)
              clear hK K
              try simp only [nb1, nb2, nb3, Act.put, nb4, nb5, nb6]
              replace HS := Lib.hid (HS.out.below hb25)
              clear hb25 a26
              replace HS := Lib.hid (HS.out.addQ hv25)
              clear hv25
              replace HS := Lib.hid (HS.out.addQ hw25)
              clear hw25
              refine rdA (i := 5) rfl (fun K hK => ?_)
              go_simp
              have a28 := HS.out.q 3 _ _ rfl
              have a29 := HS.out.q 2 _ _ rfl
              have a30 := HS.out.q 1 _ _ rfl
              have a31 := HS.out.q 0 _ _ rfl
              go_wp2_with (go_at_call 20; (with_reducible refine (qStepM_any ((curQ a b p q k i).1) ((curQ a b p q k i).2) p q k HK.out z HZK.out _ _ _ (rngQ a28 a29) (rngQ a30 a31) HCK.out.1 HPQ.out.1 HCK.out.2.1 HPQ.out.2 HCK.out.2.2.1 HCK.out.2.2.2 S2.out S3.out).mono ?_); rintro e w27 ⟨v27, rfl, ⟨z27a, z27b, rfl, hv27, hw27⟩, hb27⟩)
              refine hK.out _ _ (Sx.below hh hb27) (fun hh => ?_)
              clear hK K
              try simp only [nb1, nb2, nb3, Act.put, nb4, nb5, nb6]
              replace HS := Lib.hid (HS.out.below hb27)
              clear hb27 a28 a29 a30 a31
              replace HS := Lib.hid (HS.out.addQ hv27)
              clear hv27
              replace HS := Lib.hid (HS.out.addQ hw27)
              clear hw27
              refine tkA (i := 6) (v := ?vpr18_6_k33) rfl (Or.inl ⟨by first | rfl | kernel_rfl, ?hypr18_6_k33⟩) (by assumption) ?repr18_6_k33
              case hypr18_6_k33 => (intro u hSu; (first | (go_simp; done) | (go_simp; with_reducible rfl)))
              try simp only [nb1, nb2, nb3, Act.put, nb4, nb5, nb6]
              refine tkA (i := 7) (v := ?vpr18_7_k35) rfl (Or.inl ⟨by first | rfl | kernel_rfl, ?hypr18_7_k35⟩) (by assumption) ?repr18_7_k35
              case hypr18_7_k35 => (intro u hSu; (first | (go_simp; done) | (go_simp; with_reducible rfl)))
              try simp only [nb1, nb2, nb3, Act.put, nb4, nb5, nb6]
              refine tkA (i := 8) (v := ?vpr18_8_k37) rfl (Or.inl ⟨by first | rfl | kernel_rfl, ?hypr18_8_k37⟩) (by assumption) ?repr18_8_k37
              case hypr18_8_k37 => (intro u hSu; (first | (go_simp; done) | (go_simp; with_reducible rfl)))
              try simp only [nb1, nb2, nb3, Act.put, nb4, nb5, nb6]
              refine rdA (i := 9) rfl (fun K hK => ?_)
              obtain ⟨b0c0, b0c1, b0c2, b0c3, b0c4, b0c5, b0f0, b0f1, b0f2, b0f3, b0f4, b0f5⟩ := fac6 (x := c1) (y := c2) (HS.out.at 2 _ _ _ rfl)
              have b0l := blk_lt (HS.out.at 2 _ _ _ rfl)
              go_simp
              refine hK.out _ _ ((((HS.out).st_RR 2 c1 c2 z27a z27b rfl)).erase 2) (fun hh => ?_)
              clear hK K b0c0 b0c1 b0c2 b0c3 b0c4 b0c5 b0f0 b0f1 b0f2 b0f3 b0f4 b0f5 b0l
              try simp only [nb1, nb2, nb3, Act.put, nb4, nb5, nb6]
              generalize hW38 : ((((((w27).setCell _ _).setCell _ _).setCell _ _).setCell _ _).setCell _ _).setCell _ _ = W38 at *
              replace HS : Hid (Sx w W38 [(w.heap.size + 2, y2.arr, 45), (w.heap.size + 1, y1.arr, 45), (w.heap.size, arr6 z27a z27b, 60)] [(false, z27b.val, (upQ ((curQ a b p q k i).2 + q * (1 - (curQ a b p q k i).2)) k)), (false, z27a.val, (downQ ((curQ a b p q k i).1 + p * (1 - (curQ a b p q k i).1)) k)), (false, z25b.val, q), (false, z25a.val, p), (false, c2.val, (curQ a b p q k i).2), (false, c1.val, (curQ a b p q k i).1), (false, y2.val, wt), (false, y1.val, t)]) := by subst hW38; exact (HS.out).st_RR 2 c1 c2 z27a z27b rfl
              clear hW38
              refine wpAnyH_done (by kernel_rfl) ?_ _
              go_wp2_with fail
              have EQ1 : Hid ((curQ a b p q k (i + 1)).1 = downQ ((curQ a b p q k i).1 + p * (1 - (curQ a b p q k i).1)) k) := rfl
              have EQ2 : Hid ((curQ a b p q k (i + 1)).2 = upQ ((curQ a b p q k i).2 + q * (1 - (curQ a b p q k i).2)) k) := rfl
              exact ⟨⟨i + 1, z27a, z27b, by have := HLT.out; omega, by go_num, Lib.hid (firstUp_next HOK.out (by show decide _ = false; rw [← HC16.out]; exact t17)), Lib.hid (((((HS.out.bare).addQ (HS.out.q 7 _ _ rfl)).addQ (HS.out.q 6 _ _ rfl)).addQ (by rw [EQ1.out]; exact (HS.out.q 1 _ _ rfl))).addQ (by rw [EQ2.out]; exact (HS.out.q 0 _ _ rfl)))⟩, meas_up HLT.out⟩
            refine AllReadyH.cons rfl (fun K hK => ?_) AllReadyH.nil
            go_simp
            have a40 := HS.out.q 3 _ _ rfl
            go_wp2_with (go_at_call 47; (with_reducible refine (HRT.out _ _ _ (HT.out.bQ HS.out.bel) a40).mono ?_); rintro e w39 ⟨v39, rfl, ⟨z39a, z39b, rfl, hv39, hw39⟩, hb39⟩)
            refine hK.out _ _ (Sx.below hh hb39) (fun hh => ?_)
            clear hK K
            try simp only [nb1, nb2, nb3, Act.put, nb4, nb5, nb6]
            replace HS := Lib.hid (HS.out.below hb39)
            clear hb39 a40
            replace HS := Lib.hid (HS.out.addQ hv39)
            clear hv39
            replace HS := Lib.hid (HS.out.addQ hw39)
            clear hw39
            refine rdA (i := 0) rfl (fun K hK => ?_)
            obtain ⟨b0c0, b0c1, b0c2, b0c3, b0c4, b0c5, _⟩ := fac6 (x := c1) (y := c2) (HS.out.at 2 _ _ _ rfl)
            go_simp
            refine hK.out _ _ hh (fun hh => ?_)
            clear hK K b0c0 b0c1 b0c2 b0c3 b0c4 b0c5
            try simp only [nb1, nb2, nb3, Act.put, nb4, nb5, nb6]
            refine rdA (i := 5) rfl (fun K hK => ?_)
            go_simp
            have a42 := HS.out.q 3 _ _ rfl
            have a43 := HS.out.q 2 _ _ rfl
            have a44 := HS.out.q 1 _ _ rfl
            have a45 := HS.out.q 0 _ _ rfl
            go_wp2_with (go_at_call 20; (with_reducible refine (qStepM_any ((curQ a b p q k i).1) ((curQ a b p q k i).2) p q k HK.out z HZK.out _ _ _ (rngQ a42 a43) (rngQ a44 a45) HCK.out.1 HPQ.out.1 HCK.out.2.1 HPQ.out.2 HCK.out.2.2.1 HCK.out.2.2.2 S2.out S3.out).mono ?_); rintro e w41 ⟨v41, rfl, ⟨z41a, z41b, rfl, hv41, hw41⟩, hb41⟩)
            refine hK.out _ _ (Sx.below hh hb41) (fun hh => ?_)
            clear hK K
            try simp only [nb1, nb2, nb3, Act.put, nb4, nb5, nb6]
            replace HS := Lib.hid (HS.out.below hb41)
            clear hb41 a42 a43 a44 a45
            replace HS := Lib.hid (HS.out.addQ hv41)
            clear hv41
            replace HS := Lib.hid (HS.out.addQ hw41)
            clear hw41
            refine tkA (i := 6) (v := ?vpr18_6_k47) rfl (Or.inl ⟨by first | rfl | kernel_rfl, ?hypr18_6_k47⟩) (by assumption) ?repr18_6_k47
            case hypr18_6_k47 => (intro u hSu; (first | (go_simp; done) | (go_simp; with_reducible rfl)))
            try simp only [nb1, nb2, nb3, Act.put, nb4, nb5, nb6]
            refine tkA (i := 7) (v := ?vpr18_7_k49) rfl (Or.inl ⟨by first | rfl | kernel_rfl, ?hypr18_7_k49⟩) (by assumption) ?repr18_7_k49
            case hypr18_7_k49 => (intro u hSu; (first | (go_simp; done) | (go_simp; with_reducible rfl)))
            try simp only [nb1, nb2, nb3, Act.put, nb4, nb5, nb6]
            refine tkA (i := 8) (v := ?vpr18_8_k51) rfl (Or.inl ⟨by first | rfl | kernel_rfl, ?hypr18_8_k51⟩) (by assumption) ?repr18_8_k51
            case hypr18_8_k51 => (intro u hSu; (first | (go_simp; done) | (go_simp; with_reducible rfl)))
            try simp only [nb1, nb2, nb3, Act.put, nb4, nb5, nb6]
            refine rdA (i := 9) rfl (fun K hK => ?_)
            obtain ⟨b0c0, b0c1, b0c2, b0c3, b0c4, b0c5, b0f0, b0f1, b0f2, b0f3, b0f4, b0f5⟩ := fac6 (x := c1) (y := c2) (HS.out.at 2 _ _ _ rfl)
            have b0l := blk_lt (HS.out.at 2 _ _ _ rfl)
            go_simp
            refine hK.out _ _ ((((HS.out).st_RR 2 c1 c2 z41a z41b rfl)).erase 2) (fun hh => ?_)
            clear hK K b0c0 b0c1 b0c2 b0c3 b0c4 b0c5 b0f0 b0f1 b0f2 b0f3 b0f4 b0f5 b0l
            try simp only [nb1, nb2, nb3, Act.put, nb4, nb5, nb6]
            generalize hW52 : ((((((w41).setCell _ _).setCell _ _).setCell _ _).setCell _ _).setCell _ _).setCell _ _ = W52 at *
            replace HS : Hid (Sx w W52 [(w.heap.size + 2, y2.arr, 45), (w.heap.size + 1, y1.arr, 45), (w.heap.size, arr6 z41a z41b, 60)] [(false, z41b.val, (upQ ((curQ a b p q k i).2 + q * (1 - (curQ a b p q k i).2)) k)), (false, z41a.val, (downQ ((curQ a b p q k i).1 + p * (1 - (curQ a b p q k i).1)) k)), (false, z39b.val, q), (false, z39a.val, p), (false, c2.val, (curQ a b p q k i).2), (false, c1.val, (curQ a b p q k i).1), (false, y2.val, wt), (false, y1.val, t)]) := by subst hW52; exact (HS.out).st_RR 2 c1 c2 z41a z41b rfl
            clear hW52
            refine wpAnyH_done (by kernel_rfl) ?_ _
            go_wp2_with fail
            have EQ1 : Hid ((curQ a b p q k (i + 1)).1 = downQ ((curQ a b p q k i).1 + p * (1 - (curQ a b p q k i).1)) k) := rfl
            have EQ2 : Hid ((curQ a b p q k (i + 1)).2 = upQ ((curQ a b p q k i).2 + q * (1 - (curQ a b p q k i).2)) k) := rfl
            exact ⟨⟨i + 1, z41a, z41b, by have := HLT.out; omega, by go_num, Lib.hid (firstUp_next HOK.out (by show decide _ = false; rw [← HC16.out]; exact t17)), Lib.hid (((((HS.out.bare).addQ (HS.out.q 7 _ _ rfl)).addQ (HS.out.q 6 _ _ rfl)).addQ (by rw [EQ1.out]; exact (HS.out.q 1 _ _ rfl))).addQ (by rw [EQ2.out]; exact (HS.out.q 0 _ _ rfl)))⟩, meas_up HLT.out⟩
        ·
          obtain rfl : i = 257 := by omega
          have HR : Hid (minOf es a b t wt k = (0, 5)) := by show _ = _; rw [HF.out, if_neg (by rw [HZ2.out]; simp), if_neg (by rw [HPB.out]; simp), HOK.out]; rfl
          go_wp2_with fail
          go_ret2
          exact ⟨by rw [HR.out] <;> rfl, HS.out.bel⟩
    | false =>
      have a54 := HS.out.q 5 _ _ rfl
      have a55 := HS.out.q 4 _ _ rfl
      have a56 := HS.out.q 1 _ _ rfl
      have a57 := HS.out.q 0 _ _ rfl
      go_wp2_with (go_at_call 52; (with_reducible refine (qinB_any a b _ _ _ (rngQ a54 a55) (rngQ a56 a57) (szQ_mono (szQ_of S0.out) (by omega)) (szQ_mono (szQ_of S1.out) (by omega))).mono ?_); rw [t8]; rintro e w53 ⟨rfl, hb53⟩)
      refine hK.out _ _ (Sx.below hh hb53) (fun hh => ?_)
      clear hK K
      try simp only [nb1, nb2, nb3, Act.put, nb4, nb5, nb6]
      replace HS := Lib.hid (HS.out.below hb53)
      clear hb53 a54 a55 a56 a57
      refine tkA (i := 3) (v := ?vpr4_3_k59) rfl (Or.inl ⟨by first | rfl | kernel_rfl, ?hypr4_3_k59⟩) (by assumption) ?repr4_3_k59
      case hypr4_3_k59 => (intro u hSu; (first | (go_simp; done) | (go_simp; with_reducible rfl)))
      try simp only [nb1, nb2, nb3, Act.put, nb4, nb5, nb6]
      refine wpAnyH_done (by kernel_rfl) ?_ _
      obtain ⟨b0c0, b0c1, b0c2, b0c3, b0c4, b0c5, b0f0, b0f1, b0f2, b0f3, b0f4, b0f5⟩ := fac6 (x := x1) (y := x2) (HS.out.at 2 _ _ _ rfl)
      have b0l := blk_lt (HS.out.at 2 _ _ _ rfl)
      go_wp2_with fail
      clear b0c0 b0c1 b0c2 b0c3 b0c4 b0c5 b0f0 b0f1 b0f2 b0f3 b0f4 b0f5 b0l
      have HR : Hid (minOf es a b t wt k = (0, 1)) := by show _ = _; rw [HF.out, if_neg (by rw [HZ2.out]; simp), if_pos ((part_in HAB.out).trans t8)]
      go_ret2
      exact ⟨by rw [HR.out] <;> rfl, HS.out.bel⟩
  ·
    obtain ⟨er2, her2⟩ : ∃ c, c = ctErr es := ⟨_, rfl⟩
    have HER2 := Lib.hid her2
    rw [← her2] at hz2
    have en2 : (er2 == 0) = false := beq_eq_false_iff_ne.2 hz2
    have eo2 : (er2 != 0) = true := bne_iff_ne.2 hz2
    have ep2 : decide (er2 = 0) = false := decide_eq_false hz2
    have HNZ2 := Lib.hid hz2
    clear her2 hz2
    refine (qctable_any es _ _ (HT.out.bQ HS.out.bel) hl HI.out HZ.out HO.out).mono ?_
    rw [← HER2.out]
    rintro e w60 ⟨rfl, hb60⟩
    replace HS := Lib.hid (HS.out.below hb60)
    clear hb60
    go_wp2_with fail
    have HR : Hid (minOf es a b t wt k = (0, er2)) := by show _ = _; rw [HF.out, ← HER2.out, if_pos HNZ2.out]
    go_ret2
    exact ⟨by rw [HR.out] <;> rfl, HS.out.bel⟩
end Go.Proofs.YtmfochplnchgcaaGreat

namespace Go.Proofs.YtmfochplnchgcaaGreat
open Go.RowKit

theorem ofP_any (n d : Int) (w : World) (h : i64P (n, d)) : Calls Tryz.prog 11 #[.agg #[.int .i64 n, .int .i64 d]] w (RetRat (fracQ n d) w) := of_any n d w h.1.1 h.1.2 h.2.1 h.2.2
theorem qofP_any (n d : Int) (w : World) (h : i64P (n, d)) : Calls Tryz.prog 13 #[.agg #[.int .i64 n, .int .i64 d]] w (RetR (fracQ n d) w) := qof_any n d w h.1.1 h.1.2 h.2.1 h.2.2
set_option maxRecDepth 100000 in
set_option maxHeartbeats 4000000 in
theorem cureMinutes_any (rs : List RawE) (cn0 cd0 cn1 cd1 n d n2 d2 : Int) (k : Nat) (vt : Value) (w : World) (h : RawsOf w vt rs) (hr : ∀ i, i < rs.length → rawR (rs.getD i (0, (0, 0), (0, 0))))
    (hi : ∀ i, i < rs.length → -9223372036854775808 ≤ (rs.getD i (0, (0, 0), (0, 0))).1 ∧ (rs.getD i (0, (0, 0), (0, 0))).1 ≤ 9223372036854775807) (hc0 : i64P (cn0, cd0)) (hc1 : i64P (cn1, cd1)) (h1 : i64P (n, d)) (h2 : i64P (n2, d2)) (hk : k ≤ 255) :
    Calls Tryz.prog 6 #[vt, .agg #[.int .i64 cn0, .int .i64 cd0, .int .i64 cn1, .int .i64 cd1], .agg #[.int .i64 n, .int .i64 d], .agg #[.int .i64 n2, .int .i64 d2], .int .u8 (k : Int)] w (RetBool true w) := by
  have HS := Lib.hid (Sx.init w)
  have HRW := Lib.hid h
  have HRR := Lib.hid hr
  have HRI := Lib.hid hi
  have H1 := Lib.hid h1
  have H2 := Lib.hid h2
  obtain ⟨ao, cap, rfl, _⟩ := h
  obtain ⟨clo, hclo⟩ : ∃ x, x = (loQ (fracQ cn0 cd0) (fracQ cn1 cd1)) := ⟨_, rfl⟩
  obtain ⟨chi, hchi⟩ : ∃ x, x = (hiQ (fracQ cn0 cd0) (fracQ cn1 cd1)) := ⟨_, rfl⟩
  have HRPc : Hid (∀ W, Calls Tryz.prog 16 #[.agg #[.int .i64 cn0, .int .i64 cd0, .int .i64 cn1, .int .i64 cd1]] W (RetRng clo chi W)) := fun W => by rw [hclo, hchi]; exact lrange_any cn0 cd0 cn1 cd1 W hc0 hc1
  have HRQc : Hid (∀ W, Calls Tryz.prog 18 #[.agg #[.int .i64 cn0, .int .i64 cd0, .int .i64 cn1, .int .i64 cd1]] W (RetRngQ clo chi W)) := fun W => by rw [hclo, hchi]; exact refrange_any cn0 cd0 cn1 cd1 W hc0 hc1
  have ZC1 : Hid (szR clo 10000) := by show szR _ _; rw [hclo]; exact szR_mono (loQ_sz (fracP_sz hc0) (fracP_sz hc1)) (by omega)
  have ZC2 : Hid (szR chi 10000) := by show szR _ _; rw [hchi]; exact szR_mono (hiQ_sz (fracP_sz hc0) (fracP_sz hc1)) (by omega)
  have HOC : Hid (clo ≤ chi) := by show _ ≤ _; rw [hclo, hchi]; exact lo_hi _ _
  clear hr hi h1 h2 hclo hchi hc0 hc1
  by_cases hk4 : k ≤ 40
  ·
    have HK40 := Lib.hid hk4
    have tk1 : decide ((k : Int) > 40) = false := decide_eq_false (by omega)
    have tk2 : decide (40 < k) = false := decide_eq_false (by omega)
    have hwk : IntKind.i64.wrap (k : Int) = (k : Int) := IntWalk.i64_in _ (by omega)
    go_enter Tryz.func6, Tryz.ntmps6
    go_wp2_with fail
    generalize hW1 : (((w).alloc (.cells _ _)).alloc (.cells _ _)).alloc (.cells _ _) = W1 at *
    replace HS : Hid (Sx w W1 [(w.heap.size + 2, #[.int .i64 n2, .int .i64 d2], 25), (w.heap.size + 1, #[.int .i64 n, .int .i64 d], 25), (w.heap.size, #[.int .i64 cn0, .int .i64 cd0, .int .i64 cn1, .int .i64 cd1], 49)] []) := by subst hW1; exact (((HS.out).alloc (B := w.heap.size) rfl (by rfl)).alloc (B := w.heap.size + 1) (by simp) (by rfl)).alloc (B := w.heap.size + 2) (by simp) (by rfl)
    clear hW1
    by_cases htab : tabOk rs = true
    ·
      have HTAB := Lib.hid htab
      clear htab
      refine (table5_any rs _ _ (HRW.out.below HS.out.bel) HRR.out).mono ?_
      rintro e w2 hq2
      obtain ⟨va, vb, rfl, hta, htb, hb2⟩ := tab_good HTAB.out hq2
      have HTA := Lib.hid hta
      have HTB := Lib.hid htb
      clear hta htb hq2
      have hl : (entsE rs).length ≤ 1000 := by rw [entsE_len]; have := tabOk_len HTAB.out; omega
      have hS := entsE_sz rs HRR.out
      have hI := entsE_i rs HRI.out
      have hO := entsE_o rs
      have HMN : Hid (k ≤ 40 → ∀ W vt vx vy vz, TabOf IsRat W vt (entsE rs) → IsRng W vx clo chi → IsRat W vy (fracQ n d) → IsRat W vz (fracQ n2 d2) → Calls Tryz.prog 26 #[vt, vx, vy, vz, .int .i64 (k : Int)] W (RetTwoInt ((minOf (entsE rs) clo chi (fracQ n d) (fracQ n2 d2) k).1, (minOf (entsE rs) clo chi (fracQ n d) (fracQ n2 d2) k).2) W)) := fun hk W vt vx vy vz h1 h2 h3 h4 => minutes_any (entsE rs) clo chi _ _ k (k : Int) vt vx vy vz W h1 h2 h3 h4 hl hI hS hO (by omega) (by omega) HOC.out ZC1.out ZC2.out (szR_mono (fracP_sz H1.out) (by omega)) (szR_mono (fracP_sz H2.out) (by omega))
      have HMQ : Hid (k ≤ 40 → ∀ W vt vx vy vz, TabOf IsR W vt (entsE rs) → IsRngQ W vx clo chi → IsR W vy (fracQ n d) → IsR W vz (fracQ n2 d2) → Calls Tryz.prog 27 #[vt, vx, vy, vz, .int .i64 (k : Int)] W (RetTwoInt ((minOf (entsE rs) clo chi (fracQ n d) (fracQ n2 d2) k).1, (minOf (entsE rs) clo chi (fracQ n d) (fracQ n2 d2) k).2) W)) := fun hk W vt vx vy vz h1 h2 h3 h4 => qminutes_any (entsE rs) clo chi _ _ k (k : Int) vt vx vy vz W h1 h2 h3 h4 hl hI hS hO (by omega) (by omega) HOC.out ZC1.out ZC2.out (szR_mono (fracP_sz H1.out) (by omega)) (szR_mono (fracP_sz H2.out) (by omega))
      clear hl hS hI hO
      generalize minOf (entsE rs) clo chi (fracQ n d) (fracQ n2 d2) k = mo at *
      obtain ⟨m1, m2⟩ := mo
      generalize entsE rs = es at *
      replace HS := Lib.hid (HS.out.below hb2)
      clear hb2
      have HMK := Lib.hid (Below.refl w2.heap.size w2)
      go_wp2_with fail
      cases t3 : lightUp [(cn0, cd0), (cn1, cd1)] 2 with
      | true =>
        refine (light2_any cn0 cd0 cn1 cd1 _ _ (pairsB (HS.out.at 2 _ _ _ rfl))).mono ?_
        rw [t3]
        rintro e w4 ⟨rfl, hb4⟩
        replace HS := Lib.hid (HS.out.below hb4)
        replace HMK := Lib.hid (ext_trans HMK.out hb4)
        clear hb4
        have b1e := (HS.out.at 1 _ _ _ rfl)
        have b1c0 := blk_cell b1e 0 (.int .i64 n) rfl
        have b1c1 := blk_cell b1e 1 (.int .i64 d) rfl
        have b1f0 := blk_frozen b1e 0
        have b1f1 := blk_frozen b1e 1
        have b1l := blk_lt b1e
        clear b1e
        have b2e := (HS.out.at 0 _ _ _ rfl)
        have b2c0 := blk_cell b2e 0 (.int .i64 n2) rfl
        have b2c1 := blk_cell b2e 1 (.int .i64 d2) rfl
        have b2f0 := blk_frozen b2e 0
        have b2f1 := blk_frozen b2e 1
        have b2l := blk_lt b2e
        clear b2e
        go_wp2_with fail
        clear b1c0 b1c1 b1f0 b1f1 b1l b2c0 b2c1 b2f0 b2f1 b2l
        have HG6 : Hid (w2.heap.size ≤ w4.heap.size) := by first | exact HMK.out.size | (show _ ≤ _; have := HMK.out.size; omega)
        generalize hW5 : (w4).alloc (.cells _ _) = W5 at *
        replace HS : Hid (Sx w W5 [(w4.heap.size, #[.int .i64 n, .int .i64 d, .int .i64 n2, .int .i64 d2], 25), (w.heap.size + 2, #[.int .i64 n2, .int .i64 d2], 25), (w.heap.size + 1, #[.int .i64 n, .int .i64 d], 25), (w.heap.size, #[.int .i64 cn0, .int .i64 cd0, .int .i64 cn1, .int .i64 cd1], 49)] []) := by subst hW5; exact (HS.out).alloc (B := w4.heap.size) rfl (by rfl)
        replace HMK : Hid (Below w2.heap.size w2 W5) := by subst hW5; exact Lib.hid ((mk_alloc HMK.out))
        clear hW5
        cases t7 : lightUp [(n, d), (n2, d2)] 2 with
        | true =>
          refine (light2_any n d n2 d2 _ _ (pairsB (HS.out.at 0 _ _ _ rfl))).mono ?_
          rw [t7]
          rintro e w8 ⟨rfl, hb8⟩
          replace HS := Lib.hid (HS.out.below hb8)
          replace HMK := Lib.hid (ext_trans HMK.out hb8)
          clear hb8
          go_wp2_with fail
          refine wp_region_held_drew (S := (fun w' => Sx w w' [(w4.heap.size, #[.int .i64 n, .int .i64 d, .int .i64 n2, .int .i64 d2], 25), (w.heap.size + 2, #[.int .i64 n2, .int .i64 d2], 25), (w.heap.size + 1, #[.int .i64 n, .int .i64 d], 25), (w.heap.size, #[.int .i64 cn0, .int .i64 cd0, .int .i64 cn1, .int .i64 cd1], 49)] [])) (by kernel_rfl) ((HS.out.drew).bare) (fun hh => ?_)
          replace HS := Lib.hid HS.out.drew
          replace HMK := Lib.hid (ext_trans HMK.out (Below.refl _ _).drew)
          refine tkA (i := 0) (v := ?vpr9_0_k11) rfl (Or.inl ⟨by first | rfl | kernel_rfl, ?hypr9_0_k11⟩) (by assumption) ?repr9_0_k11
          case hypr9_0_k11 => (intro u hSu; (first | (go_simp; done) | (go_simp; with_reducible rfl)))
          try simp only [nb1, nb2, nb3, Act.put, nb4, nb5, nb6]
          refine tkA (i := 1) (v := ?vpr9_1_k13) rfl (Or.inl ⟨by first | rfl | kernel_rfl, ?hypr9_1_k13⟩) (by assumption) ?repr9_1_k13
          case hypr9_1_k13 => (intro u hSu; (try dsimp only at hSu); have qb0e := (hSu.at 3 _ _ _ rfl); have qb0c0 := blk_cell qb0e 0 (.int .i64 cn0) rfl; have qb0c1 := blk_cell qb0e 1 (.int .i64 cd0) rfl; have qb0c2 := blk_cell qb0e 2 (.int .i64 cn1) rfl; have qb0c3 := blk_cell qb0e 3 (.int .i64 cd1) rfl; clear qb0e; clear hSu; (first | (go_simp; done) | (go_simp; with_reducible rfl)))
          try simp only [nb1, nb2, nb3, Act.put, nb4, nb5, nb6]
          refine tkA (i := 3) (v := ?vpr9_3_k15) rfl (Or.inl ⟨by first | rfl | kernel_rfl, ?hypr9_3_k15⟩) (by assumption) ?repr9_3_k15
          case hypr9_3_k15 => (intro u hSu; (try dsimp only at hSu); have qb1e := (hSu.at 2 _ _ _ rfl); have qb1c0 := blk_cell qb1e 0 (.int .i64 n) rfl; have qb1c1 := blk_cell qb1e 1 (.int .i64 d) rfl; clear qb1e; clear hSu; (first | (go_simp; done) | (go_simp; with_reducible rfl)))
          try simp only [nb1, nb2, nb3, Act.put, nb4, nb5, nb6]
          refine tkA (i := 5) (v := ?vpr9_5_k17) rfl (Or.inl ⟨by first | rfl | kernel_rfl, ?hypr9_5_k17⟩) (by assumption) ?repr9_5_k17
          case hypr9_5_k17 => (intro u hSu; (try dsimp only at hSu); have qb2e := (hSu.at 1 _ _ _ rfl); have qb2c0 := blk_cell qb2e 0 (.int .i64 n2) rfl; have qb2c1 := blk_cell qb2e 1 (.int .i64 d2) rfl; clear qb2e; clear hSu; (first | (go_simp; done) | (go_simp; with_reducible rfl)))
          try simp only [nb1, nb2, nb3, Act.put, nb4, nb5, nb6]
          refine tkA (i := 7) (v := ?vpr9_7_k19) rfl (Or.inl ⟨by first | rfl | kernel_rfl, ?hypr9_7_k19⟩) (by assumption) ?repr9_7_k19
          case hypr9_7_k19 => (intro u hSu; (first | (go_simp; done) | (go_simp; with_reducible rfl)))
          try simp only [nb1, nb2, nb3, Act.put, nb4, nb5, nb6]
          refine tkA (i := 8) (v := ?vpr9_8_k21) rfl (Or.inl ⟨by first | rfl | kernel_rfl, ?hypr9_8_k21⟩) (by assumption) ?repr9_8_k21
          case hypr9_8_k21 => (intro u hSu; (first | (go_simp; done) | (go_simp; with_reducible rfl)))
          try simp only [nb1, nb2, nb3, Act.put, nb4, nb5, nb6]
          refine rdA (i := 2) rfl (fun K hK => ?_)
          go_simp
          go_wp2_with (go_at_call 16; (with_reducible refine (HRPc.out _).mono ?_); rintro e w22 ⟨v22, rfl, ⟨z22a, z22b, rfl, hv22, hw22⟩, hb22⟩)
          refine hK.out _ _ (Sx.below hh hb22) (fun hh => ?_)
          clear hK K
          try simp only [nb1, nb2, nb3, Act.put, nb4, nb5, nb6]
          replace HS := Lib.hid (HS.out.below hb22)
          replace HMK := Lib.hid (ext_trans HMK.out hb22)
          clear hb22
          replace HS := Lib.hid (HS.out.addP hv22)
          clear hv22
          replace HS := Lib.hid (HS.out.addP hw22)
          clear hw22
          refine rdA (i := 4) rfl (fun K hK => ?_)
          go_simp
          go_wp2_with (go_at_call 11; (with_reducible refine (ofP_any n d _ H1.out).mono ?_); rintro e w23 ⟨v23, rfl, hv23, hb23⟩; obtain ⟨z23, rfl⟩ := hv23.open3)
          refine hK.out _ _ (Sx.below hh hb23) (fun hh => ?_)
          clear hK K
          try simp only [nb1, nb2, nb3, Act.put, nb4, nb5, nb6]
          replace HS := Lib.hid (HS.out.below hb23)
          replace HMK := Lib.hid (ext_trans HMK.out hb23)
          clear hb23
          replace HS := Lib.hid (HS.out.addP hv23)
          clear hv23
          refine rdA (i := 6) rfl (fun K hK => ?_)
          go_simp
          go_wp2_with (go_at_call 11; (with_reducible refine (ofP_any n2 d2 _ H2.out).mono ?_); rintro e w24 ⟨v24, rfl, hv24, hb24⟩; obtain ⟨z24, rfl⟩ := hv24.open3)
          refine hK.out _ _ (Sx.below hh hb24) (fun hh => ?_)
          clear hK K
          try simp only [nb1, nb2, nb3, Act.put, nb4, nb5, nb6]
          replace HS := Lib.hid (HS.out.below hb24)
          replace HMK := Lib.hid (ext_trans HMK.out hb24)
          clear hb24
          replace HS := Lib.hid (HS.out.addP hv24)
          clear hv24
          refine rdA (i := 9) rfl (fun K hK => ?_)
          go_simp
          have a26 := HS.out.p 3 _ _ rfl
          have a27 := HS.out.p 2 _ _ rfl
          have a28 := HS.out.p 1 _ _ rfl
          have a29 := HS.out.p 0 _ _ rfl
          go_wp2_with (go_at_call 26; (with_reducible refine (HMN.out HK40.out _ _ _ _ _ (HTA.out.bP HMK.out) (rngP a26 a27) a28 a29).mono ?_); rintro e w25 ⟨rfl, hb25⟩)
          refine hK.out _ _ (Sx.below hh hb25) (fun hh => ?_)
          clear hK K
          try simp only [nb1, nb2, nb3, Act.put, nb4, nb5, nb6]
          replace HS := Lib.hid (HS.out.below hb25)
          replace HMK := Lib.hid (ext_trans HMK.out hb25)
          clear hb25 a26 a27 a28 a29
          refine tkA (i := 10) (v := ?vpr9_10_k31) rfl (Or.inl ⟨by first | rfl | kernel_rfl, ?hypr9_10_k31⟩) (by assumption) ?repr9_10_k31
          case hypr9_10_k31 => (intro u hSu; (first | (go_simp; done) | (go_simp; with_reducible rfl)))
          try simp only [nb1, nb2, nb3, Act.put, nb4, nb5, nb6]
          refine tkA (i := 11) (v := ?vpr9_11_k33) rfl (Or.inl ⟨by first | rfl | kernel_rfl, ?hypr9_11_k33⟩) (by assumption) ?repr9_11_k33
          case hypr9_11_k33 => (intro u hSu; (first | (go_simp; done) | (go_simp; with_reducible rfl)))
          try simp only [nb1, nb2, nb3, Act.put, nb4, nb5, nb6]
          refine tkA (i := 12) (v := ?vpr9_12_k35) rfl (Or.inl ⟨by first | rfl | kernel_rfl, ?hypr9_12_k35⟩) (by assumption) ?repr9_12_k35
          case hypr9_12_k35 => (intro u hSu; (first | (go_simp; done) | (go_simp; with_reducible rfl)))
          try simp only [nb1, nb2, nb3, Act.put, nb4, nb5, nb6]
          refine tkA (i := 13) (v := ?vpr9_13_k37) rfl (Or.inl ⟨by first | rfl | kernel_rfl, ?hypr9_13_k37⟩) (by assumption) ?repr9_13_k37
          case hypr9_13_k37 => (intro u hSu; (first | (go_simp; done) | (go_simp; with_reducible rfl)))
          try simp only [nb1, nb2, nb3, Act.put, nb4, nb5, nb6]
          refine tkA (i := 14) (v := ?vpr9_14_k39) rfl (Or.inl ⟨by first | rfl | kernel_rfl, ?hypr9_14_k39⟩) (by assumption) ?repr9_14_k39
          case hypr9_14_k39 => (intro u hSu; (first | (go_simp; done) | (go_simp; with_reducible rfl)))
          try simp only [nb1, nb2, nb3, Act.put, nb4, nb5, nb6]
          refine wpAnyH_done (by kernel_rfl) ?_ _
          have b0e := (HS.out.at 3 _ _ _ rfl)
          have b0c0 := blk_cell b0e 0 (.int .i64 cn0) rfl
          have b0c1 := blk_cell b0e 1 (.int .i64 cd0) rfl
          have b0c2 := blk_cell b0e 2 (.int .i64 cn1) rfl
          have b0c3 := blk_cell b0e 3 (.int .i64 cd1) rfl
          have b0f0 := blk_frozen b0e 0
          have b0f1 := blk_frozen b0e 1
          have b0f2 := blk_frozen b0e 2
          have b0f3 := blk_frozen b0e 3
          have b0l := blk_lt b0e
          clear b0e
          have b1e := (HS.out.at 2 _ _ _ rfl)
          have b1c0 := blk_cell b1e 0 (.int .i64 n) rfl
          have b1c1 := blk_cell b1e 1 (.int .i64 d) rfl
          have b1f0 := blk_frozen b1e 0
          have b1f1 := blk_frozen b1e 1
          have b1l := blk_lt b1e
          clear b1e
          have b2e := (HS.out.at 1 _ _ _ rfl)
          have b2c0 := blk_cell b2e 0 (.int .i64 n2) rfl
          have b2c1 := blk_cell b2e 1 (.int .i64 d2) rfl
          have b2f0 := blk_frozen b2e 0
          have b2f1 := blk_frozen b2e 1
          have b2l := blk_lt b2e
          clear b2e
          go_wp2_with fail
          clear b0c0 b0c1 b0c2 b0c3 b0f0 b0f1 b0f2 b0f3 b0l b1c0 b1c1 b1f0 b1f1 b1l b2c0 b2c1 b2f0 b2f1 b2l
          refine wp_region_held_drew (S := (fun w' => Sx w w' [(w4.heap.size, #[.int .i64 n, .int .i64 d, .int .i64 n2, .int .i64 d2], 25), (w.heap.size + 2, #[.int .i64 n2, .int .i64 d2], 25), (w.heap.size + 1, #[.int .i64 n, .int .i64 d], 25), (w.heap.size, #[.int .i64 cn0, .int .i64 cd0, .int .i64 cn1, .int .i64 cd1], 49)] [])) (by kernel_rfl) ((HS.out.drew).bare) (fun hh => ?_)
          replace HS := Lib.hid HS.out.drew
          replace HMK := Lib.hid (ext_trans HMK.out (Below.refl _ _).drew)
          refine tkA (i := 0) (v := ?vpr40_0_k42) rfl (Or.inl ⟨by first | rfl | kernel_rfl, ?hypr40_0_k42⟩) (by assumption) ?repr40_0_k42
          case hypr40_0_k42 => (intro u hSu; (first | (go_simp; done) | (go_simp; with_reducible rfl)))
          try simp only [nb1, nb2, nb3, Act.put, nb4, nb5, nb6]
          refine tkA (i := 1) (v := ?vpr40_1_k44) rfl (Or.inl ⟨by first | rfl | kernel_rfl, ?hypr40_1_k44⟩) (by assumption) ?repr40_1_k44
          case hypr40_1_k44 => (intro u hSu; (try dsimp only at hSu); have qb0e := (hSu.at 3 _ _ _ rfl); have qb0c0 := blk_cell qb0e 0 (.int .i64 cn0) rfl; have qb0c1 := blk_cell qb0e 1 (.int .i64 cd0) rfl; have qb0c2 := blk_cell qb0e 2 (.int .i64 cn1) rfl; have qb0c3 := blk_cell qb0e 3 (.int .i64 cd1) rfl; clear qb0e; clear hSu; (first | (go_simp; done) | (go_simp; with_reducible rfl)))
          try simp only [nb1, nb2, nb3, Act.put, nb4, nb5, nb6]
          refine tkA (i := 3) (v := ?vpr40_3_k46) rfl (Or.inl ⟨by first | rfl | kernel_rfl, ?hypr40_3_k46⟩) (by assumption) ?repr40_3_k46
          case hypr40_3_k46 => (intro u hSu; (try dsimp only at hSu); have qb1e := (hSu.at 2 _ _ _ rfl); have qb1c0 := blk_cell qb1e 0 (.int .i64 n) rfl; have qb1c1 := blk_cell qb1e 1 (.int .i64 d) rfl; clear qb1e; clear hSu; (first | (go_simp; done) | (go_simp; with_reducible rfl)))
          try simp only [nb1, nb2, nb3, Act.put, nb4, nb5, nb6]
          refine tkA (i := 5) (v := ?vpr40_5_k48) rfl (Or.inl ⟨by first | rfl | kernel_rfl, ?hypr40_5_k48⟩) (by assumption) ?repr40_5_k48
          case hypr40_5_k48 => (intro u hSu; (try dsimp only at hSu); have qb2e := (hSu.at 1 _ _ _ rfl); have qb2c0 := blk_cell qb2e 0 (.int .i64 n2) rfl; have qb2c1 := blk_cell qb2e 1 (.int .i64 d2) rfl; clear qb2e; clear hSu; (first | (go_simp; done) | (go_simp; with_reducible rfl)))
          try simp only [nb1, nb2, nb3, Act.put, nb4, nb5, nb6]
          refine tkA (i := 7) (v := ?vpr40_7_k50) rfl (Or.inl ⟨by first | rfl | kernel_rfl, ?hypr40_7_k50⟩) (by assumption) ?repr40_7_k50
          case hypr40_7_k50 => (intro u hSu; (first | (go_simp; done) | (go_simp; with_reducible rfl)))
          try simp only [nb1, nb2, nb3, Act.put, nb4, nb5, nb6]
          refine tkA (i := 8) (v := ?vpr40_8_k52) rfl (Or.inl ⟨by first | rfl | kernel_rfl, ?hypr40_8_k52⟩) (by assumption) ?repr40_8_k52
          case hypr40_8_k52 => (intro u hSu; (first | (go_simp; done) | (go_simp; with_reducible rfl)))
          try simp only [nb1, nb2, nb3, Act.put, nb4, nb5, nb6]
          refine rdA (i := 2) rfl (fun K hK => ?_)
          go_simp
          go_wp2_with (go_at_call 18; (with_reducible refine (HRQc.out _).mono ?_); rintro e w53 ⟨v53, rfl, ⟨z53a, z53b, rfl, hv53, hw53⟩, hb53⟩)
          refine hK.out _ _ (Sx.below hh hb53) (fun hh => ?_)
          clear hK K
          try simp only [nb1, nb2, nb3, Act.put, nb4, nb5, nb6]
          replace HS := Lib.hid (HS.out.below hb53)
          replace HMK := Lib.hid (ext_trans HMK.out hb53)
          clear hb53
          replace HS := Lib.hid (HS.out.addQ hv53)
          clear hv53
          replace HS := Lib.hid (HS.out.addQ hw53)
          clear hw53
          refine rdA (i := 4) rfl (fun K hK => ?_)
          go_simp
          go_wp2_with (go_at_call 13; (with_reducible refine (qofP_any n d _ H1.out).mono ?_); rintro e w54 ⟨v54, rfl, hv54, hb54⟩; obtain ⟨z54, rfl⟩ := hv54.open3)
          refine hK.out _ _ (Sx.below hh hb54) (fun hh => ?_)
          clear hK K
          try simp only [nb1, nb2, nb3, Act.put, nb4, nb5, nb6]
          replace HS := Lib.hid (HS.out.below hb54)
          replace HMK := Lib.hid (ext_trans HMK.out hb54)
          clear hb54
          replace HS := Lib.hid (HS.out.addQ hv54)
          clear hv54
          refine rdA (i := 6) rfl (fun K hK => ?_)
          go_simp
          go_wp2_with (go_at_call 13; (with_reducible refine (qofP_any n2 d2 _ H2.out).mono ?_); rintro e w55 ⟨v55, rfl, hv55, hb55⟩; obtain ⟨z55, rfl⟩ := hv55.open3)
          refine hK.out _ _ (Sx.below hh hb55) (fun hh => ?_)
          clear hK K
          try simp only [nb1, nb2, nb3, Act.put, nb4, nb5, nb6]
          replace HS := Lib.hid (HS.out.below hb55)
          replace HMK := Lib.hid (ext_trans HMK.out hb55)
          clear hb55
          replace HS := Lib.hid (HS.out.addQ hv55)
          clear hv55
          refine rdA (i := 9) rfl (fun K hK => ?_)
          go_simp
          have a57 := HS.out.q 3 _ _ rfl
          have a58 := HS.out.q 2 _ _ rfl
          have a59 := HS.out.q 1 _ _ rfl
          have a60 := HS.out.q 0 _ _ rfl
          go_wp2_with (go_at_call 27; (with_reducible refine (HMQ.out HK40.out _ _ _ _ _ (HTB.out.bQ HMK.out) (rngQ a57 a58) a59 a60).mono ?_); rintro e w56 ⟨rfl, hb56⟩)
          refine hK.out _ _ (Sx.below hh hb56) (fun hh => ?_)
          clear hK K
          try simp only [nb1, nb2, nb3, Act.put, nb4, nb5, nb6]
          replace HS := Lib.hid (HS.out.below hb56)
          replace HMK := Lib.hid (ext_trans HMK.out hb56)
          clear hb56 a57 a58 a59 a60
          refine tkA (i := 10) (v := ?vpr40_10_k62) rfl (Or.inl ⟨by first | rfl | kernel_rfl, ?hypr40_10_k62⟩) (by assumption) ?repr40_10_k62
          case hypr40_10_k62 => (intro u hSu; (first | (go_simp; done) | (go_simp; with_reducible rfl)))
          try simp only [nb1, nb2, nb3, Act.put, nb4, nb5, nb6]
          refine tkA (i := 11) (v := ?vpr40_11_k64) rfl (Or.inl ⟨by first | rfl | kernel_rfl, ?hypr40_11_k64⟩) (by assumption) ?repr40_11_k64
          case hypr40_11_k64 => (intro u hSu; (first | (go_simp; done) | (go_simp; with_reducible rfl)))
          try simp only [nb1, nb2, nb3, Act.put, nb4, nb5, nb6]
          refine tkA (i := 12) (v := ?vpr40_12_k66) rfl (Or.inl ⟨by first | rfl | kernel_rfl, ?hypr40_12_k66⟩) (by assumption) ?repr40_12_k66
          case hypr40_12_k66 => (intro u hSu; (first | (go_simp; done) | (go_simp; with_reducible rfl)))
          try simp only [nb1, nb2, nb3, Act.put, nb4, nb5, nb6]
          refine tkA (i := 13) (v := ?vpr40_13_k68) rfl (Or.inl ⟨by first | rfl | kernel_rfl, ?hypr40_13_k68⟩) (by assumption) ?repr40_13_k68
          case hypr40_13_k68 => (intro u hSu; (first | (go_simp; done) | (go_simp; with_reducible rfl)))
          try simp only [nb1, nb2, nb3, Act.put, nb4, nb5, nb6]
          refine tkA (i := 14) (v := ?vpr40_14_k70) rfl (Or.inl ⟨by first | rfl | kernel_rfl, ?hypr40_14_k70⟩) (by assumption) ?repr40_14_k70
          case hypr40_14_k70 => (intro u hSu; (first | (go_simp; done) | (go_simp; with_reducible rfl)))
          try simp only [nb1, nb2, nb3, Act.put, nb4, nb5, nb6]
          refine wpAnyH_done (by kernel_rfl) ?_ _
          have b0e := (HS.out.at 3 _ _ _ rfl)
          have b0c0 := blk_cell b0e 0 (.int .i64 cn0) rfl
          have b0c1 := blk_cell b0e 1 (.int .i64 cd0) rfl
          have b0c2 := blk_cell b0e 2 (.int .i64 cn1) rfl
          have b0c3 := blk_cell b0e 3 (.int .i64 cd1) rfl
          have b0f0 := blk_frozen b0e 0
          have b0f1 := blk_frozen b0e 1
          have b0f2 := blk_frozen b0e 2
          have b0f3 := blk_frozen b0e 3
          have b0l := blk_lt b0e
          clear b0e
          have b1e := (HS.out.at 2 _ _ _ rfl)
          have b1c0 := blk_cell b1e 0 (.int .i64 n) rfl
          have b1c1 := blk_cell b1e 1 (.int .i64 d) rfl
          have b1f0 := blk_frozen b1e 0
          have b1f1 := blk_frozen b1e 1
          have b1l := blk_lt b1e
          clear b1e
          have b2e := (HS.out.at 1 _ _ _ rfl)
          have b2c0 := blk_cell b2e 0 (.int .i64 n2) rfl
          have b2c1 := blk_cell b2e 1 (.int .i64 d2) rfl
          have b2f0 := blk_frozen b2e 0
          have b2f1 := blk_frozen b2e 1
          have b2l := blk_lt b2e
          clear b2e
          go_wp2_with fail
          clear b0c0 b0c1 b0c2 b0c3 b0f0 b0f1 b0f2 b0f3 b0l b1c0 b1c1 b1f0 b1f1 b1l b2c0 b2c1 b2f0 b2f1 b2l
          refine (awake05_any _).mono ?_
          rintro e w71 ⟨rfl, hb71⟩
          replace HS := Lib.hid (HS.out.below hb71)
          replace HMK := Lib.hid (ext_trans HMK.out hb71)
          clear hb71
          go_wp2_with fail
          go_ret
          exact ⟨by simp, HS.out.bel⟩
        | false =>
          refine (light2_any n d n2 d2 _ _ (pairsB (HS.out.at 0 _ _ _ rfl))).mono ?_
          rw [t7]
          rintro e w72 ⟨rfl, hb72⟩
          replace HS := Lib.hid (HS.out.below hb72)
          replace HMK := Lib.hid (ext_trans HMK.out hb72)
          clear hb72
          go_wp2_with fail
          refine (awake05_any _).mono ?_
          rintro e w73 ⟨rfl, hb73⟩
          replace HS := Lib.hid (HS.out.below hb73)
          replace HMK := Lib.hid (ext_trans HMK.out hb73)
          clear hb73
          go_wp2_with fail
          go_ret
          exact ⟨by simp, HS.out.bel⟩
      | false =>
        refine (light2_any cn0 cd0 cn1 cd1 _ _ (pairsB (HS.out.at 2 _ _ _ rfl))).mono ?_
        rw [t3]
        rintro e w74 ⟨rfl, hb74⟩
        replace HS := Lib.hid (HS.out.below hb74)
        replace HMK := Lib.hid (ext_trans HMK.out hb74)
        clear hb74
        go_wp2_with fail
        refine (awake05_any _).mono ?_
        rintro e w75 ⟨rfl, hb75⟩
        replace HS := Lib.hid (HS.out.below hb75)
        replace HMK := Lib.hid (ext_trans HMK.out hb75)
        clear hb75
        go_wp2_with fail
        go_ret
        exact ⟨by simp, HS.out.bel⟩
    ·
      have htab2 : tabOk rs = false := by simpa using htab
      have HTAB := Lib.hid htab2
      clear htab htab2
      refine (table5_any rs _ _ (HRW.out.below HS.out.bel) HRR.out).mono ?_
      rintro e w76 hq76
      obtain ⟨rfl, hb76⟩ := tab_bad HTAB.out hq76
      clear hq76
      replace HS := Lib.hid (HS.out.below hb76)
      clear hb76
      go_wp2_with fail
      refine (awake05_any _).mono ?_
      rintro e w77 ⟨rfl, hb77⟩
      replace HS := Lib.hid (HS.out.below hb77)
      clear hb77
      go_wp2_with fail
      go_ret
      exact ⟨by simp, HS.out.bel⟩
  ·
    have tk1 : decide ((k : Int) > 40) = true := decide_eq_true (by omega)
    have tk2 : decide (40 < k) = true := decide_eq_true (by omega)
    go_enter Tryz.func6, Tryz.ntmps6
    go_wp2_with fail
    generalize hW78 : (((w).alloc (.cells _ _)).alloc (.cells _ _)).alloc (.cells _ _) = W78 at *
    replace HS : Hid (Sx w W78 [(w.heap.size + 2, #[.int .i64 n2, .int .i64 d2], 25), (w.heap.size + 1, #[.int .i64 n, .int .i64 d], 25), (w.heap.size, #[.int .i64 cn0, .int .i64 cd0, .int .i64 cn1, .int .i64 cd1], 49)] []) := by subst hW78; exact (((HS.out).alloc (B := w.heap.size) rfl (by rfl)).alloc (B := w.heap.size + 1) (by simp) (by rfl)).alloc (B := w.heap.size + 2) (by simp) (by rfl)
    clear hW78
    by_cases htab : tabOk rs = true
    ·
      have HTAB := Lib.hid htab
      clear htab
      refine (table5_any rs _ _ (HRW.out.below HS.out.bel) HRR.out).mono ?_
      rintro e w79 hq79
      obtain ⟨va, vb, rfl, hta, htb, hb79⟩ := tab_good HTAB.out hq79
      have HTA := Lib.hid hta
      have HTB := Lib.hid htb
      clear hta htb hq79
      have hl : (entsE rs).length ≤ 1000 := by rw [entsE_len]; have := tabOk_len HTAB.out; omega
      have hS := entsE_sz rs HRR.out
      have hI := entsE_i rs HRI.out
      have hO := entsE_o rs
      have HMN : Hid (k ≤ 40 → ∀ W vt vx vy vz, TabOf IsRat W vt (entsE rs) → IsRng W vx clo chi → IsRat W vy (fracQ n d) → IsRat W vz (fracQ n2 d2) → Calls Tryz.prog 26 #[vt, vx, vy, vz, .int .i64 (k : Int)] W (RetTwoInt ((minOf (entsE rs) clo chi (fracQ n d) (fracQ n2 d2) k).1, (minOf (entsE rs) clo chi (fracQ n d) (fracQ n2 d2) k).2) W)) := fun hk W vt vx vy vz h1 h2 h3 h4 => minutes_any (entsE rs) clo chi _ _ k (k : Int) vt vx vy vz W h1 h2 h3 h4 hl hI hS hO (by omega) (by omega) HOC.out ZC1.out ZC2.out (szR_mono (fracP_sz H1.out) (by omega)) (szR_mono (fracP_sz H2.out) (by omega))
      have HMQ : Hid (k ≤ 40 → ∀ W vt vx vy vz, TabOf IsR W vt (entsE rs) → IsRngQ W vx clo chi → IsR W vy (fracQ n d) → IsR W vz (fracQ n2 d2) → Calls Tryz.prog 27 #[vt, vx, vy, vz, .int .i64 (k : Int)] W (RetTwoInt ((minOf (entsE rs) clo chi (fracQ n d) (fracQ n2 d2) k).1, (minOf (entsE rs) clo chi (fracQ n d) (fracQ n2 d2) k).2) W)) := fun hk W vt vx vy vz h1 h2 h3 h4 => qminutes_any (entsE rs) clo chi _ _ k (k : Int) vt vx vy vz W h1 h2 h3 h4 hl hI hS hO (by omega) (by omega) HOC.out ZC1.out ZC2.out (szR_mono (fracP_sz H1.out) (by omega)) (szR_mono (fracP_sz H2.out) (by omega))
      clear hl hS hI hO
      generalize minOf (entsE rs) clo chi (fracQ n d) (fracQ n2 d2) k = mo at *
      obtain ⟨m1, m2⟩ := mo
      generalize entsE rs = es at *
      replace HS := Lib.hid (HS.out.below hb79)
      clear hb79
      have HMK := Lib.hid (Below.refl w79.heap.size w79)
      go_wp2_with fail
      cases t80 : lightUp [(cn0, cd0), (cn1, cd1)] 2 with
      | true =>
        refine (light2_any cn0 cd0 cn1 cd1 _ _ (pairsB (HS.out.at 2 _ _ _ rfl))).mono ?_
        rw [t80]
        rintro e w81 ⟨rfl, hb81⟩
        replace HS := Lib.hid (HS.out.below hb81)
        replace HMK := Lib.hid (ext_trans HMK.out hb81)
        clear hb81
        have b1e := (HS.out.at 1 _ _ _ rfl)
        have b1c0 := blk_cell b1e 0 (.int .i64 n) rfl
        have b1c1 := blk_cell b1e 1 (.int .i64 d) rfl
        have b1f0 := blk_frozen b1e 0
        have b1f1 := blk_frozen b1e 1
        have b1l := blk_lt b1e
        clear b1e
        have b2e := (HS.out.at 0 _ _ _ rfl)
        have b2c0 := blk_cell b2e 0 (.int .i64 n2) rfl
        have b2c1 := blk_cell b2e 1 (.int .i64 d2) rfl
        have b2f0 := blk_frozen b2e 0
        have b2f1 := blk_frozen b2e 1
        have b2l := blk_lt b2e
        clear b2e
        go_wp2_with fail
        clear b1c0 b1c1 b1f0 b1f1 b1l b2c0 b2c1 b2f0 b2f1 b2l
        have HG83 : Hid (w79.heap.size ≤ w81.heap.size) := by first | exact HMK.out.size | (show _ ≤ _; have := HMK.out.size; omega)
        generalize hW82 : (w81).alloc (.cells _ _) = W82 at *
        replace HS : Hid (Sx w W82 [(w81.heap.size, #[.int .i64 n, .int .i64 d, .int .i64 n2, .int .i64 d2], 25), (w.heap.size + 2, #[.int .i64 n2, .int .i64 d2], 25), (w.heap.size + 1, #[.int .i64 n, .int .i64 d], 25), (w.heap.size, #[.int .i64 cn0, .int .i64 cd0, .int .i64 cn1, .int .i64 cd1], 49)] []) := by subst hW82; exact (HS.out).alloc (B := w81.heap.size) rfl (by rfl)
        replace HMK : Hid (Below w79.heap.size w79 W82) := by subst hW82; exact Lib.hid ((mk_alloc HMK.out))
        clear hW82
        cases t84 : lightUp [(n, d), (n2, d2)] 2 with
        | true =>
          refine (light2_any n d n2 d2 _ _ (pairsB (HS.out.at 0 _ _ _ rfl))).mono ?_
          rw [t84]
          rintro e w85 ⟨rfl, hb85⟩
          replace HS := Lib.hid (HS.out.below hb85)
          replace HMK := Lib.hid (ext_trans HMK.out hb85)
          clear hb85
          go_wp2_with fail
          refine (awake05_any _).mono ?_
          rintro e w86 ⟨rfl, hb86⟩
          replace HS := Lib.hid (HS.out.below hb86)
          replace HMK := Lib.hid (ext_trans HMK.out hb86)
          clear hb86
          go_wp2_with fail
          go_ret
          exact ⟨by simp, HS.out.bel⟩
        | false =>
          refine (light2_any n d n2 d2 _ _ (pairsB (HS.out.at 0 _ _ _ rfl))).mono ?_
          rw [t84]
          rintro e w87 ⟨rfl, hb87⟩
          replace HS := Lib.hid (HS.out.below hb87)
          replace HMK := Lib.hid (ext_trans HMK.out hb87)
          clear hb87
          go_wp2_with fail
          refine (awake05_any _).mono ?_
          rintro e w88 ⟨rfl, hb88⟩
          replace HS := Lib.hid (HS.out.below hb88)
          replace HMK := Lib.hid (ext_trans HMK.out hb88)
          clear hb88
          go_wp2_with fail
          go_ret
          exact ⟨by simp, HS.out.bel⟩
      | false =>
        refine (light2_any cn0 cd0 cn1 cd1 _ _ (pairsB (HS.out.at 2 _ _ _ rfl))).mono ?_
        rw [t80]
        rintro e w89 ⟨rfl, hb89⟩
        replace HS := Lib.hid (HS.out.below hb89)
        replace HMK := Lib.hid (ext_trans HMK.out hb89)
        clear hb89
        go_wp2_with fail
        refine (awake05_any _).mono ?_
        rintro e w90 ⟨rfl, hb90⟩
        replace HS := Lib.hid (HS.out.below hb90)
        replace HMK := Lib.hid (ext_trans HMK.out hb90)
        clear hb90
        go_wp2_with fail
        go_ret
        exact ⟨by simp, HS.out.bel⟩
    ·
      have htab2 : tabOk rs = false := by simpa using htab
      have HTAB := Lib.hid htab2
      clear htab htab2
      refine (table5_any rs _ _ (HRW.out.below HS.out.bel) HRR.out).mono ?_
      rintro e w91 hq91
      obtain ⟨rfl, hb91⟩ := tab_bad HTAB.out hq91
      clear hq91
      replace HS := Lib.hid (HS.out.below hb91)
      clear hb91
      go_wp2_with fail
      refine (awake05_any _).mono ?_
      rintro e w92 ⟨rfl, hb92⟩
      replace HS := Lib.hid (HS.out.below hb92)
      clear hb92
      go_wp2_with fail
      go_ret
      exact ⟨by simp, HS.out.bel⟩
end Go.Proofs.YtmfochplnchgcaaGreat
