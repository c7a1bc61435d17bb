/- Part m of the lemmas and walks. -/
import Derived.Test.YtmfochplnchgcaaGg
import Derived.Test.YtmfochplnchgcaaGl

/- THE WALKS of the reference's CheckRules and Next; printed by wip/tools/gen_cw.py. -/
namespace Go.Proofs.Ytmfochplnchgcaa
open Go.RowKit

theorem errRules_bad {r : Ru} (h : ¬ GoodRules r) : errRules r = 1 := by
  unfold errRules
  rw [if_neg (fun hr => h (rulesOk_good hr))]
theorem okRow_false {r : Ru} {i d : Nat} (hd : d ≤ 3) (h : okRow r i d = false) : okRow r i 3 = false := by
  rcases (show d = 0 ∨ d = 1 ∨ d = 2 ∨ d = 3 by omega) with rfl | rfl | rfl | rfl
  · show ((okRow r i 0 && _) && _ && _) = false
    rw [h]
    rfl
  · show ((okRow r i 1 && _) && _) = false
    rw [h]
    rfl
  · show (okRow r i 2 && _) = false
    rw [h]
    rfl
  · exact h
theorem okUp_false {r : Ru} {i : Nat} (hi : i ≤ 3) (h : okUp r i = false) : errRules r = 1 := by
  have key : okUp r 3 = false := by
    rcases (show i = 0 ∨ i = 1 ∨ i = 2 ∨ i = 3 by omega) with rfl | rfl | rfl | rfl
    · show ((okUp r 0 && _) && _ && _) = false
      rw [h]
      rfl
    · show ((okUp r 1 && _) && _) = false
      rw [h]
      rfl
    · show (okUp r 2 && _) = false
      rw [h]
      rfl
    · exact h
  unfold errRules
  rw [← okUp_three, key]
  rfl
theorem inR_no1 {n lo hi : Int} (h : n < lo) : inR n lo hi = false := by unfold inR; rw [decide_eq_false (by omega)]; rfl
theorem inR_no2 {n lo hi : Int} (h : hi < n) : inR n lo hi = false := by unfold inR; rw [decide_eq_false (show ¬ n ≤ hi by omega)]; simp
theorem inR_ok {n lo hi : Int} (h1 : lo ≤ n) (h2 : n ≤ hi) : inR n lo hi = true := by unfold inR; rw [decide_eq_true h1, decide_eq_true h2]; rfl
set_option maxRecDepth 100000 in
set_option maxHeartbeats 2000000 in
theorem qcheckRules_any (r : Ru) (w : World) : Calls Try.prog 14 #[ruV r] w (RetIntS (errRules r) (w.alloc (ruQ r))) := by
  by_cases p1 : r.pa < 0
  · have t1 : decide (r.pa < 0) = true := decide_eq_true p1
    have he := okUp_false (r := r) (i := 0) (by omega) (inR_no1 p1)
    clear p1
    go_enter Try.func14, Try.ntmps14
    go_wp2_with fail
    go_ret
    exact ⟨by rw [he]; rfl, rfl⟩
  · have t1 : decide (r.pa < 0) = false := decide_eq_false p1
    by_cases p2 : r.pa > 256
    · have t2 : decide (r.pa > 256) = true := decide_eq_true p2
      have he := okUp_false (r := r) (i := 0) (by omega) (inR_no2 p2)
      clear p1 p2
      go_enter Try.func14, Try.ntmps14
      go_wp2_with fail
      go_ret
      exact ⟨by rw [he]; rfl, rfl⟩
    · have t2 : decide (r.pa > 256) = false := decide_eq_false p2
      have H0 : Hid (okUp r 0 = true) := inR_ok (by omega) (by omega)
      clear p1 p2
      go_enter Try.func14, Try.ntmps14
      go_wp2_with fail
      generalize hW0 : w.alloc (.cells (ruA r) 37) = W at *
      obtain ⟨hal, hB1⟩ := box1 w _ _ W hW0.symm
      have HB1 := Lib.hid hB1
      clear hal hB1 hW0 t1 t2
      go_loopw [3] (fun iv wr => ∃ (i : Nat), i ≤ 3 ∧ iv = .int .i64 i ∧ W = wr ∧ Hid (okUp r i = true))
        (fun iv _ => 3 - (intOf iv).toNat)
      case atStart => exact ⟨0, by omega, rfl, rfl, H0⟩
      case round =>
        obtain ⟨i, hi, rfl, rfl, HO⟩ := hrel
        by_cases hlt : i < 3
        · have hlt' : (i : Int) < 3 := by omega
          have hi0 : (0 : Int) ≤ i := by omega
          have HLT := Lib.hid hlt
          have k8 := blk_cell HB1.out _ _ (ruA_mn r i hlt)
          have HTB : Hid (∀ d, d < 3 → W.cell? ⟨w.heap.size, 4 + i * 3 + d, none⟩ = some (.int .i64 (r.tb ((i : Int) + 1) d))) := fun d hd => blk_cell HB1.out _ _ (ruA_tb r i d HLT.out hd)
          have H1 : Hid (okRow r i 0 = inR (r.mn ((i : Int) + 1)) 1 256) := rfl
          have HUP : Hid (okUp r (i + 1) = (okUp r i && okRow r i 3)) := rfl
          have HBAD : Hid (∀ d, d ≤ 3 → okRow r i d = false → errRules r = 1) := fun d hd h => okUp_false (i := i + 1) (by have := HLT.out; omega) (by rw [HUP.out, okRow_false hd h]; simp)
          generalize r.mn ((i : Int) + 1) = m at *
          clear hlt
          by_cases m1 : m < 1
          · have t1 : decide (m < 1) = true := decide_eq_true m1
            have he := Lib.hid (HBAD.out 0 (by omega) (by rw [H1.out]; exact inR_no1 m1))
            clear m1
            go_wp2_with fail
            go_ret
            exact ⟨by rw [he.out]; rfl, rfl⟩
          · have t1 : decide (m < 1) = false := decide_eq_false m1
            by_cases m2 : m > 256
            · have t2 : decide (m > 256) = true := decide_eq_true m2
              have he := Lib.hid (HBAD.out 0 (by omega) (by rw [H1.out]; exact inR_no2 m2))
              clear m1 m2
              go_wp2_with fail
              go_ret
              exact ⟨by rw [he.out]; rfl, rfl⟩
            · have t2 : decide (m > 256) = false := decide_eq_false m2
              have HR0 : Hid (okRow r i 0 = true) := by show _ = _; rw [H1.out]; exact inR_ok (by omega) (by omega)
              clear m1 m2
              go_wp2_with fail
              clear k8 t1 t2
              go_loopw [4] (fun iv wr => ∃ (d : Nat), d ≤ 3 ∧ iv = .int .i64 d ∧ W = wr ∧ Hid (okRow r i d = true))
                (fun iv _ => 3 - (intOf iv).toNat)
              case atStart => exact ⟨0, by omega, rfl, rfl, HR0⟩
              case round =>
                obtain ⟨d, hd, rfl, rfl, HD⟩ := hrel
                by_cases hdl : d < 3
                · have hdl' : (d : Int) < 3 := by omega
                  have hd0 : (0 : Int) ≤ d := by omega
                  have HDL := Lib.hid hdl
                  have k9 := HTB.out d hdl
                  have H2 : Hid (okRow r i (d + 1) = (okRow r i d && inR (r.tb ((i : Int) + 1) d) 0 3)) := rfl
                  generalize r.tb ((i : Int) + 1) d = t at *
                  clear hdl
                  by_cases m1 : t < 0
                  · have t1 : decide (t < 0) = true := decide_eq_true m1
                    have he := Lib.hid (HBAD.out (d + 1) (by have := HDL.out; omega) (by rw [H2.out, inR_no1 m1]; simp))
                    clear m1
                    go_wp2_with fail
                    go_ret
                    exact ⟨by rw [he.out]; rfl, rfl⟩
                  · have t1 : decide (t < 0) = false := decide_eq_false m1
                    by_cases m2 : t > 3
                    · have t2 : decide (t > 3) = true := decide_eq_true m2
                      have he := Lib.hid (HBAD.out (d + 1) (by have := HDL.out; omega) (by rw [H2.out, inR_no2 m2]; simp))
                      clear m1 m2
                      go_wp2_with fail
                      go_ret
                      exact ⟨by rw [he.out]; rfl, rfl⟩
                    · have t2 : decide (t > 3) = false := decide_eq_false m2
                      have HR1 : Hid (okRow r i (d + 1) = true) := by show _ = _; rw [H2.out, HD.out, inR_ok (by omega) (by omega)]; rfl
                      clear m1 m2
                      go_wp2_with fail
                      exact ⟨⟨d + 1, by have := HDL.out; omega, by go_num, by first | rfl | trivial, HR1⟩, meas_up HDL.out⟩
                · obtain rfl : d = 3 := by omega
                  have HU1 : Hid (okUp r (i + 1) = true) := by show _ = _; rw [HUP.out, HO.out, HD.out]; rfl
                  go_wp2_with fail
                  exact ⟨⟨i + 1, by have := HLT.out; omega, by go_num, by first | rfl | trivial, HU1⟩, meas_up HLT.out⟩
        · obtain rfl : i = 3 := by omega
          have he : Hid (errRules r = 0) := by
            show _ = _
            unfold errRules
            rw [← okUp_three, HO.out]
            rfl
          go_wp2_with fail
          go_ret
          exact ⟨by rw [he.out]; rfl, rfl⟩
set_option maxRecDepth 100000 in
set_option maxHeartbeats 2000000 in
theorem qNext_rules (r : Ru) (x : Rn) (e : Int) (h : rulesOk r = false) (w : World) : Calls Try.prog 12 #[ruV r, rnV x, .int .i64 e] w (RetNE (rn0, 1) w) := by
  have he : errRules r = 1 := by unfold errRules; rw [h]; rfl
  clear h
  go_enter Try.func12, Try.ntmps12
  go_wp2_with fail
  refine (qcheckRules_any r _).mono ?_
  rintro e w1 ⟨rfl, rfl⟩
  rw [he]
  go_wp2_with fail
  refine bodyPost_ret (v := .tuple #[rnV rn0, .int .i64 1]) (by simp [results, Try.results12, go_sem, rn0]) rfl ⟨rfl, ?_⟩
  exact ba (ba (below2 _ _ _))
set_option maxRecDepth 100000 in
set_option maxHeartbeats 2000000 in
theorem qNext_wrong (r : Ru) (x : Rn) (e : Int) (h : rulesOk r = true) (hr : right r x = false) (w : World) : Calls Try.prog 12 #[ruV r, rnV x, .int .i64 e] w (RetNE (rn0, 1) w) := by
  have he : errRules r = 0 := by unfold errRules; rw [h]; rfl
  go_enter Try.func12, Try.ntmps12
  go_wp2_with fail
  refine (qcheckRules_any r _).mono ?_
  rintro e' w1 ⟨rfl, rfl⟩
  rw [he]
  go_wp2_with fail
  generalize hW0 : ((w.alloc (.cells (ruA r) 37)).alloc (.cells (rnA x) 34)).alloc (.cells _ _) = W1 at *
  obtain ⟨hal, hB1, hB2, hB3, hWs⟩ := bx3 w _ _ _ W1 hW0.symm
  have hal' := ba (o := ruQ r) hal
  have hC1 := (heap_alloc_old _ (ruQ r) (blk_lt hB1)).trans hB1
  have hC2 := (heap_alloc_old _ (ruQ r) (blk_lt hB2)).trans hB2
  have hC3 := (heap_alloc_old _ (ruQ r) (blk_lt hB3)).trans hB3
  clear hW0 hal hB1 hB2 hB3 hWs he
  generalize W1.alloc (ruQ r) = W at *
  refine (qRight_any r x _).mono ?_
  rintro e' w1 ⟨rfl, hb⟩
  have D1 := Lib.hid (blk_keep hC1 hb (blk_lt hC1))
  have D2 := Lib.hid (blk_keep hC2 hb (blk_lt hC2))
  have D3 := Lib.hid (blk_keep hC3 hb (blk_lt hC3))
  have HB := Lib.hid (hal'.trans (hb.mono hal'.size))
  clear hC1 hC2 hC3 hb hal'
  obtain ⟨f0, f1, f2, f3, f4, f5, f6, f7⟩ := rnfg (x := rn0) D3.out
  obtain ⟨g0, g1, g2, g3, g4, g5, g6, g7⟩ := rn8g (x := rn0) D3.out
  rw [hr]
  go_wp2_with fail
  obtain ⟨h0, h1, h2, h3, h4, h5, h6, h7⟩ := rn8g (x := rn0) (set8 (u0 := .int .i64 0) (u1 := .int .i64 0) (u2 := .int .i64 0) (u3 := .int .i64 0) (u4 := .bool false) (u5 := .bool false) (u6 := .bool false) (u7 := .bool false) D3.out)
  refine bodyPost_ret (v := .tuple #[rnV rn0, .int .i64 1]) (by simp [results, Try.results12, go_sem, h0, h1, h2, h3, h4, h5, h6, h7]) rfl ⟨rfl, ?_⟩
  exact below_set8 HB.out (by omega)
set_option maxRecDepth 100000 in
set_option maxHeartbeats 2000000 in
theorem qNext_low (r : Ru) (x : Rn) (e : Int) (h : rulesOk r = true) (hr : right r x = true) (t1 : decide (e < 0) = true) (w : World) : Calls Try.prog 12 #[ruV r, rnV x, .int .i64 e] w (RetNE (rn0, 1) w) := by
  have he : errRules r = 0 := by unfold errRules; rw [h]; rfl
  go_enter Try.func12, Try.ntmps12
  go_wp2_with fail
  refine (qcheckRules_any r _).mono ?_
  rintro e' w1 ⟨rfl, rfl⟩
  rw [he]
  go_wp2_with fail
  generalize hW0 : ((w.alloc (.cells (ruA r) 37)).alloc (.cells (rnA x) 34)).alloc (.cells _ _) = W1 at *
  obtain ⟨hal, hB1, hB2, hB3, hWs⟩ := bx3 w _ _ _ W1 hW0.symm
  have hal' := ba (o := ruQ r) hal
  have hC1 := (heap_alloc_old _ (ruQ r) (blk_lt hB1)).trans hB1
  have hC2 := (heap_alloc_old _ (ruQ r) (blk_lt hB2)).trans hB2
  have hC3 := (heap_alloc_old _ (ruQ r) (blk_lt hB3)).trans hB3
  clear hW0 hal hB1 hB2 hB3 hWs he
  generalize W1.alloc (ruQ r) = W at *
  refine (qRight_any r x _).mono ?_
  rintro e' w1 ⟨rfl, hb⟩
  have D1 := Lib.hid (blk_keep hC1 hb (blk_lt hC1))
  have D2 := Lib.hid (blk_keep hC2 hb (blk_lt hC2))
  have D3 := Lib.hid (blk_keep hC3 hb (blk_lt hC3))
  have HB := Lib.hid (hal'.trans (hb.mono hal'.size))
  clear hC1 hC2 hC3 hb hal'
  obtain ⟨f0, f1, f2, f3, f4, f5, f6, f7⟩ := rnfg (x := rn0) D3.out
  obtain ⟨g0, g1, g2, g3, g4, g5, g6, g7⟩ := rn8g (x := rn0) D3.out
  rw [hr]
  go_wp2_with fail
  obtain ⟨h0, h1, h2, h3, h4, h5, h6, h7⟩ := rn8g (x := rn0) (set8 (u0 := .int .i64 0) (u1 := .int .i64 0) (u2 := .int .i64 0) (u3 := .int .i64 0) (u4 := .bool false) (u5 := .bool false) (u6 := .bool false) (u7 := .bool false) D3.out)
  refine bodyPost_ret (v := .tuple #[rnV rn0, .int .i64 1]) (by simp [results, Try.results12, go_sem, h0, h1, h2, h3, h4, h5, h6, h7]) rfl ⟨rfl, ?_⟩
  exact below_set8 HB.out (by omega)
set_option maxRecDepth 100000 in
set_option maxHeartbeats 2000000 in
theorem qNext_high (r : Ru) (x : Rn) (e : Int) (h : rulesOk r = true) (hr : right r x = true) (t1 : decide (e < 0) = false) (t2 : decide (e > 7) = true) (w : World) : Calls Try.prog 12 #[ruV r, rnV x, .int .i64 e] w (RetNE (rn0, 1) w) := by
  have he : errRules r = 0 := by unfold errRules; rw [h]; rfl
  go_enter Try.func12, Try.ntmps12
  go_wp2_with fail
  refine (qcheckRules_any r _).mono ?_
  rintro e' w1 ⟨rfl, rfl⟩
  rw [he]
  go_wp2_with fail
  generalize hW0 : ((w.alloc (.cells (ruA r) 37)).alloc (.cells (rnA x) 34)).alloc (.cells _ _) = W1 at *
  obtain ⟨hal, hB1, hB2, hB3, hWs⟩ := bx3 w _ _ _ W1 hW0.symm
  have hal' := ba (o := ruQ r) hal
  have hC1 := (heap_alloc_old _ (ruQ r) (blk_lt hB1)).trans hB1
  have hC2 := (heap_alloc_old _ (ruQ r) (blk_lt hB2)).trans hB2
  have hC3 := (heap_alloc_old _ (ruQ r) (blk_lt hB3)).trans hB3
  clear hW0 hal hB1 hB2 hB3 hWs he
  generalize W1.alloc (ruQ r) = W at *
  refine (qRight_any r x _).mono ?_
  rintro e' w1 ⟨rfl, hb⟩
  have D1 := Lib.hid (blk_keep hC1 hb (blk_lt hC1))
  have D2 := Lib.hid (blk_keep hC2 hb (blk_lt hC2))
  have D3 := Lib.hid (blk_keep hC3 hb (blk_lt hC3))
  have HB := Lib.hid (hal'.trans (hb.mono hal'.size))
  clear hC1 hC2 hC3 hb hal'
  obtain ⟨f0, f1, f2, f3, f4, f5, f6, f7⟩ := rnfg (x := rn0) D3.out
  obtain ⟨g0, g1, g2, g3, g4, g5, g6, g7⟩ := rn8g (x := rn0) D3.out
  rw [hr]
  go_wp2_with fail
  obtain ⟨h0, h1, h2, h3, h4, h5, h6, h7⟩ := rn8g (x := rn0) (set8 (u0 := .int .i64 0) (u1 := .int .i64 0) (u2 := .int .i64 0) (u3 := .int .i64 0) (u4 := .bool false) (u5 := .bool false) (u6 := .bool false) (u7 := .bool false) D3.out)
  refine bodyPost_ret (v := .tuple #[rnV rn0, .int .i64 1]) (by simp [results, Try.results12, go_sem, h0, h1, h2, h3, h4, h5, h6, h7]) rfl ⟨rfl, ?_⟩
  exact below_set8 HB.out (by omega)
set_option maxRecDepth 100000 in
set_option maxHeartbeats 2000000 in
theorem qNext_0 (r : Ru) (ph be mi wa : Int) (l0 l1 l2 te : Bool) (h : rulesOk r = true) (hr : right r ⟨ph, be, mi, wa, l0, l1, l2, te⟩ = true) (w : World) : Calls Try.prog 12 #[ruV r, rnV ⟨ph, be, mi, wa, l0, l1, l2, te⟩, .int .i64 0] w (RetNE (tickR r ⟨ph, be, mi, wa, l0, l1, l2, te⟩, 0) w) := by
  have HG := Lib.hid (rulesOk_good h)
  have HR := Lib.hid ((right_iff r ⟨ph, be, mi, wa, l0, l1, l2, te⟩).1 hr)
  obtain ⟨u, hu⟩ : ∃ u, u = tickR r ⟨ph, be, mi, wa, l0, l1, l2, te⟩ := ⟨_, rfl⟩
  have HU := Lib.hid hu
  rw [← hu]
  clear hu
  have he : errRules r = 0 := by unfold errRules; rw [h]; rfl
  go_enter Try.func12, Try.ntmps12
  go_wp2_with fail
  refine (qcheckRules_any r _).mono ?_
  rintro e' w1 ⟨rfl, rfl⟩
  rw [he]
  go_wp2_with fail
  generalize hW0 : ((w.alloc (.cells (ruA r) 37)).alloc (.cells (rnA ⟨ph, be, mi, wa, l0, l1, l2, te⟩) 34)).alloc (.cells _ _) = W1 at *
  obtain ⟨hal, hB1, hB2, hB3, hWs⟩ := bx3 w _ _ _ W1 hW0.symm
  have hal' := ba (o := ruQ r) hal
  have hC1 := (heap_alloc_old _ (ruQ r) (blk_lt hB1)).trans hB1
  have hC2 := (heap_alloc_old _ (ruQ r) (blk_lt hB2)).trans hB2
  have hC3 := (heap_alloc_old _ (ruQ r) (blk_lt hB3)).trans hB3
  clear hW0 hal hB1 hB2 hB3 hWs he
  generalize W1.alloc (ruQ r) = W at *
  refine (qRight_any r ⟨ph, be, mi, wa, l0, l1, l2, te⟩ _).mono ?_
  rintro e' w1 ⟨rfl, hb⟩
  have D1 := Lib.hid (blk_keep hC1 hb (blk_lt hC1))
  have D2 := Lib.hid (blk_keep hC2 hb (blk_lt hC2))
  have D3 := Lib.hid (blk_keep hC3 hb (blk_lt hC3))
  have HB := Lib.hid (hal'.trans (hb.mono hal'.size))
  clear hC1 hC2 hC3 hb hal'
  obtain ⟨f0, f1, f2, f3, f4, f5, f6, f7⟩ := rnfg (x := rn0) D3.out
  obtain ⟨g0, g1, g2, g3, g4, g5, g6, g7⟩ := rn8g (x := rn0) D3.out
  rw [hr]
  obtain ⟨m0, m1, m2, m3, m4, m5, m6, m7, m8, m9, m10, m11, m12⟩ := ru13g D1.out
  obtain ⟨k0, k1, k2, k3, k4, k5, k6, k7⟩ := rn8g D2.out
  obtain ⟨q0, q1, q2, q3, q4, q5, q6, q7⟩ := rnfg D2.out
  have DD3 := D3
  have HBB := HB
  go_wp2_with fail
  refine (qtick_any r ⟨ph, be, mi, wa, l0, l1, l2, te⟩ HG.out HR.out _).mono ?_
  rintro e' w2 ⟨rfl, hb⟩
  rw [← HU.out]
  have E3 := Lib.hid (blk_keep DD3.out hb (blk_lt DD3.out))
  have EB := Lib.hid (HBB.out.trans (hb.mono HBB.out.size))
  clear m0 m1 m2 m3 m4 m5 m6 m7 m8 m9 m10 m11 m12 k0 k1 k2 k3 k4 k5 k6 k7 q0 q1 q2 q3 q4 q5 q6 q7 f0 f1 f2 f3 f4 f5 f6 f7 g0 g1 g2 g3 g4 g5 g6 g7
  clear hb HU
  obtain ⟨f0, f1, f2, f3, f4, f5, f6, f7⟩ := rnfg (x := rn0) E3.out
  obtain ⟨g0, g1, g2, g3, g4, g5, g6, g7⟩ := rn8g (x := rn0) E3.out
  go_wp2_with fail
  obtain ⟨h0, h1, h2, h3, h4, h5, h6, h7⟩ := rn8g (x := u) (set8 (u0 := .int .i64 (u : Rn).ph) (u1 := .int .i64 (u : Rn).be) (u2 := .int .i64 (u : Rn).mi) (u3 := .int .i64 (u : Rn).wa) (u4 := .bool (u : Rn).l0) (u5 := .bool (u : Rn).l1) (u6 := .bool (u : Rn).l2) (u7 := .bool (u : Rn).te) E3.out)
  refine bodyPost_ret (v := .tuple #[rnV u, .int .i64 0]) (by simp [results, Try.results12, go_sem, h0, h1, h2, h3, h4, h5, h6, h7]) rfl ⟨rfl, ?_⟩
  exact below_set8 EB.out (by omega)
theorem set_te {w : World} {B T : Nat} {ph be mi wa : Int} {l0 l1 l2 te : Bool} (v : Bool) (h : w.heap[B]? = some (.cells (rnA ⟨ph, be, mi, wa, l0, l1, l2, te⟩) T (0, 0))) : (w.setCell ⟨B, 7, none⟩ (.bool v)).heap[B]? = some (.cells (rnA ⟨ph, be, mi, wa, l0, l1, l2, v⟩) T (0, 0)) := blk_set h 7 _
theorem set_l0 {w : World} {B T : Nat} {ph be mi wa : Int} {l0 l1 l2 te : Bool} (v : Bool) (h : w.heap[B]? = some (.cells (rnA ⟨ph, be, mi, wa, l0, l1, l2, te⟩) T (0, 0))) : (w.setCell ⟨B, 4, none⟩ (.bool v)).heap[B]? = some (.cells (rnA ⟨ph, be, mi, wa, v, l1, l2, te⟩) T (0, 0)) := blk_set h 4 _
theorem set_l1 {w : World} {B T : Nat} {ph be mi wa : Int} {l0 l1 l2 te : Bool} (v : Bool) (h : w.heap[B]? = some (.cells (rnA ⟨ph, be, mi, wa, l0, l1, l2, te⟩) T (0, 0))) : (w.setCell ⟨B, 5, none⟩ (.bool v)).heap[B]? = some (.cells (rnA ⟨ph, be, mi, wa, l0, v, l2, te⟩) T (0, 0)) := blk_set h 5 _
theorem set_l2 {w : World} {B T : Nat} {ph be mi wa : Int} {l0 l1 l2 te : Bool} (v : Bool) (h : w.heap[B]? = some (.cells (rnA ⟨ph, be, mi, wa, l0, l1, l2, te⟩) T (0, 0))) : (w.setCell ⟨B, 6, none⟩ (.bool v)).heap[B]? = some (.cells (rnA ⟨ph, be, mi, wa, l0, l1, v, te⟩) T (0, 0)) := blk_set h 6 _
theorem below_one {n : Nat} {w0 w : World} {B j : Nat} {u : Value} (h : Below n w0 w) (hB : n ≤ B) : Below n w0 (w.setCell ⟨B, j, none⟩ u) := h.setCell (p := ⟨B, j, none⟩) hB u
set_option maxRecDepth 100000 in
set_option maxHeartbeats 2000000 in
theorem qNext_1 (r : Ru) (ph be mi wa : Int) (l0 l1 l2 te : Bool) (h : rulesOk r = true) (hr : right r ⟨ph, be, mi, wa, l0, l1, l2, te⟩ = true) (h0 : ph = 0) (w : World) : Calls Try.prog 12 #[ruV r, rnV ⟨ph, be, mi, wa, l0, l1, l2, te⟩, .int .i64 1] w (RetNE (beginR r ⟨ph, be, mi, wa, l0, l1, l2, false⟩ 1, 0) w) := by
  have t1 : (ph != 0) = false := by simp [h0]
  obtain ⟨u, hu⟩ : ∃ u, u = beginR r ⟨ph, be, mi, wa, l0, l1, l2, false⟩ 1 := ⟨_, rfl⟩
  have HU := Lib.hid hu
  rw [← hu]
  clear hu h0
  have he : errRules r = 0 := by unfold errRules; rw [h]; rfl
  go_enter Try.func12, Try.ntmps12
  go_wp2_with fail
  refine (qcheckRules_any r _).mono ?_
  rintro e' w1 ⟨rfl, rfl⟩
  rw [he]
  go_wp2_with fail
  generalize hW0 : ((w.alloc (.cells (ruA r) 37)).alloc (.cells (rnA ⟨ph, be, mi, wa, l0, l1, l2, te⟩) 34)).alloc (.cells _ _) = W1 at *
  obtain ⟨hal, hB1, hB2, hB3, hWs⟩ := bx3 w _ _ _ W1 hW0.symm
  have hal' := ba (o := ruQ r) hal
  have hC1 := (heap_alloc_old _ (ruQ r) (blk_lt hB1)).trans hB1
  have hC2 := (heap_alloc_old _ (ruQ r) (blk_lt hB2)).trans hB2
  have hC3 := (heap_alloc_old _ (ruQ r) (blk_lt hB3)).trans hB3
  clear hW0 hal hB1 hB2 hB3 hWs he
  generalize W1.alloc (ruQ r) = W at *
  refine (qRight_any r ⟨ph, be, mi, wa, l0, l1, l2, te⟩ _).mono ?_
  rintro e' w1 ⟨rfl, hb⟩
  have D1 := Lib.hid (blk_keep hC1 hb (blk_lt hC1))
  have D2 := Lib.hid (blk_keep hC2 hb (blk_lt hC2))
  have D3 := Lib.hid (blk_keep hC3 hb (blk_lt hC3))
  have HB := Lib.hid (hal'.trans (hb.mono hal'.size))
  clear hC1 hC2 hC3 hb hal'
  obtain ⟨f0, f1, f2, f3, f4, f5, f6, f7⟩ := rnfg (x := rn0) D3.out
  obtain ⟨g0, g1, g2, g3, g4, g5, g6, g7⟩ := rn8g (x := rn0) D3.out
  rw [hr]
  obtain ⟨m0, m1, m2, m3, m4, m5, m6, m7, m8, m9, m10, m11, m12⟩ := ru13g D1.out
  obtain ⟨k0, k1, k2, k3, k4, k5, k6, k7⟩ := rn8g D2.out
  obtain ⟨q0, q1, q2, q3, q4, q5, q6, q7⟩ := rnfg D2.out
  have S1 := Lib.hid (oth1 (j := 7) (u := .bool false) D1.out (show w.heap.size ≠ w.heap.size + 1 by omega))
  have S2 := Lib.hid (set_te false D2.out)
  have DD3 := Lib.hid (oth1 (j := 7) (u := .bool false) D3.out (show w.heap.size + 1 + 1 ≠ w.heap.size + 1 by omega))
  have HBB := Lib.hid (below_one (B := w.heap.size + 1) (j := 7) (u := .bool false) HB.out (by omega))
  obtain ⟨m0', m1', m2', m3', m4', m5', m6', m7', m8', m9', m10', m11', m12'⟩ := ru13g S1.out
  obtain ⟨k0', k1', k2', k3', k4', k5', k6', k7'⟩ := rn8g S2.out
  obtain ⟨q0', q1', q2', q3', q4', q5', q6', q7'⟩ := rnfg S2.out
  go_wp2_with fail
  refine (qbegin_any r ⟨ph, be, mi, wa, l0, l1, l2, false⟩ 1 _).mono ?_
  rintro e' w2 ⟨rfl, hb⟩
  rw [← HU.out]
  have E3 := Lib.hid (blk_keep DD3.out hb (blk_lt DD3.out))
  have EB := Lib.hid (HBB.out.trans (hb.mono HBB.out.size))
  clear m0 m1 m2 m3 m4 m5 m6 m7 m8 m9 m10 m11 m12 k0 k1 k2 k3 k4 k5 k6 k7 q0 q1 q2 q3 q4 q5 q6 q7 f0 f1 f2 f3 f4 f5 f6 f7 g0 g1 g2 g3 g4 g5 g6 g7
  clear m0' m1' m2' m3' m4' m5' m6' m7' m8' m9' m10' m11' m12' k0' k1' k2' k3' k4' k5' k6' k7' q0' q1' q2' q3' q4' q5' q6' q7'
  clear hb HU
  obtain ⟨f0, f1, f2, f3, f4, f5, f6, f7⟩ := rnfg (x := rn0) E3.out
  obtain ⟨g0, g1, g2, g3, g4, g5, g6, g7⟩ := rn8g (x := rn0) E3.out
  go_wp2_with fail
  obtain ⟨h0, h1, h2, h3, h4, h5, h6, h7⟩ := rn8g (x := u) (set8 (u0 := .int .i64 (u : Rn).ph) (u1 := .int .i64 (u : Rn).be) (u2 := .int .i64 (u : Rn).mi) (u3 := .int .i64 (u : Rn).wa) (u4 := .bool (u : Rn).l0) (u5 := .bool (u : Rn).l1) (u6 := .bool (u : Rn).l2) (u7 := .bool (u : Rn).te) E3.out)
  refine bodyPost_ret (v := .tuple #[rnV u, .int .i64 0]) (by simp [results, Try.results12, go_sem, h0, h1, h2, h3, h4, h5, h6, h7]) rfl ⟨rfl, ?_⟩
  exact below_set8 EB.out (by omega)
set_option maxRecDepth 100000 in
set_option maxHeartbeats 2000000 in
theorem qNext_1n (r : Ru) (ph be mi wa : Int) (l0 l1 l2 te : Bool) (h : rulesOk r = true) (hr : right r ⟨ph, be, mi, wa, l0, l1, l2, te⟩ = true) (h0 : ¬ ph = 0) (w : World) : Calls Try.prog 12 #[ruV r, rnV ⟨ph, be, mi, wa, l0, l1, l2, te⟩, .int .i64 1] w (RetNE (rn0, 51) w) := by
  have t1 : (ph != 0) = true := by simp [h0]
  clear h0
  have he : errRules r = 0 := by unfold errRules; rw [h]; rfl
  go_enter Try.func12, Try.ntmps12
  go_wp2_with fail
  refine (qcheckRules_any r _).mono ?_
  rintro e' w1 ⟨rfl, rfl⟩
  rw [he]
  go_wp2_with fail
  generalize hW0 : ((w.alloc (.cells (ruA r) 37)).alloc (.cells (rnA ⟨ph, be, mi, wa, l0, l1, l2, te⟩) 34)).alloc (.cells _ _) = W1 at *
  obtain ⟨hal, hB1, hB2, hB3, hWs⟩ := bx3 w _ _ _ W1 hW0.symm
  have hal' := ba (o := ruQ r) hal
  have hC1 := (heap_alloc_old _ (ruQ r) (blk_lt hB1)).trans hB1
  have hC2 := (heap_alloc_old _ (ruQ r) (blk_lt hB2)).trans hB2
  have hC3 := (heap_alloc_old _ (ruQ r) (blk_lt hB3)).trans hB3
  clear hW0 hal hB1 hB2 hB3 hWs he
  generalize W1.alloc (ruQ r) = W at *
  refine (qRight_any r ⟨ph, be, mi, wa, l0, l1, l2, te⟩ _).mono ?_
  rintro e' w1 ⟨rfl, hb⟩
  have D1 := Lib.hid (blk_keep hC1 hb (blk_lt hC1))
  have D2 := Lib.hid (blk_keep hC2 hb (blk_lt hC2))
  have D3 := Lib.hid (blk_keep hC3 hb (blk_lt hC3))
  have HB := Lib.hid (hal'.trans (hb.mono hal'.size))
  clear hC1 hC2 hC3 hb hal'
  obtain ⟨f0, f1, f2, f3, f4, f5, f6, f7⟩ := rnfg (x := rn0) D3.out
  obtain ⟨g0, g1, g2, g3, g4, g5, g6, g7⟩ := rn8g (x := rn0) D3.out
  rw [hr]
  obtain ⟨m0, m1, m2, m3, m4, m5, m6, m7, m8, m9, m10, m11, m12⟩ := ru13g D1.out
  obtain ⟨k0, k1, k2, k3, k4, k5, k6, k7⟩ := rn8g D2.out
  obtain ⟨q0, q1, q2, q3, q4, q5, q6, q7⟩ := rnfg D2.out
  go_wp2_with fail
  obtain ⟨h0, h1, h2, h3, h4, h5, h6, h7⟩ := rn8g (x := rn0) (set8 (u0 := .int .i64 0) (u1 := .int .i64 0) (u2 := .int .i64 0) (u3 := .int .i64 0) (u4 := .bool false) (u5 := .bool false) (u6 := .bool false) (u7 := .bool false) D3.out)
  refine bodyPost_ret (v := .tuple #[rnV rn0, .int .i64 51]) (by simp [results, Try.results12, go_sem, h0, h1, h2, h3, h4, h5, h6, h7]) rfl ⟨rfl, ?_⟩
  exact below_set8 HB.out (by omega)
set_option maxRecDepth 100000 in
set_option maxHeartbeats 2000000 in
theorem qNext_2o (r : Ru) (ph be mi wa : Int) (l0 l1 l2 te : Bool) (h : rulesOk r = true) (hr : right r ⟨ph, be, mi, wa, l0, l1, l2, te⟩ = true) (t4 : decide (ph > 4) = true) (w : World) : Calls Try.prog 12 #[ruV r, rnV ⟨ph, be, mi, wa, l0, l1, l2, te⟩, .int .i64 2] w (RetNE (rn0, 51) w) := by
  have he : errRules r = 0 := by unfold errRules; rw [h]; rfl
  go_enter Try.func12, Try.ntmps12
  go_wp2_with fail
  refine (qcheckRules_any r _).mono ?_
  rintro e' w1 ⟨rfl, rfl⟩
  rw [he]
  go_wp2_with fail
  generalize hW0 : ((w.alloc (.cells (ruA r) 37)).alloc (.cells (rnA ⟨ph, be, mi, wa, l0, l1, l2, te⟩) 34)).alloc (.cells _ _) = W1 at *
  obtain ⟨hal, hB1, hB2, hB3, hWs⟩ := bx3 w _ _ _ W1 hW0.symm
  have hal' := ba (o := ruQ r) hal
  have hC1 := (heap_alloc_old _ (ruQ r) (blk_lt hB1)).trans hB1
  have hC2 := (heap_alloc_old _ (ruQ r) (blk_lt hB2)).trans hB2
  have hC3 := (heap_alloc_old _ (ruQ r) (blk_lt hB3)).trans hB3
  clear hW0 hal hB1 hB2 hB3 hWs he
  generalize W1.alloc (ruQ r) = W at *
  refine (qRight_any r ⟨ph, be, mi, wa, l0, l1, l2, te⟩ _).mono ?_
  rintro e' w1 ⟨rfl, hb⟩
  have D1 := Lib.hid (blk_keep hC1 hb (blk_lt hC1))
  have D2 := Lib.hid (blk_keep hC2 hb (blk_lt hC2))
  have D3 := Lib.hid (blk_keep hC3 hb (blk_lt hC3))
  have HB := Lib.hid (hal'.trans (hb.mono hal'.size))
  clear hC1 hC2 hC3 hb hal'
  obtain ⟨f0, f1, f2, f3, f4, f5, f6, f7⟩ := rnfg (x := rn0) D3.out
  obtain ⟨g0, g1, g2, g3, g4, g5, g6, g7⟩ := rn8g (x := rn0) D3.out
  rw [hr]
  obtain ⟨m0, m1, m2, m3, m4, m5, m6, m7, m8, m9, m10, m11, m12⟩ := ru13g D1.out
  obtain ⟨k0, k1, k2, k3, k4, k5, k6, k7⟩ := rn8g D2.out
  obtain ⟨q0, q1, q2, q3, q4, q5, q6, q7⟩ := rnfg D2.out
  go_wp2_with fail
  obtain ⟨h0, h1, h2, h3, h4, h5, h6, h7⟩ := rn8g (x := rn0) (set8 (u0 := .int .i64 0) (u1 := .int .i64 0) (u2 := .int .i64 0) (u3 := .int .i64 0) (u4 := .bool false) (u5 := .bool false) (u6 := .bool false) (u7 := .bool false) D3.out)
  refine bodyPost_ret (v := .tuple #[rnV rn0, .int .i64 51]) (by simp [results, Try.results12, go_sem, h0, h1, h2, h3, h4, h5, h6, h7]) rfl ⟨rfl, ?_⟩
  exact below_set8 HB.out (by omega)
set_option maxRecDepth 100000 in
set_option maxHeartbeats 2000000 in
theorem qNext_2s (r : Ru) (ph be mi wa : Int) (l0 l1 l2 te : Bool) (h : rulesOk r = true) (hr : right r ⟨ph, be, mi, wa, true, l1, l2, te⟩ = true) (t4 : decide (ph > 4) = false) (w : World) : Calls Try.prog 12 #[ruV r, rnV ⟨ph, be, mi, wa, true, l1, l2, te⟩, .int .i64 2] w (RetNE (rn0, 51) w) := by
  have he : errRules r = 0 := by unfold errRules; rw [h]; rfl
  go_enter Try.func12, Try.ntmps12
  go_wp2_with fail
  refine (qcheckRules_any r _).mono ?_
  rintro e' w1 ⟨rfl, rfl⟩
  rw [he]
  go_wp2_with fail
  generalize hW0 : ((w.alloc (.cells (ruA r) 37)).alloc (.cells (rnA ⟨ph, be, mi, wa, true, l1, l2, te⟩) 34)).alloc (.cells _ _) = W1 at *
  obtain ⟨hal, hB1, hB2, hB3, hWs⟩ := bx3 w _ _ _ W1 hW0.symm
  have hal' := ba (o := ruQ r) hal
  have hC1 := (heap_alloc_old _ (ruQ r) (blk_lt hB1)).trans hB1
  have hC2 := (heap_alloc_old _ (ruQ r) (blk_lt hB2)).trans hB2
  have hC3 := (heap_alloc_old _ (ruQ r) (blk_lt hB3)).trans hB3
  clear hW0 hal hB1 hB2 hB3 hWs he
  generalize W1.alloc (ruQ r) = W at *
  refine (qRight_any r ⟨ph, be, mi, wa, true, l1, l2, te⟩ _).mono ?_
  rintro e' w1 ⟨rfl, hb⟩
  have D1 := Lib.hid (blk_keep hC1 hb (blk_lt hC1))
  have D2 := Lib.hid (blk_keep hC2 hb (blk_lt hC2))
  have D3 := Lib.hid (blk_keep hC3 hb (blk_lt hC3))
  have HB := Lib.hid (hal'.trans (hb.mono hal'.size))
  clear hC1 hC2 hC3 hb hal'
  obtain ⟨f0, f1, f2, f3, f4, f5, f6, f7⟩ := rnfg (x := rn0) D3.out
  obtain ⟨g0, g1, g2, g3, g4, g5, g6, g7⟩ := rn8g (x := rn0) D3.out
  rw [hr]
  obtain ⟨m0, m1, m2, m3, m4, m5, m6, m7, m8, m9, m10, m11, m12⟩ := ru13g D1.out
  obtain ⟨k0, k1, k2, k3, k4, k5, k6, k7⟩ := rn8g D2.out
  obtain ⟨q0, q1, q2, q3, q4, q5, q6, q7⟩ := rnfg D2.out
  go_wp2_with fail
  obtain ⟨h0, h1, h2, h3, h4, h5, h6, h7⟩ := rn8g (x := rn0) (set8 (u0 := .int .i64 0) (u1 := .int .i64 0) (u2 := .int .i64 0) (u3 := .int .i64 0) (u4 := .bool false) (u5 := .bool false) (u6 := .bool false) (u7 := .bool false) D3.out)
  refine bodyPost_ret (v := .tuple #[rnV rn0, .int .i64 51]) (by simp [results, Try.results12, go_sem, h0, h1, h2, h3, h4, h5, h6, h7]) rfl ⟨rfl, ?_⟩
  exact below_set8 HB.out (by omega)
set_option maxRecDepth 100000 in
set_option maxHeartbeats 2000000 in
theorem qNext_2 (r : Ru) (ph be mi wa : Int) (l0 l1 l2 te : Bool) (h : rulesOk r = true) (hr : right r ⟨ph, be, mi, wa, false, l1, l2, te⟩ = true) (t4 : decide (ph > 4) = false) (w : World) : Calls Try.prog 12 #[ruV r, rnV ⟨ph, be, mi, wa, false, l1, l2, te⟩, .int .i64 2] w (RetNE (meetR r ⟨ph, be, mi, wa, true, l1, l2, te⟩ 0, 0) w) := by
  obtain ⟨u, hu⟩ : ∃ u, u = meetR r ⟨ph, be, mi, wa, true, l1, l2, te⟩ 0 := ⟨_, rfl⟩
  have HU := Lib.hid hu
  rw [← hu]
  clear hu
  have he : errRules r = 0 := by unfold errRules; rw [h]; rfl
  go_enter Try.func12, Try.ntmps12
  go_wp2_with fail
  refine (qcheckRules_any r _).mono ?_
  rintro e' w1 ⟨rfl, rfl⟩
  rw [he]
  go_wp2_with fail
  generalize hW0 : ((w.alloc (.cells (ruA r) 37)).alloc (.cells (rnA ⟨ph, be, mi, wa, false, l1, l2, te⟩) 34)).alloc (.cells _ _) = W1 at *
  obtain ⟨hal, hB1, hB2, hB3, hWs⟩ := bx3 w _ _ _ W1 hW0.symm
  have hal' := ba (o := ruQ r) hal
  have hC1 := (heap_alloc_old _ (ruQ r) (blk_lt hB1)).trans hB1
  have hC2 := (heap_alloc_old _ (ruQ r) (blk_lt hB2)).trans hB2
  have hC3 := (heap_alloc_old _ (ruQ r) (blk_lt hB3)).trans hB3
  clear hW0 hal hB1 hB2 hB3 hWs he
  generalize W1.alloc (ruQ r) = W at *
  refine (qRight_any r ⟨ph, be, mi, wa, false, l1, l2, te⟩ _).mono ?_
  rintro e' w1 ⟨rfl, hb⟩
  have D1 := Lib.hid (blk_keep hC1 hb (blk_lt hC1))
  have D2 := Lib.hid (blk_keep hC2 hb (blk_lt hC2))
  have D3 := Lib.hid (blk_keep hC3 hb (blk_lt hC3))
  have HB := Lib.hid (hal'.trans (hb.mono hal'.size))
  clear hC1 hC2 hC3 hb hal'
  obtain ⟨f0, f1, f2, f3, f4, f5, f6, f7⟩ := rnfg (x := rn0) D3.out
  obtain ⟨g0, g1, g2, g3, g4, g5, g6, g7⟩ := rn8g (x := rn0) D3.out
  rw [hr]
  obtain ⟨m0, m1, m2, m3, m4, m5, m6, m7, m8, m9, m10, m11, m12⟩ := ru13g D1.out
  obtain ⟨k0, k1, k2, k3, k4, k5, k6, k7⟩ := rn8g D2.out
  obtain ⟨q0, q1, q2, q3, q4, q5, q6, q7⟩ := rnfg D2.out
  have S1 := Lib.hid (oth1 (j := 4) (u := .bool true) D1.out (show w.heap.size ≠ w.heap.size + 1 by omega))
  have S2 := Lib.hid (set_l0 true D2.out)
  have DD3 := Lib.hid (oth1 (j := 4) (u := .bool true) D3.out (show w.heap.size + 1 + 1 ≠ w.heap.size + 1 by omega))
  have HBB := Lib.hid (below_one (B := w.heap.size + 1) (j := 4) (u := .bool true) HB.out (by omega))
  obtain ⟨m0', m1', m2', m3', m4', m5', m6', m7', m8', m9', m10', m11', m12'⟩ := ru13g S1.out
  obtain ⟨k0', k1', k2', k3', k4', k5', k6', k7'⟩ := rn8g S2.out
  obtain ⟨q0', q1', q2', q3', q4', q5', q6', q7'⟩ := rnfg S2.out
  go_wp2_with fail
  refine (qmeet_any r ⟨ph, be, mi, wa, true, l1, l2, te⟩ 0 (by omega) _).mono ?_
  rintro e' w2 ⟨rfl, hb⟩
  rw [← HU.out]
  have E3 := Lib.hid (blk_keep DD3.out hb (blk_lt DD3.out))
  have EB := Lib.hid (HBB.out.trans (hb.mono HBB.out.size))
  clear m0 m1 m2 m3 m4 m5 m6 m7 m8 m9 m10 m11 m12 k0 k1 k2 k3 k4 k5 k6 k7 q0 q1 q2 q3 q4 q5 q6 q7 f0 f1 f2 f3 f4 f5 f6 f7 g0 g1 g2 g3 g4 g5 g6 g7
  clear m0' m1' m2' m3' m4' m5' m6' m7' m8' m9' m10' m11' m12' k0' k1' k2' k3' k4' k5' k6' k7' q0' q1' q2' q3' q4' q5' q6' q7'
  clear hb HU
  obtain ⟨f0, f1, f2, f3, f4, f5, f6, f7⟩ := rnfg (x := rn0) E3.out
  obtain ⟨g0, g1, g2, g3, g4, g5, g6, g7⟩ := rn8g (x := rn0) E3.out
  go_wp2_with fail
  obtain ⟨h0, h1, h2, h3, h4, h5, h6, h7⟩ := rn8g (x := u) (set8 (u0 := .int .i64 (u : Rn).ph) (u1 := .int .i64 (u : Rn).be) (u2 := .int .i64 (u : Rn).mi) (u3 := .int .i64 (u : Rn).wa) (u4 := .bool (u : Rn).l0) (u5 := .bool (u : Rn).l1) (u6 := .bool (u : Rn).l2) (u7 := .bool (u : Rn).te) E3.out)
  refine bodyPost_ret (v := .tuple #[rnV u, .int .i64 0]) (by simp [results, Try.results12, go_sem, h0, h1, h2, h3, h4, h5, h6, h7]) rfl ⟨rfl, ?_⟩
  exact below_set8 EB.out (by omega)
set_option maxRecDepth 100000 in
set_option maxHeartbeats 2000000 in
theorem qNext_3o (r : Ru) (ph be mi wa : Int) (l0 l1 l2 te : Bool) (h : rulesOk r = true) (hr : right r ⟨ph, be, mi, wa, l0, l1, l2, te⟩ = true) (t4 : decide (ph > 4) = true) (w : World) : Calls Try.prog 12 #[ruV r, rnV ⟨ph, be, mi, wa, l0, l1, l2, te⟩, .int .i64 3] w (RetNE (rn0, 51) w) := by
  have he : errRules r = 0 := by unfold errRules; rw [h]; rfl
  go_enter Try.func12, Try.ntmps12
  go_wp2_with fail
  refine (qcheckRules_any r _).mono ?_
  rintro e' w1 ⟨rfl, rfl⟩
  rw [he]
  go_wp2_with fail
  generalize hW0 : ((w.alloc (.cells (ruA r) 37)).alloc (.cells (rnA ⟨ph, be, mi, wa, l0, l1, l2, te⟩) 34)).alloc (.cells _ _) = W1 at *
  obtain ⟨hal, hB1, hB2, hB3, hWs⟩ := bx3 w _ _ _ W1 hW0.symm
  have hal' := ba (o := ruQ r) hal
  have hC1 := (heap_alloc_old _ (ruQ r) (blk_lt hB1)).trans hB1
  have hC2 := (heap_alloc_old _ (ruQ r) (blk_lt hB2)).trans hB2
  have hC3 := (heap_alloc_old _ (ruQ r) (blk_lt hB3)).trans hB3
  clear hW0 hal hB1 hB2 hB3 hWs he
  generalize W1.alloc (ruQ r) = W at *
  refine (qRight_any r ⟨ph, be, mi, wa, l0, l1, l2, te⟩ _).mono ?_
  rintro e' w1 ⟨rfl, hb⟩
  have D1 := Lib.hid (blk_keep hC1 hb (blk_lt hC1))
  have D2 := Lib.hid (blk_keep hC2 hb (blk_lt hC2))
  have D3 := Lib.hid (blk_keep hC3 hb (blk_lt hC3))
  have HB := Lib.hid (hal'.trans (hb.mono hal'.size))
  clear hC1 hC2 hC3 hb hal'
  obtain ⟨f0, f1, f2, f3, f4, f5, f6, f7⟩ := rnfg (x := rn0) D3.out
  obtain ⟨g0, g1, g2, g3, g4, g5, g6, g7⟩ := rn8g (x := rn0) D3.out
  rw [hr]
  obtain ⟨m0, m1, m2, m3, m4, m5, m6, m7, m8, m9, m10, m11, m12⟩ := ru13g D1.out
  obtain ⟨k0, k1, k2, k3, k4, k5, k6, k7⟩ := rn8g D2.out
  obtain ⟨q0, q1, q2, q3, q4, q5, q6, q7⟩ := rnfg D2.out
  go_wp2_with fail
  obtain ⟨h0, h1, h2, h3, h4, h5, h6, h7⟩ := rn8g (x := rn0) (set8 (u0 := .int .i64 0) (u1 := .int .i64 0) (u2 := .int .i64 0) (u3 := .int .i64 0) (u4 := .bool false) (u5 := .bool false) (u6 := .bool false) (u7 := .bool false) D3.out)
  refine bodyPost_ret (v := .tuple #[rnV rn0, .int .i64 51]) (by simp [results, Try.results12, go_sem, h0, h1, h2, h3, h4, h5, h6, h7]) rfl ⟨rfl, ?_⟩
  exact below_set8 HB.out (by omega)
set_option maxRecDepth 100000 in
set_option maxHeartbeats 2000000 in
theorem qNext_3s (r : Ru) (ph be mi wa : Int) (l0 l1 l2 te : Bool) (h : rulesOk r = true) (hr : right r ⟨ph, be, mi, wa, false, l1, l2, te⟩ = true) (t4 : decide (ph > 4) = false) (w : World) : Calls Try.prog 12 #[ruV r, rnV ⟨ph, be, mi, wa, false, l1, l2, te⟩, .int .i64 3] w (RetNE (rn0, 51) w) := by
  have he : errRules r = 0 := by unfold errRules; rw [h]; rfl
  go_enter Try.func12, Try.ntmps12
  go_wp2_with fail
  refine (qcheckRules_any r _).mono ?_
  rintro e' w1 ⟨rfl, rfl⟩
  rw [he]
  go_wp2_with fail
  generalize hW0 : ((w.alloc (.cells (ruA r) 37)).alloc (.cells (rnA ⟨ph, be, mi, wa, false, l1, l2, te⟩) 34)).alloc (.cells _ _) = W1 at *
  obtain ⟨hal, hB1, hB2, hB3, hWs⟩ := bx3 w _ _ _ W1 hW0.symm
  have hal' := ba (o := ruQ r) hal
  have hC1 := (heap_alloc_old _ (ruQ r) (blk_lt hB1)).trans hB1
  have hC2 := (heap_alloc_old _ (ruQ r) (blk_lt hB2)).trans hB2
  have hC3 := (heap_alloc_old _ (ruQ r) (blk_lt hB3)).trans hB3
  clear hW0 hal hB1 hB2 hB3 hWs he
  generalize W1.alloc (ruQ r) = W at *
  refine (qRight_any r ⟨ph, be, mi, wa, false, l1, l2, te⟩ _).mono ?_
  rintro e' w1 ⟨rfl, hb⟩
  have D1 := Lib.hid (blk_keep hC1 hb (blk_lt hC1))
  have D2 := Lib.hid (blk_keep hC2 hb (blk_lt hC2))
  have D3 := Lib.hid (blk_keep hC3 hb (blk_lt hC3))
  have HB := Lib.hid (hal'.trans (hb.mono hal'.size))
  clear hC1 hC2 hC3 hb hal'
  obtain ⟨f0, f1, f2, f3, f4, f5, f6, f7⟩ := rnfg (x := rn0) D3.out
  obtain ⟨g0, g1, g2, g3, g4, g5, g6, g7⟩ := rn8g (x := rn0) D3.out
  rw [hr]
  obtain ⟨m0, m1, m2, m3, m4, m5, m6, m7, m8, m9, m10, m11, m12⟩ := ru13g D1.out
  obtain ⟨k0, k1, k2, k3, k4, k5, k6, k7⟩ := rn8g D2.out
  obtain ⟨q0, q1, q2, q3, q4, q5, q6, q7⟩ := rnfg D2.out
  go_wp2_with fail
  obtain ⟨h0, h1, h2, h3, h4, h5, h6, h7⟩ := rn8g (x := rn0) (set8 (u0 := .int .i64 0) (u1 := .int .i64 0) (u2 := .int .i64 0) (u3 := .int .i64 0) (u4 := .bool false) (u5 := .bool false) (u6 := .bool false) (u7 := .bool false) D3.out)
  refine bodyPost_ret (v := .tuple #[rnV rn0, .int .i64 51]) (by simp [results, Try.results12, go_sem, h0, h1, h2, h3, h4, h5, h6, h7]) rfl ⟨rfl, ?_⟩
  exact below_set8 HB.out (by omega)
set_option maxRecDepth 100000 in
set_option maxHeartbeats 2000000 in
theorem qNext_3n (r : Ru) (ph be mi wa : Int) (l0 l1 l2 te : Bool) (h : rulesOk r = true) (hr : right r ⟨ph, be, mi, wa, true, l1, l2, te⟩ = true) (t4 : decide (ph > 4) = false) (hn : ¬ ph = 4) (w : World) : Calls Try.prog 12 #[ruV r, rnV ⟨ph, be, mi, wa, true, l1, l2, te⟩, .int .i64 3] w (RetNE (⟨ph, be, mi, wa, false, l1, l2, te⟩, 0) w) := by
  have t5 : (ph == 4) = false := by simp [hn]
  clear hn
  have he : errRules r = 0 := by unfold errRules; rw [h]; rfl
  go_enter Try.func12, Try.ntmps12
  go_wp2_with fail
  refine (qcheckRules_any r _).mono ?_
  rintro e' w1 ⟨rfl, rfl⟩
  rw [he]
  go_wp2_with fail
  generalize hW0 : ((w.alloc (.cells (ruA r) 37)).alloc (.cells (rnA ⟨ph, be, mi, wa, true, l1, l2, te⟩) 34)).alloc (.cells _ _) = W1 at *
  obtain ⟨hal, hB1, hB2, hB3, hWs⟩ := bx3 w _ _ _ W1 hW0.symm
  have hal' := ba (o := ruQ r) hal
  have hC1 := (heap_alloc_old _ (ruQ r) (blk_lt hB1)).trans hB1
  have hC2 := (heap_alloc_old _ (ruQ r) (blk_lt hB2)).trans hB2
  have hC3 := (heap_alloc_old _ (ruQ r) (blk_lt hB3)).trans hB3
  clear hW0 hal hB1 hB2 hB3 hWs he
  generalize W1.alloc (ruQ r) = W at *
  refine (qRight_any r ⟨ph, be, mi, wa, true, l1, l2, te⟩ _).mono ?_
  rintro e' w1 ⟨rfl, hb⟩
  have D1 := Lib.hid (blk_keep hC1 hb (blk_lt hC1))
  have D2 := Lib.hid (blk_keep hC2 hb (blk_lt hC2))
  have D3 := Lib.hid (blk_keep hC3 hb (blk_lt hC3))
  have HB := Lib.hid (hal'.trans (hb.mono hal'.size))
  clear hC1 hC2 hC3 hb hal'
  obtain ⟨f0, f1, f2, f3, f4, f5, f6, f7⟩ := rnfg (x := rn0) D3.out
  obtain ⟨g0, g1, g2, g3, g4, g5, g6, g7⟩ := rn8g (x := rn0) D3.out
  rw [hr]
  obtain ⟨m0, m1, m2, m3, m4, m5, m6, m7, m8, m9, m10, m11, m12⟩ := ru13g D1.out
  obtain ⟨k0, k1, k2, k3, k4, k5, k6, k7⟩ := rn8g D2.out
  obtain ⟨q0, q1, q2, q3, q4, q5, q6, q7⟩ := rnfg D2.out
  have S1 := Lib.hid (oth1 (j := 4) (u := .bool false) D1.out (show w.heap.size ≠ w.heap.size + 1 by omega))
  have S2 := Lib.hid (set_l0 false D2.out)
  have DD3 := Lib.hid (oth1 (j := 4) (u := .bool false) D3.out (show w.heap.size + 1 + 1 ≠ w.heap.size + 1 by omega))
  have HBB := Lib.hid (below_one (B := w.heap.size + 1) (j := 4) (u := .bool false) HB.out (by omega))
  obtain ⟨m0', m1', m2', m3', m4', m5', m6', m7', m8', m9', m10', m11', m12'⟩ := ru13g S1.out
  obtain ⟨k0', k1', k2', k3', k4', k5', k6', k7'⟩ := rn8g S2.out
  obtain ⟨q0', q1', q2', q3', q4', q5', q6', q7'⟩ := rnfg S2.out
  obtain ⟨f0', f1', f2', f3', f4', f5', f6', f7'⟩ := rnfg (x := rn0) DD3.out
  obtain ⟨g0', g1', g2', g3', g4', g5', g6', g7'⟩ := rn8g (x := rn0) DD3.out
  go_wp2_with fail
  obtain ⟨h0, h1, h2, h3, h4, h5, h6, h7⟩ := rn8g (x := ⟨ph, be, mi, wa, false, l1, l2, te⟩) (set8 (u0 := .int .i64 (⟨ph, be, mi, wa, false, l1, l2, te⟩ : Rn).ph) (u1 := .int .i64 (⟨ph, be, mi, wa, false, l1, l2, te⟩ : Rn).be) (u2 := .int .i64 (⟨ph, be, mi, wa, false, l1, l2, te⟩ : Rn).mi) (u3 := .int .i64 (⟨ph, be, mi, wa, false, l1, l2, te⟩ : Rn).wa) (u4 := .bool (⟨ph, be, mi, wa, false, l1, l2, te⟩ : Rn).l0) (u5 := .bool (⟨ph, be, mi, wa, false, l1, l2, te⟩ : Rn).l1) (u6 := .bool (⟨ph, be, mi, wa, false, l1, l2, te⟩ : Rn).l2) (u7 := .bool (⟨ph, be, mi, wa, false, l1, l2, te⟩ : Rn).te) DD3.out)
  refine bodyPost_ret (v := .tuple #[rnV ⟨ph, be, mi, wa, false, l1, l2, te⟩, .int .i64 0]) (by simp [results, Try.results12, go_sem, h0, h1, h2, h3, h4, h5, h6, h7]) rfl ⟨rfl, ?_⟩
  exact below_set8 HBB.out (by omega)
set_option maxRecDepth 100000 in
set_option maxHeartbeats 2000000 in
theorem qNext_3h (r : Ru) (be mi wa : Int) (l0 l1 l2 te : Bool) (h : rulesOk r = true) (hr : right r ⟨4, be, mi, wa, true, l1, l2, te⟩ = true) (hp : 1 ≤ be ∧ be ≤ 3) (hh : heldAt r ⟨4, be, mi, wa, false, l1, l2, te⟩ be = true) (w : World) : Calls Try.prog 12 #[ruV r, rnV ⟨4, be, mi, wa, true, l1, l2, te⟩, .int .i64 3] w (RetNE (⟨4, be, mi, wa, false, l1, l2, te⟩, 0) w) := by
  have HP := Lib.hid hp
  have HH := Lib.hid hh
  clear hp hh
  have he : errRules r = 0 := by unfold errRules; rw [h]; rfl
  go_enter Try.func12, Try.ntmps12
  go_wp2_with fail
  refine (qcheckRules_any r _).mono ?_
  rintro e' w1 ⟨rfl, rfl⟩
  rw [he]
  go_wp2_with fail
  generalize hW0 : ((w.alloc (.cells (ruA r) 37)).alloc (.cells (rnA ⟨4, be, mi, wa, true, l1, l2, te⟩) 34)).alloc (.cells _ _) = W1 at *
  obtain ⟨hal, hB1, hB2, hB3, hWs⟩ := bx3 w _ _ _ W1 hW0.symm
  have hal' := ba (o := ruQ r) hal
  have hC1 := (heap_alloc_old _ (ruQ r) (blk_lt hB1)).trans hB1
  have hC2 := (heap_alloc_old _ (ruQ r) (blk_lt hB2)).trans hB2
  have hC3 := (heap_alloc_old _ (ruQ r) (blk_lt hB3)).trans hB3
  clear hW0 hal hB1 hB2 hB3 hWs he
  generalize W1.alloc (ruQ r) = W at *
  refine (qRight_any r ⟨4, be, mi, wa, true, l1, l2, te⟩ _).mono ?_
  rintro e' w1 ⟨rfl, hb⟩
  have D1 := Lib.hid (blk_keep hC1 hb (blk_lt hC1))
  have D2 := Lib.hid (blk_keep hC2 hb (blk_lt hC2))
  have D3 := Lib.hid (blk_keep hC3 hb (blk_lt hC3))
  have HB := Lib.hid (hal'.trans (hb.mono hal'.size))
  clear hC1 hC2 hC3 hb hal'
  obtain ⟨f0, f1, f2, f3, f4, f5, f6, f7⟩ := rnfg (x := rn0) D3.out
  obtain ⟨g0, g1, g2, g3, g4, g5, g6, g7⟩ := rn8g (x := rn0) D3.out
  rw [hr]
  obtain ⟨m0, m1, m2, m3, m4, m5, m6, m7, m8, m9, m10, m11, m12⟩ := ru13g D1.out
  obtain ⟨k0, k1, k2, k3, k4, k5, k6, k7⟩ := rn8g D2.out
  obtain ⟨q0, q1, q2, q3, q4, q5, q6, q7⟩ := rnfg D2.out
  have S1 := Lib.hid (oth1 (j := 4) (u := .bool false) D1.out (show w.heap.size ≠ w.heap.size + 1 by omega))
  have S2 := Lib.hid (set_l0 false D2.out)
  have DD3 := Lib.hid (oth1 (j := 4) (u := .bool false) D3.out (show w.heap.size + 1 + 1 ≠ w.heap.size + 1 by omega))
  have HBB := Lib.hid (below_one (B := w.heap.size + 1) (j := 4) (u := .bool false) HB.out (by omega))
  obtain ⟨m0', m1', m2', m3', m4', m5', m6', m7', m8', m9', m10', m11', m12'⟩ := ru13g S1.out
  obtain ⟨k0', k1', k2', k3', k4', k5', k6', k7'⟩ := rn8g S2.out
  obtain ⟨q0', q1', q2', q3', q4', q5', q6', q7'⟩ := rnfg S2.out
  go_wp2_with fail
  refine (waits_any r ⟨4, be, mi, wa, false, l1, l2, te⟩ be HP.out _).mono ?_
  rintro e' w2 ⟨rfl, rfl⟩
  rw [HH.out]
  have F3 := Lib.hid ((heap_alloc_old _ (rnQ ⟨4, be, mi, wa, false, l1, l2, te⟩) (blk_lt ((heap_alloc_old _ (ruQ r) (blk_lt DD3.out)).trans DD3.out))).trans ((heap_alloc_old _ (ruQ r) (blk_lt DD3.out)).trans DD3.out))
  have F2 := Lib.hid ((heap_alloc_old _ (rnQ ⟨4, be, mi, wa, false, l1, l2, te⟩) (blk_lt ((heap_alloc_old _ (ruQ r) (blk_lt S2.out)).trans S2.out))).trans ((heap_alloc_old _ (ruQ r) (blk_lt S2.out)).trans S2.out))
  have FB := Lib.hid (ba (o := rnQ ⟨4, be, mi, wa, false, l1, l2, te⟩) (ba (o := ruQ r) HBB.out))
  clear m0 m1 m2 m3 m4 m5 m6 m7 m8 m9 m10 m11 m12 k0 k1 k2 k3 k4 k5 k6 k7 q0 q1 q2 q3 q4 q5 q6 q7 f0 f1 f2 f3 f4 f5 f6 f7 g0 g1 g2 g3 g4 g5 g6 g7
  clear m0' m1' m2' m3' m4' m5' m6' m7' m8' m9' m10' m11' m12' k0' k1' k2' k3' k4' k5' k6' k7' q0' q1' q2' q3' q4' q5' q6' q7'
  obtain ⟨k0, k1, k2, k3, k4, k5, k6, k7⟩ := rn8g F2.out
  obtain ⟨q0, q1, q2, q3, q4, q5, q6, q7⟩ := rnfg F2.out
  obtain ⟨f0, f1, f2, f3, f4, f5, f6, f7⟩ := rnfg (x := rn0) F3.out
  obtain ⟨g0, g1, g2, g3, g4, g5, g6, g7⟩ := rn8g (x := rn0) F3.out
  go_wp2_with fail
  obtain ⟨h0, h1, h2, h3, h4, h5, h6, h7⟩ := rn8g (x := ⟨4, be, mi, wa, false, l1, l2, te⟩) (set8 (u0 := .int .i64 (⟨4, be, mi, wa, false, l1, l2, te⟩ : Rn).ph) (u1 := .int .i64 (⟨4, be, mi, wa, false, l1, l2, te⟩ : Rn).be) (u2 := .int .i64 (⟨4, be, mi, wa, false, l1, l2, te⟩ : Rn).mi) (u3 := .int .i64 (⟨4, be, mi, wa, false, l1, l2, te⟩ : Rn).wa) (u4 := .bool (⟨4, be, mi, wa, false, l1, l2, te⟩ : Rn).l0) (u5 := .bool (⟨4, be, mi, wa, false, l1, l2, te⟩ : Rn).l1) (u6 := .bool (⟨4, be, mi, wa, false, l1, l2, te⟩ : Rn).l2) (u7 := .bool (⟨4, be, mi, wa, false, l1, l2, te⟩ : Rn).te) F3.out)
  refine bodyPost_ret (v := .tuple #[rnV ⟨4, be, mi, wa, false, l1, l2, te⟩, .int .i64 0]) (by simp [results, Try.results12, go_sem, h0, h1, h2, h3, h4, h5, h6, h7]) rfl ⟨rfl, ?_⟩
  exact below_set8 FB.out (by omega)
set_option maxRecDepth 100000 in
set_option maxHeartbeats 2000000 in
theorem qNext_3u (r : Ru) (be mi wa : Int) (l0 l1 l2 te : Bool) (h : rulesOk r = true) (hr : right r ⟨4, be, mi, wa, true, l1, l2, te⟩ = true) (hp : 1 ≤ be ∧ be ≤ 3) (hh : heldAt r ⟨4, be, mi, wa, false, l1, l2, te⟩ be = false) (w : World) : Calls Try.prog 12 #[ruV r, rnV ⟨4, be, mi, wa, true, l1, l2, te⟩, .int .i64 3] w (RetNE (⟨be, 0, mi, 0, false, l1, l2, te⟩, 0) w) := by
  have HP := Lib.hid hp
  have HH := Lib.hid hh
  clear hp hh
  have he : errRules r = 0 := by unfold errRules; rw [h]; rfl
  go_enter Try.func12, Try.ntmps12
  go_wp2_with fail
  refine (qcheckRules_any r _).mono ?_
  rintro e' w1 ⟨rfl, rfl⟩
  rw [he]
  go_wp2_with fail
  generalize hW0 : ((w.alloc (.cells (ruA r) 37)).alloc (.cells (rnA ⟨4, be, mi, wa, true, l1, l2, te⟩) 34)).alloc (.cells _ _) = W1 at *
  obtain ⟨hal, hB1, hB2, hB3, hWs⟩ := bx3 w _ _ _ W1 hW0.symm
  have hal' := ba (o := ruQ r) hal
  have hC1 := (heap_alloc_old _ (ruQ r) (blk_lt hB1)).trans hB1
  have hC2 := (heap_alloc_old _ (ruQ r) (blk_lt hB2)).trans hB2
  have hC3 := (heap_alloc_old _ (ruQ r) (blk_lt hB3)).trans hB3
  clear hW0 hal hB1 hB2 hB3 hWs he
  generalize W1.alloc (ruQ r) = W at *
  refine (qRight_any r ⟨4, be, mi, wa, true, l1, l2, te⟩ _).mono ?_
  rintro e' w1 ⟨rfl, hb⟩
  have D1 := Lib.hid (blk_keep hC1 hb (blk_lt hC1))
  have D2 := Lib.hid (blk_keep hC2 hb (blk_lt hC2))
  have D3 := Lib.hid (blk_keep hC3 hb (blk_lt hC3))
  have HB := Lib.hid (hal'.trans (hb.mono hal'.size))
  clear hC1 hC2 hC3 hb hal'
  obtain ⟨f0, f1, f2, f3, f4, f5, f6, f7⟩ := rnfg (x := rn0) D3.out
  obtain ⟨g0, g1, g2, g3, g4, g5, g6, g7⟩ := rn8g (x := rn0) D3.out
  rw [hr]
  obtain ⟨m0, m1, m2, m3, m4, m5, m6, m7, m8, m9, m10, m11, m12⟩ := ru13g D1.out
  obtain ⟨k0, k1, k2, k3, k4, k5, k6, k7⟩ := rn8g D2.out
  obtain ⟨q0, q1, q2, q3, q4, q5, q6, q7⟩ := rnfg D2.out
  have S1 := Lib.hid (oth1 (j := 4) (u := .bool false) D1.out (show w.heap.size ≠ w.heap.size + 1 by omega))
  have S2 := Lib.hid (set_l0 false D2.out)
  have DD3 := Lib.hid (oth1 (j := 4) (u := .bool false) D3.out (show w.heap.size + 1 + 1 ≠ w.heap.size + 1 by omega))
  have HBB := Lib.hid (below_one (B := w.heap.size + 1) (j := 4) (u := .bool false) HB.out (by omega))
  obtain ⟨m0', m1', m2', m3', m4', m5', m6', m7', m8', m9', m10', m11', m12'⟩ := ru13g S1.out
  obtain ⟨k0', k1', k2', k3', k4', k5', k6', k7'⟩ := rn8g S2.out
  obtain ⟨q0', q1', q2', q3', q4', q5', q6', q7'⟩ := rnfg S2.out
  go_wp2_with fail
  refine (waits_any r ⟨4, be, mi, wa, false, l1, l2, te⟩ be HP.out _).mono ?_
  rintro e' w2 ⟨rfl, rfl⟩
  rw [HH.out]
  have F3 := Lib.hid ((heap_alloc_old _ (rnQ ⟨4, be, mi, wa, false, l1, l2, te⟩) (blk_lt ((heap_alloc_old _ (ruQ r) (blk_lt DD3.out)).trans DD3.out))).trans ((heap_alloc_old _ (ruQ r) (blk_lt DD3.out)).trans DD3.out))
  have F2 := Lib.hid ((heap_alloc_old _ (rnQ ⟨4, be, mi, wa, false, l1, l2, te⟩) (blk_lt ((heap_alloc_old _ (ruQ r) (blk_lt S2.out)).trans S2.out))).trans ((heap_alloc_old _ (ruQ r) (blk_lt S2.out)).trans S2.out))
  have FB := Lib.hid (ba (o := rnQ ⟨4, be, mi, wa, false, l1, l2, te⟩) (ba (o := ruQ r) HBB.out))
  clear m0 m1 m2 m3 m4 m5 m6 m7 m8 m9 m10 m11 m12 k0 k1 k2 k3 k4 k5 k6 k7 q0 q1 q2 q3 q4 q5 q6 q7 f0 f1 f2 f3 f4 f5 f6 f7 g0 g1 g2 g3 g4 g5 g6 g7
  clear m0' m1' m2' m3' m4' m5' m6' m7' m8' m9' m10' m11' m12' k0' k1' k2' k3' k4' k5' k6' k7' q0' q1' q2' q3' q4' q5' q6' q7'
  obtain ⟨k0, k1, k2, k3, k4, k5, k6, k7⟩ := rn8g F2.out
  obtain ⟨q0, q1, q2, q3, q4, q5, q6, q7⟩ := rnfg F2.out
  obtain ⟨f0, f1, f2, f3, f4, f5, f6, f7⟩ := rnfg (x := rn0) F3.out
  obtain ⟨g0, g1, g2, g3, g4, g5, g6, g7⟩ := rn8g (x := rn0) F3.out
  generalize hV0 : (((w1.setCell ⟨w.heap.size + 1, 4, none⟩ (.bool false)).alloc (.cells (ruA r) 37)).alloc (.cells (rnA ⟨4, be, mi, wa, false, l1, l2, te⟩) 34)) = V at *
  have Q2 := Lib.hid (blk_set (blk_set (blk_set F2.out 0 (.int .i64 be)) 1 (.int .i64 0)) 3 (.int .i64 0))
  have Q3 := Lib.hid (oth1 (j := 3) (u := .int .i64 0) (oth1 (j := 1) (u := .int .i64 0) (oth1 (j := 0) (u := .int .i64 be) F3.out (show w.heap.size + 1 + 1 ≠ w.heap.size + 1 by omega)) (show w.heap.size + 1 + 1 ≠ w.heap.size + 1 by omega)) (show w.heap.size + 1 + 1 ≠ w.heap.size + 1 by omega))
  have QB := Lib.hid (below_one (B := w.heap.size + 1) (j := 3) (u := .int .i64 0) (below_one (B := w.heap.size + 1) (j := 1) (u := .int .i64 0) (below_one (B := w.heap.size + 1) (j := 0) (u := .int .i64 be) FB.out (by omega)) (by omega)) (by omega))
  obtain ⟨f0', f1', f2', f3', f4', f5', f6', f7'⟩ := rnfg (x := rn0) Q3.out
  obtain ⟨g0', g1', g2', g3', g4', g5', g6', g7'⟩ := rn8g (x := rn0) Q3.out
  obtain ⟨k0', k1', k2', k3', k4', k5', k6', k7'⟩ := rn8g (x := ⟨be, 0, mi, 0, false, l1, l2, te⟩) Q2.out
  go_wp2_with fail
  obtain ⟨h0, h1, h2, h3, h4, h5, h6, h7⟩ := rn8g (x := ⟨be, 0, mi, 0, false, l1, l2, te⟩) (set8 (u0 := .int .i64 (⟨be, 0, mi, 0, false, l1, l2, te⟩ : Rn).ph) (u1 := .int .i64 (⟨be, 0, mi, 0, false, l1, l2, te⟩ : Rn).be) (u2 := .int .i64 (⟨be, 0, mi, 0, false, l1, l2, te⟩ : Rn).mi) (u3 := .int .i64 (⟨be, 0, mi, 0, false, l1, l2, te⟩ : Rn).wa) (u4 := .bool (⟨be, 0, mi, 0, false, l1, l2, te⟩ : Rn).l0) (u5 := .bool (⟨be, 0, mi, 0, false, l1, l2, te⟩ : Rn).l1) (u6 := .bool (⟨be, 0, mi, 0, false, l1, l2, te⟩ : Rn).l2) (u7 := .bool (⟨be, 0, mi, 0, false, l1, l2, te⟩ : Rn).te) Q3.out)
  refine bodyPost_ret (v := .tuple #[rnV ⟨be, 0, mi, 0, false, l1, l2, te⟩, .int .i64 0]) (by simp [results, Try.results12, go_sem, h0, h1, h2, h3, h4, h5, h6, h7]) rfl ⟨rfl, ?_⟩
  exact below_set8 QB.out (by omega)
set_option maxRecDepth 100000 in
set_option maxHeartbeats 2000000 in
theorem qNext_4o (r : Ru) (ph be mi wa : Int) (l0 l1 l2 te : Bool) (h : rulesOk r = true) (hr : right r ⟨ph, be, mi, wa, l0, l1, l2, te⟩ = true) (t4 : decide (ph > 4) = true) (w : World) : Calls Try.prog 12 #[ruV r, rnV ⟨ph, be, mi, wa, l0, l1, l2, te⟩, .int .i64 4] w (RetNE (rn0, 51) w) := by
  have he : errRules r = 0 := by unfold errRules; rw [h]; rfl
  go_enter Try.func12, Try.ntmps12
  go_wp2_with fail
  refine (qcheckRules_any r _).mono ?_
  rintro e' w1 ⟨rfl, rfl⟩
  rw [he]
  go_wp2_with fail
  generalize hW0 : ((w.alloc (.cells (ruA r) 37)).alloc (.cells (rnA ⟨ph, be, mi, wa, l0, l1, l2, te⟩) 34)).alloc (.cells _ _) = W1 at *
  obtain ⟨hal, hB1, hB2, hB3, hWs⟩ := bx3 w _ _ _ W1 hW0.symm
  have hal' := ba (o := ruQ r) hal
  have hC1 := (heap_alloc_old _ (ruQ r) (blk_lt hB1)).trans hB1
  have hC2 := (heap_alloc_old _ (ruQ r) (blk_lt hB2)).trans hB2
  have hC3 := (heap_alloc_old _ (ruQ r) (blk_lt hB3)).trans hB3
  clear hW0 hal hB1 hB2 hB3 hWs he
  generalize W1.alloc (ruQ r) = W at *
  refine (qRight_any r ⟨ph, be, mi, wa, l0, l1, l2, te⟩ _).mono ?_
  rintro e' w1 ⟨rfl, hb⟩
  have D1 := Lib.hid (blk_keep hC1 hb (blk_lt hC1))
  have D2 := Lib.hid (blk_keep hC2 hb (blk_lt hC2))
  have D3 := Lib.hid (blk_keep hC3 hb (blk_lt hC3))
  have HB := Lib.hid (hal'.trans (hb.mono hal'.size))
  clear hC1 hC2 hC3 hb hal'
  obtain ⟨f0, f1, f2, f3, f4, f5, f6, f7⟩ := rnfg (x := rn0) D3.out
  obtain ⟨g0, g1, g2, g3, g4, g5, g6, g7⟩ := rn8g (x := rn0) D3.out
  rw [hr]
  obtain ⟨m0, m1, m2, m3, m4, m5, m6, m7, m8, m9, m10, m11, m12⟩ := ru13g D1.out
  obtain ⟨k0, k1, k2, k3, k4, k5, k6, k7⟩ := rn8g D2.out
  obtain ⟨q0, q1, q2, q3, q4, q5, q6, q7⟩ := rnfg D2.out
  go_wp2_with fail
  obtain ⟨h0, h1, h2, h3, h4, h5, h6, h7⟩ := rn8g (x := rn0) (set8 (u0 := .int .i64 0) (u1 := .int .i64 0) (u2 := .int .i64 0) (u3 := .int .i64 0) (u4 := .bool false) (u5 := .bool false) (u6 := .bool false) (u7 := .bool false) D3.out)
  refine bodyPost_ret (v := .tuple #[rnV rn0, .int .i64 51]) (by simp [results, Try.results12, go_sem, h0, h1, h2, h3, h4, h5, h6, h7]) rfl ⟨rfl, ?_⟩
  exact below_set8 HB.out (by omega)
set_option maxRecDepth 100000 in
set_option maxHeartbeats 2000000 in
theorem qNext_4s (r : Ru) (ph be mi wa : Int) (l0 l1 l2 te : Bool) (h : rulesOk r = true) (hr : right r ⟨ph, be, mi, wa, l0, true, l2, te⟩ = true) (t4 : decide (ph > 4) = false) (w : World) : Calls Try.prog 12 #[ruV r, rnV ⟨ph, be, mi, wa, l0, true, l2, te⟩, .int .i64 4] w (RetNE (rn0, 51) w) := by
  have he : errRules r = 0 := by unfold errRules; rw [h]; rfl
  go_enter Try.func12, Try.ntmps12
  go_wp2_with fail
  refine (qcheckRules_any r _).mono ?_
  rintro e' w1 ⟨rfl, rfl⟩
  rw [he]
  go_wp2_with fail
  generalize hW0 : ((w.alloc (.cells (ruA r) 37)).alloc (.cells (rnA ⟨ph, be, mi, wa, l0, true, l2, te⟩) 34)).alloc (.cells _ _) = W1 at *
  obtain ⟨hal, hB1, hB2, hB3, hWs⟩ := bx3 w _ _ _ W1 hW0.symm
  have hal' := ba (o := ruQ r) hal
  have hC1 := (heap_alloc_old _ (ruQ r) (blk_lt hB1)).trans hB1
  have hC2 := (heap_alloc_old _ (ruQ r) (blk_lt hB2)).trans hB2
  have hC3 := (heap_alloc_old _ (ruQ r) (blk_lt hB3)).trans hB3
  clear hW0 hal hB1 hB2 hB3 hWs he
  generalize W1.alloc (ruQ r) = W at *
  refine (qRight_any r ⟨ph, be, mi, wa, l0, true, l2, te⟩ _).mono ?_
  rintro e' w1 ⟨rfl, hb⟩
  have D1 := Lib.hid (blk_keep hC1 hb (blk_lt hC1))
  have D2 := Lib.hid (blk_keep hC2 hb (blk_lt hC2))
  have D3 := Lib.hid (blk_keep hC3 hb (blk_lt hC3))
  have HB := Lib.hid (hal'.trans (hb.mono hal'.size))
  clear hC1 hC2 hC3 hb hal'
  obtain ⟨f0, f1, f2, f3, f4, f5, f6, f7⟩ := rnfg (x := rn0) D3.out
  obtain ⟨g0, g1, g2, g3, g4, g5, g6, g7⟩ := rn8g (x := rn0) D3.out
  rw [hr]
  obtain ⟨m0, m1, m2, m3, m4, m5, m6, m7, m8, m9, m10, m11, m12⟩ := ru13g D1.out
  obtain ⟨k0, k1, k2, k3, k4, k5, k6, k7⟩ := rn8g D2.out
  obtain ⟨q0, q1, q2, q3, q4, q5, q6, q7⟩ := rnfg D2.out
  go_wp2_with fail
  obtain ⟨h0, h1, h2, h3, h4, h5, h6, h7⟩ := rn8g (x := rn0) (set8 (u0 := .int .i64 0) (u1 := .int .i64 0) (u2 := .int .i64 0) (u3 := .int .i64 0) (u4 := .bool false) (u5 := .bool false) (u6 := .bool false) (u7 := .bool false) D3.out)
  refine bodyPost_ret (v := .tuple #[rnV rn0, .int .i64 51]) (by simp [results, Try.results12, go_sem, h0, h1, h2, h3, h4, h5, h6, h7]) rfl ⟨rfl, ?_⟩
  exact below_set8 HB.out (by omega)
set_option maxRecDepth 100000 in
set_option maxHeartbeats 2000000 in
theorem qNext_4 (r : Ru) (ph be mi wa : Int) (l0 l1 l2 te : Bool) (h : rulesOk r = true) (hr : right r ⟨ph, be, mi, wa, l0, false, l2, te⟩ = true) (t4 : decide (ph > 4) = false) (w : World) : Calls Try.prog 12 #[ruV r, rnV ⟨ph, be, mi, wa, l0, false, l2, te⟩, .int .i64 4] w (RetNE (meetR r ⟨ph, be, mi, wa, l0, true, l2, te⟩ 1, 0) w) := by
  obtain ⟨u, hu⟩ : ∃ u, u = meetR r ⟨ph, be, mi, wa, l0, true, l2, te⟩ 1 := ⟨_, rfl⟩
  have HU := Lib.hid hu
  rw [← hu]
  clear hu
  have he : errRules r = 0 := by unfold errRules; rw [h]; rfl
  go_enter Try.func12, Try.ntmps12
  go_wp2_with fail
  refine (qcheckRules_any r _).mono ?_
  rintro e' w1 ⟨rfl, rfl⟩
  rw [he]
  go_wp2_with fail
  generalize hW0 : ((w.alloc (.cells (ruA r) 37)).alloc (.cells (rnA ⟨ph, be, mi, wa, l0, false, l2, te⟩) 34)).alloc (.cells _ _) = W1 at *
  obtain ⟨hal, hB1, hB2, hB3, hWs⟩ := bx3 w _ _ _ W1 hW0.symm
  have hal' := ba (o := ruQ r) hal
  have hC1 := (heap_alloc_old _ (ruQ r) (blk_lt hB1)).trans hB1
  have hC2 := (heap_alloc_old _ (ruQ r) (blk_lt hB2)).trans hB2
  have hC3 := (heap_alloc_old _ (ruQ r) (blk_lt hB3)).trans hB3
  clear hW0 hal hB1 hB2 hB3 hWs he
  generalize W1.alloc (ruQ r) = W at *
  refine (qRight_any r ⟨ph, be, mi, wa, l0, false, l2, te⟩ _).mono ?_
  rintro e' w1 ⟨rfl, hb⟩
  have D1 := Lib.hid (blk_keep hC1 hb (blk_lt hC1))
  have D2 := Lib.hid (blk_keep hC2 hb (blk_lt hC2))
  have D3 := Lib.hid (blk_keep hC3 hb (blk_lt hC3))
  have HB := Lib.hid (hal'.trans (hb.mono hal'.size))
  clear hC1 hC2 hC3 hb hal'
  obtain ⟨f0, f1, f2, f3, f4, f5, f6, f7⟩ := rnfg (x := rn0) D3.out
  obtain ⟨g0, g1, g2, g3, g4, g5, g6, g7⟩ := rn8g (x := rn0) D3.out
  rw [hr]
  obtain ⟨m0, m1, m2, m3, m4, m5, m6, m7, m8, m9, m10, m11, m12⟩ := ru13g D1.out
  obtain ⟨k0, k1, k2, k3, k4, k5, k6, k7⟩ := rn8g D2.out
  obtain ⟨q0, q1, q2, q3, q4, q5, q6, q7⟩ := rnfg D2.out
  have S1 := Lib.hid (oth1 (j := 5) (u := .bool true) D1.out (show w.heap.size ≠ w.heap.size + 1 by omega))
  have S2 := Lib.hid (set_l1 true D2.out)
  have DD3 := Lib.hid (oth1 (j := 5) (u := .bool true) D3.out (show w.heap.size + 1 + 1 ≠ w.heap.size + 1 by omega))
  have HBB := Lib.hid (below_one (B := w.heap.size + 1) (j := 5) (u := .bool true) HB.out (by omega))
  obtain ⟨m0', m1', m2', m3', m4', m5', m6', m7', m8', m9', m10', m11', m12'⟩ := ru13g S1.out
  obtain ⟨k0', k1', k2', k3', k4', k5', k6', k7'⟩ := rn8g S2.out
  obtain ⟨q0', q1', q2', q3', q4', q5', q6', q7'⟩ := rnfg S2.out
  go_wp2_with fail
  refine (qmeet_any r ⟨ph, be, mi, wa, l0, true, l2, te⟩ 1 (by omega) _).mono ?_
  rintro e' w2 ⟨rfl, hb⟩
  rw [← HU.out]
  have E3 := Lib.hid (blk_keep DD3.out hb (blk_lt DD3.out))
  have EB := Lib.hid (HBB.out.trans (hb.mono HBB.out.size))
  clear m0 m1 m2 m3 m4 m5 m6 m7 m8 m9 m10 m11 m12 k0 k1 k2 k3 k4 k5 k6 k7 q0 q1 q2 q3 q4 q5 q6 q7 f0 f1 f2 f3 f4 f5 f6 f7 g0 g1 g2 g3 g4 g5 g6 g7
  clear m0' m1' m2' m3' m4' m5' m6' m7' m8' m9' m10' m11' m12' k0' k1' k2' k3' k4' k5' k6' k7' q0' q1' q2' q3' q4' q5' q6' q7'
  clear hb HU
  obtain ⟨f0, f1, f2, f3, f4, f5, f6, f7⟩ := rnfg (x := rn0) E3.out
  obtain ⟨g0, g1, g2, g3, g4, g5, g6, g7⟩ := rn8g (x := rn0) E3.out
  go_wp2_with fail
  obtain ⟨h0, h1, h2, h3, h4, h5, h6, h7⟩ := rn8g (x := u) (set8 (u0 := .int .i64 (u : Rn).ph) (u1 := .int .i64 (u : Rn).be) (u2 := .int .i64 (u : Rn).mi) (u3 := .int .i64 (u : Rn).wa) (u4 := .bool (u : Rn).l0) (u5 := .bool (u : Rn).l1) (u6 := .bool (u : Rn).l2) (u7 := .bool (u : Rn).te) E3.out)
  refine bodyPost_ret (v := .tuple #[rnV u, .int .i64 0]) (by simp [results, Try.results12, go_sem, h0, h1, h2, h3, h4, h5, h6, h7]) rfl ⟨rfl, ?_⟩
  exact below_set8 EB.out (by omega)
set_option maxRecDepth 100000 in
set_option maxHeartbeats 2000000 in
theorem qNext_5o (r : Ru) (ph be mi wa : Int) (l0 l1 l2 te : Bool) (h : rulesOk r = true) (hr : right r ⟨ph, be, mi, wa, l0, l1, l2, te⟩ = true) (t4 : decide (ph > 4) = true) (w : World) : Calls Try.prog 12 #[ruV r, rnV ⟨ph, be, mi, wa, l0, l1, l2, te⟩, .int .i64 5] w (RetNE (rn0, 51) w) := by
  have he : errRules r = 0 := by unfold errRules; rw [h]; rfl
  go_enter Try.func12, Try.ntmps12
  go_wp2_with fail
  refine (qcheckRules_any r _).mono ?_
  rintro e' w1 ⟨rfl, rfl⟩
  rw [he]
  go_wp2_with fail
  generalize hW0 : ((w.alloc (.cells (ruA r) 37)).alloc (.cells (rnA ⟨ph, be, mi, wa, l0, l1, l2, te⟩) 34)).alloc (.cells _ _) = W1 at *
  obtain ⟨hal, hB1, hB2, hB3, hWs⟩ := bx3 w _ _ _ W1 hW0.symm
  have hal' := ba (o := ruQ r) hal
  have hC1 := (heap_alloc_old _ (ruQ r) (blk_lt hB1)).trans hB1
  have hC2 := (heap_alloc_old _ (ruQ r) (blk_lt hB2)).trans hB2
  have hC3 := (heap_alloc_old _ (ruQ r) (blk_lt hB3)).trans hB3
  clear hW0 hal hB1 hB2 hB3 hWs he
  generalize W1.alloc (ruQ r) = W at *
  refine (qRight_any r ⟨ph, be, mi, wa, l0, l1, l2, te⟩ _).mono ?_
  rintro e' w1 ⟨rfl, hb⟩
  have D1 := Lib.hid (blk_keep hC1 hb (blk_lt hC1))
  have D2 := Lib.hid (blk_keep hC2 hb (blk_lt hC2))
  have D3 := Lib.hid (blk_keep hC3 hb (blk_lt hC3))
  have HB := Lib.hid (hal'.trans (hb.mono hal'.size))
  clear hC1 hC2 hC3 hb hal'
  obtain ⟨f0, f1, f2, f3, f4, f5, f6, f7⟩ := rnfg (x := rn0) D3.out
  obtain ⟨g0, g1, g2, g3, g4, g5, g6, g7⟩ := rn8g (x := rn0) D3.out
  rw [hr]
  obtain ⟨m0, m1, m2, m3, m4, m5, m6, m7, m8, m9, m10, m11, m12⟩ := ru13g D1.out
  obtain ⟨k0, k1, k2, k3, k4, k5, k6, k7⟩ := rn8g D2.out
  obtain ⟨q0, q1, q2, q3, q4, q5, q6, q7⟩ := rnfg D2.out
  go_wp2_with fail
  obtain ⟨h0, h1, h2, h3, h4, h5, h6, h7⟩ := rn8g (x := rn0) (set8 (u0 := .int .i64 0) (u1 := .int .i64 0) (u2 := .int .i64 0) (u3 := .int .i64 0) (u4 := .bool false) (u5 := .bool false) (u6 := .bool false) (u7 := .bool false) D3.out)
  refine bodyPost_ret (v := .tuple #[rnV rn0, .int .i64 51]) (by simp [results, Try.results12, go_sem, h0, h1, h2, h3, h4, h5, h6, h7]) rfl ⟨rfl, ?_⟩
  exact below_set8 HB.out (by omega)
set_option maxRecDepth 100000 in
set_option maxHeartbeats 2000000 in
theorem qNext_5s (r : Ru) (ph be mi wa : Int) (l0 l1 l2 te : Bool) (h : rulesOk r = true) (hr : right r ⟨ph, be, mi, wa, l0, false, l2, te⟩ = true) (t4 : decide (ph > 4) = false) (w : World) : Calls Try.prog 12 #[ruV r, rnV ⟨ph, be, mi, wa, l0, false, l2, te⟩, .int .i64 5] w (RetNE (rn0, 51) w) := by
  have he : errRules r = 0 := by unfold errRules; rw [h]; rfl
  go_enter Try.func12, Try.ntmps12
  go_wp2_with fail
  refine (qcheckRules_any r _).mono ?_
  rintro e' w1 ⟨rfl, rfl⟩
  rw [he]
  go_wp2_with fail
  generalize hW0 : ((w.alloc (.cells (ruA r) 37)).alloc (.cells (rnA ⟨ph, be, mi, wa, l0, false, l2, te⟩) 34)).alloc (.cells _ _) = W1 at *
  obtain ⟨hal, hB1, hB2, hB3, hWs⟩ := bx3 w _ _ _ W1 hW0.symm
  have hal' := ba (o := ruQ r) hal
  have hC1 := (heap_alloc_old _ (ruQ r) (blk_lt hB1)).trans hB1
  have hC2 := (heap_alloc_old _ (ruQ r) (blk_lt hB2)).trans hB2
  have hC3 := (heap_alloc_old _ (ruQ r) (blk_lt hB3)).trans hB3
  clear hW0 hal hB1 hB2 hB3 hWs he
  generalize W1.alloc (ruQ r) = W at *
  refine (qRight_any r ⟨ph, be, mi, wa, l0, false, l2, te⟩ _).mono ?_
  rintro e' w1 ⟨rfl, hb⟩
  have D1 := Lib.hid (blk_keep hC1 hb (blk_lt hC1))
  have D2 := Lib.hid (blk_keep hC2 hb (blk_lt hC2))
  have D3 := Lib.hid (blk_keep hC3 hb (blk_lt hC3))
  have HB := Lib.hid (hal'.trans (hb.mono hal'.size))
  clear hC1 hC2 hC3 hb hal'
  obtain ⟨f0, f1, f2, f3, f4, f5, f6, f7⟩ := rnfg (x := rn0) D3.out
  obtain ⟨g0, g1, g2, g3, g4, g5, g6, g7⟩ := rn8g (x := rn0) D3.out
  rw [hr]
  obtain ⟨m0, m1, m2, m3, m4, m5, m6, m7, m8, m9, m10, m11, m12⟩ := ru13g D1.out
  obtain ⟨k0, k1, k2, k3, k4, k5, k6, k7⟩ := rn8g D2.out
  obtain ⟨q0, q1, q2, q3, q4, q5, q6, q7⟩ := rnfg D2.out
  go_wp2_with fail
  obtain ⟨h0, h1, h2, h3, h4, h5, h6, h7⟩ := rn8g (x := rn0) (set8 (u0 := .int .i64 0) (u1 := .int .i64 0) (u2 := .int .i64 0) (u3 := .int .i64 0) (u4 := .bool false) (u5 := .bool false) (u6 := .bool false) (u7 := .bool false) D3.out)
  refine bodyPost_ret (v := .tuple #[rnV rn0, .int .i64 51]) (by simp [results, Try.results12, go_sem, h0, h1, h2, h3, h4, h5, h6, h7]) rfl ⟨rfl, ?_⟩
  exact below_set8 HB.out (by omega)
set_option maxRecDepth 100000 in
set_option maxHeartbeats 2000000 in
theorem qNext_5n (r : Ru) (ph be mi wa : Int) (l0 l1 l2 te : Bool) (h : rulesOk r = true) (hr : right r ⟨ph, be, mi, wa, l0, true, l2, te⟩ = true) (t4 : decide (ph > 4) = false) (hn : ¬ ph = 4) (w : World) : Calls Try.prog 12 #[ruV r, rnV ⟨ph, be, mi, wa, l0, true, l2, te⟩, .int .i64 5] w (RetNE (⟨ph, be, mi, wa, l0, false, l2, te⟩, 0) w) := by
  have t5 : (ph == 4) = false := by simp [hn]
  clear hn
  have he : errRules r = 0 := by unfold errRules; rw [h]; rfl
  go_enter Try.func12, Try.ntmps12
  go_wp2_with fail
  refine (qcheckRules_any r _).mono ?_
  rintro e' w1 ⟨rfl, rfl⟩
  rw [he]
  go_wp2_with fail
  generalize hW0 : ((w.alloc (.cells (ruA r) 37)).alloc (.cells (rnA ⟨ph, be, mi, wa, l0, true, l2, te⟩) 34)).alloc (.cells _ _) = W1 at *
  obtain ⟨hal, hB1, hB2, hB3, hWs⟩ := bx3 w _ _ _ W1 hW0.symm
  have hal' := ba (o := ruQ r) hal
  have hC1 := (heap_alloc_old _ (ruQ r) (blk_lt hB1)).trans hB1
  have hC2 := (heap_alloc_old _ (ruQ r) (blk_lt hB2)).trans hB2
  have hC3 := (heap_alloc_old _ (ruQ r) (blk_lt hB3)).trans hB3
  clear hW0 hal hB1 hB2 hB3 hWs he
  generalize W1.alloc (ruQ r) = W at *
  refine (qRight_any r ⟨ph, be, mi, wa, l0, true, l2, te⟩ _).mono ?_
  rintro e' w1 ⟨rfl, hb⟩
  have D1 := Lib.hid (blk_keep hC1 hb (blk_lt hC1))
  have D2 := Lib.hid (blk_keep hC2 hb (blk_lt hC2))
  have D3 := Lib.hid (blk_keep hC3 hb (blk_lt hC3))
  have HB := Lib.hid (hal'.trans (hb.mono hal'.size))
  clear hC1 hC2 hC3 hb hal'
  obtain ⟨f0, f1, f2, f3, f4, f5, f6, f7⟩ := rnfg (x := rn0) D3.out
  obtain ⟨g0, g1, g2, g3, g4, g5, g6, g7⟩ := rn8g (x := rn0) D3.out
  rw [hr]
  obtain ⟨m0, m1, m2, m3, m4, m5, m6, m7, m8, m9, m10, m11, m12⟩ := ru13g D1.out
  obtain ⟨k0, k1, k2, k3, k4, k5, k6, k7⟩ := rn8g D2.out
  obtain ⟨q0, q1, q2, q3, q4, q5, q6, q7⟩ := rnfg D2.out
  have S1 := Lib.hid (oth1 (j := 5) (u := .bool false) D1.out (show w.heap.size ≠ w.heap.size + 1 by omega))
  have S2 := Lib.hid (set_l1 false D2.out)
  have DD3 := Lib.hid (oth1 (j := 5) (u := .bool false) D3.out (show w.heap.size + 1 + 1 ≠ w.heap.size + 1 by omega))
  have HBB := Lib.hid (below_one (B := w.heap.size + 1) (j := 5) (u := .bool false) HB.out (by omega))
  obtain ⟨m0', m1', m2', m3', m4', m5', m6', m7', m8', m9', m10', m11', m12'⟩ := ru13g S1.out
  obtain ⟨k0', k1', k2', k3', k4', k5', k6', k7'⟩ := rn8g S2.out
  obtain ⟨q0', q1', q2', q3', q4', q5', q6', q7'⟩ := rnfg S2.out
  obtain ⟨f0', f1', f2', f3', f4', f5', f6', f7'⟩ := rnfg (x := rn0) DD3.out
  obtain ⟨g0', g1', g2', g3', g4', g5', g6', g7'⟩ := rn8g (x := rn0) DD3.out
  go_wp2_with fail
  obtain ⟨h0, h1, h2, h3, h4, h5, h6, h7⟩ := rn8g (x := ⟨ph, be, mi, wa, l0, false, l2, te⟩) (set8 (u0 := .int .i64 (⟨ph, be, mi, wa, l0, false, l2, te⟩ : Rn).ph) (u1 := .int .i64 (⟨ph, be, mi, wa, l0, false, l2, te⟩ : Rn).be) (u2 := .int .i64 (⟨ph, be, mi, wa, l0, false, l2, te⟩ : Rn).mi) (u3 := .int .i64 (⟨ph, be, mi, wa, l0, false, l2, te⟩ : Rn).wa) (u4 := .bool (⟨ph, be, mi, wa, l0, false, l2, te⟩ : Rn).l0) (u5 := .bool (⟨ph, be, mi, wa, l0, false, l2, te⟩ : Rn).l1) (u6 := .bool (⟨ph, be, mi, wa, l0, false, l2, te⟩ : Rn).l2) (u7 := .bool (⟨ph, be, mi, wa, l0, false, l2, te⟩ : Rn).te) DD3.out)
  refine bodyPost_ret (v := .tuple #[rnV ⟨ph, be, mi, wa, l0, false, l2, te⟩, .int .i64 0]) (by simp [results, Try.results12, go_sem, h0, h1, h2, h3, h4, h5, h6, h7]) rfl ⟨rfl, ?_⟩
  exact below_set8 HBB.out (by omega)
set_option maxRecDepth 100000 in
set_option maxHeartbeats 2000000 in
theorem qNext_5h (r : Ru) (be mi wa : Int) (l0 l1 l2 te : Bool) (h : rulesOk r = true) (hr : right r ⟨4, be, mi, wa, l0, true, l2, te⟩ = true) (hp : 1 ≤ be ∧ be ≤ 3) (hh : heldAt r ⟨4, be, mi, wa, l0, false, l2, te⟩ be = true) (w : World) : Calls Try.prog 12 #[ruV r, rnV ⟨4, be, mi, wa, l0, true, l2, te⟩, .int .i64 5] w (RetNE (⟨4, be, mi, wa, l0, false, l2, te⟩, 0) w) := by
  have HP := Lib.hid hp
  have HH := Lib.hid hh
  clear hp hh
  have he : errRules r = 0 := by unfold errRules; rw [h]; rfl
  go_enter Try.func12, Try.ntmps12
  go_wp2_with fail
  refine (qcheckRules_any r _).mono ?_
  rintro e' w1 ⟨rfl, rfl⟩
  rw [he]
  go_wp2_with fail
  generalize hW0 : ((w.alloc (.cells (ruA r) 37)).alloc (.cells (rnA ⟨4, be, mi, wa, l0, true, l2, te⟩) 34)).alloc (.cells _ _) = W1 at *
  obtain ⟨hal, hB1, hB2, hB3, hWs⟩ := bx3 w _ _ _ W1 hW0.symm
  have hal' := ba (o := ruQ r) hal
  have hC1 := (heap_alloc_old _ (ruQ r) (blk_lt hB1)).trans hB1
  have hC2 := (heap_alloc_old _ (ruQ r) (blk_lt hB2)).trans hB2
  have hC3 := (heap_alloc_old _ (ruQ r) (blk_lt hB3)).trans hB3
  clear hW0 hal hB1 hB2 hB3 hWs he
  generalize W1.alloc (ruQ r) = W at *
  refine (qRight_any r ⟨4, be, mi, wa, l0, true, l2, te⟩ _).mono ?_
  rintro e' w1 ⟨rfl, hb⟩
  have D1 := Lib.hid (blk_keep hC1 hb (blk_lt hC1))
  have D2 := Lib.hid (blk_keep hC2 hb (blk_lt hC2))
  have D3 := Lib.hid (blk_keep hC3 hb (blk_lt hC3))
  have HB := Lib.hid (hal'.trans (hb.mono hal'.size))
  clear hC1 hC2 hC3 hb hal'
  obtain ⟨f0, f1, f2, f3, f4, f5, f6, f7⟩ := rnfg (x := rn0) D3.out
  obtain ⟨g0, g1, g2, g3, g4, g5, g6, g7⟩ := rn8g (x := rn0) D3.out
  rw [hr]
  obtain ⟨m0, m1, m2, m3, m4, m5, m6, m7, m8, m9, m10, m11, m12⟩ := ru13g D1.out
  obtain ⟨k0, k1, k2, k3, k4, k5, k6, k7⟩ := rn8g D2.out
  obtain ⟨q0, q1, q2, q3, q4, q5, q6, q7⟩ := rnfg D2.out
  have S1 := Lib.hid (oth1 (j := 5) (u := .bool false) D1.out (show w.heap.size ≠ w.heap.size + 1 by omega))
  have S2 := Lib.hid (set_l1 false D2.out)
  have DD3 := Lib.hid (oth1 (j := 5) (u := .bool false) D3.out (show w.heap.size + 1 + 1 ≠ w.heap.size + 1 by omega))
  have HBB := Lib.hid (below_one (B := w.heap.size + 1) (j := 5) (u := .bool false) HB.out (by omega))
  obtain ⟨m0', m1', m2', m3', m4', m5', m6', m7', m8', m9', m10', m11', m12'⟩ := ru13g S1.out
  obtain ⟨k0', k1', k2', k3', k4', k5', k6', k7'⟩ := rn8g S2.out
  obtain ⟨q0', q1', q2', q3', q4', q5', q6', q7'⟩ := rnfg S2.out
  go_wp2_with fail
  refine (waits_any r ⟨4, be, mi, wa, l0, false, l2, te⟩ be HP.out _).mono ?_
  rintro e' w2 ⟨rfl, rfl⟩
  rw [HH.out]
  have F3 := Lib.hid ((heap_alloc_old _ (rnQ ⟨4, be, mi, wa, l0, false, l2, te⟩) (blk_lt ((heap_alloc_old _ (ruQ r) (blk_lt DD3.out)).trans DD3.out))).trans ((heap_alloc_old _ (ruQ r) (blk_lt DD3.out)).trans DD3.out))
  have F2 := Lib.hid ((heap_alloc_old _ (rnQ ⟨4, be, mi, wa, l0, false, l2, te⟩) (blk_lt ((heap_alloc_old _ (ruQ r) (blk_lt S2.out)).trans S2.out))).trans ((heap_alloc_old _ (ruQ r) (blk_lt S2.out)).trans S2.out))
  have FB := Lib.hid (ba (o := rnQ ⟨4, be, mi, wa, l0, false, l2, te⟩) (ba (o := ruQ r) HBB.out))
  clear m0 m1 m2 m3 m4 m5 m6 m7 m8 m9 m10 m11 m12 k0 k1 k2 k3 k4 k5 k6 k7 q0 q1 q2 q3 q4 q5 q6 q7 f0 f1 f2 f3 f4 f5 f6 f7 g0 g1 g2 g3 g4 g5 g6 g7
  clear m0' m1' m2' m3' m4' m5' m6' m7' m8' m9' m10' m11' m12' k0' k1' k2' k3' k4' k5' k6' k7' q0' q1' q2' q3' q4' q5' q6' q7'
  obtain ⟨k0, k1, k2, k3, k4, k5, k6, k7⟩ := rn8g F2.out
  obtain ⟨q0, q1, q2, q3, q4, q5, q6, q7⟩ := rnfg F2.out
  obtain ⟨f0, f1, f2, f3, f4, f5, f6, f7⟩ := rnfg (x := rn0) F3.out
  obtain ⟨g0, g1, g2, g3, g4, g5, g6, g7⟩ := rn8g (x := rn0) F3.out
  go_wp2_with fail
  obtain ⟨h0, h1, h2, h3, h4, h5, h6, h7⟩ := rn8g (x := ⟨4, be, mi, wa, l0, false, l2, te⟩) (set8 (u0 := .int .i64 (⟨4, be, mi, wa, l0, false, l2, te⟩ : Rn).ph) (u1 := .int .i64 (⟨4, be, mi, wa, l0, false, l2, te⟩ : Rn).be) (u2 := .int .i64 (⟨4, be, mi, wa, l0, false, l2, te⟩ : Rn).mi) (u3 := .int .i64 (⟨4, be, mi, wa, l0, false, l2, te⟩ : Rn).wa) (u4 := .bool (⟨4, be, mi, wa, l0, false, l2, te⟩ : Rn).l0) (u5 := .bool (⟨4, be, mi, wa, l0, false, l2, te⟩ : Rn).l1) (u6 := .bool (⟨4, be, mi, wa, l0, false, l2, te⟩ : Rn).l2) (u7 := .bool (⟨4, be, mi, wa, l0, false, l2, te⟩ : Rn).te) F3.out)
  refine bodyPost_ret (v := .tuple #[rnV ⟨4, be, mi, wa, l0, false, l2, te⟩, .int .i64 0]) (by simp [results, Try.results12, go_sem, h0, h1, h2, h3, h4, h5, h6, h7]) rfl ⟨rfl, ?_⟩
  exact below_set8 FB.out (by omega)
set_option maxRecDepth 100000 in
set_option maxHeartbeats 2000000 in
theorem qNext_5u (r : Ru) (be mi wa : Int) (l0 l1 l2 te : Bool) (h : rulesOk r = true) (hr : right r ⟨4, be, mi, wa, l0, true, l2, te⟩ = true) (hp : 1 ≤ be ∧ be ≤ 3) (hh : heldAt r ⟨4, be, mi, wa, l0, false, l2, te⟩ be = false) (w : World) : Calls Try.prog 12 #[ruV r, rnV ⟨4, be, mi, wa, l0, true, l2, te⟩, .int .i64 5] w (RetNE (⟨be, 0, mi, 0, l0, false, l2, te⟩, 0) w) := by
  have HP := Lib.hid hp
  have HH := Lib.hid hh
  clear hp hh
  have he : errRules r = 0 := by unfold errRules; rw [h]; rfl
  go_enter Try.func12, Try.ntmps12
  go_wp2_with fail
  refine (qcheckRules_any r _).mono ?_
  rintro e' w1 ⟨rfl, rfl⟩
  rw [he]
  go_wp2_with fail
  generalize hW0 : ((w.alloc (.cells (ruA r) 37)).alloc (.cells (rnA ⟨4, be, mi, wa, l0, true, l2, te⟩) 34)).alloc (.cells _ _) = W1 at *
  obtain ⟨hal, hB1, hB2, hB3, hWs⟩ := bx3 w _ _ _ W1 hW0.symm
  have hal' := ba (o := ruQ r) hal
  have hC1 := (heap_alloc_old _ (ruQ r) (blk_lt hB1)).trans hB1
  have hC2 := (heap_alloc_old _ (ruQ r) (blk_lt hB2)).trans hB2
  have hC3 := (heap_alloc_old _ (ruQ r) (blk_lt hB3)).trans hB3
  clear hW0 hal hB1 hB2 hB3 hWs he
  generalize W1.alloc (ruQ r) = W at *
  refine (qRight_any r ⟨4, be, mi, wa, l0, true, l2, te⟩ _).mono ?_
  rintro e' w1 ⟨rfl, hb⟩
  have D1 := Lib.hid (blk_keep hC1 hb (blk_lt hC1))
  have D2 := Lib.hid (blk_keep hC2 hb (blk_lt hC2))
  have D3 := Lib.hid (blk_keep hC3 hb (blk_lt hC3))
  have HB := Lib.hid (hal'.trans (hb.mono hal'.size))
  clear hC1 hC2 hC3 hb hal'
  obtain ⟨f0, f1, f2, f3, f4, f5, f6, f7⟩ := rnfg (x := rn0) D3.out
  obtain ⟨g0, g1, g2, g3, g4, g5, g6, g7⟩ := rn8g (x := rn0) D3.out
  rw [hr]
  obtain ⟨m0, m1, m2, m3, m4, m5, m6, m7, m8, m9, m10, m11, m12⟩ := ru13g D1.out
  obtain ⟨k0, k1, k2, k3, k4, k5, k6, k7⟩ := rn8g D2.out
  obtain ⟨q0, q1, q2, q3, q4, q5, q6, q7⟩ := rnfg D2.out
  have S1 := Lib.hid (oth1 (j := 5) (u := .bool false) D1.out (show w.heap.size ≠ w.heap.size + 1 by omega))
  have S2 := Lib.hid (set_l1 false D2.out)
  have DD3 := Lib.hid (oth1 (j := 5) (u := .bool false) D3.out (show w.heap.size + 1 + 1 ≠ w.heap.size + 1 by omega))
  have HBB := Lib.hid (below_one (B := w.heap.size + 1) (j := 5) (u := .bool false) HB.out (by omega))
  obtain ⟨m0', m1', m2', m3', m4', m5', m6', m7', m8', m9', m10', m11', m12'⟩ := ru13g S1.out
  obtain ⟨k0', k1', k2', k3', k4', k5', k6', k7'⟩ := rn8g S2.out
  obtain ⟨q0', q1', q2', q3', q4', q5', q6', q7'⟩ := rnfg S2.out
  go_wp2_with fail
  refine (waits_any r ⟨4, be, mi, wa, l0, false, l2, te⟩ be HP.out _).mono ?_
  rintro e' w2 ⟨rfl, rfl⟩
  rw [HH.out]
  have F3 := Lib.hid ((heap_alloc_old _ (rnQ ⟨4, be, mi, wa, l0, false, l2, te⟩) (blk_lt ((heap_alloc_old _ (ruQ r) (blk_lt DD3.out)).trans DD3.out))).trans ((heap_alloc_old _ (ruQ r) (blk_lt DD3.out)).trans DD3.out))
  have F2 := Lib.hid ((heap_alloc_old _ (rnQ ⟨4, be, mi, wa, l0, false, l2, te⟩) (blk_lt ((heap_alloc_old _ (ruQ r) (blk_lt S2.out)).trans S2.out))).trans ((heap_alloc_old _ (ruQ r) (blk_lt S2.out)).trans S2.out))
  have FB := Lib.hid (ba (o := rnQ ⟨4, be, mi, wa, l0, false, l2, te⟩) (ba (o := ruQ r) HBB.out))
  clear m0 m1 m2 m3 m4 m5 m6 m7 m8 m9 m10 m11 m12 k0 k1 k2 k3 k4 k5 k6 k7 q0 q1 q2 q3 q4 q5 q6 q7 f0 f1 f2 f3 f4 f5 f6 f7 g0 g1 g2 g3 g4 g5 g6 g7
  clear m0' m1' m2' m3' m4' m5' m6' m7' m8' m9' m10' m11' m12' k0' k1' k2' k3' k4' k5' k6' k7' q0' q1' q2' q3' q4' q5' q6' q7'
  obtain ⟨k0, k1, k2, k3, k4, k5, k6, k7⟩ := rn8g F2.out
  obtain ⟨q0, q1, q2, q3, q4, q5, q6, q7⟩ := rnfg F2.out
  obtain ⟨f0, f1, f2, f3, f4, f5, f6, f7⟩ := rnfg (x := rn0) F3.out
  obtain ⟨g0, g1, g2, g3, g4, g5, g6, g7⟩ := rn8g (x := rn0) F3.out
  generalize hV0 : (((w1.setCell ⟨w.heap.size + 1, 5, none⟩ (.bool false)).alloc (.cells (ruA r) 37)).alloc (.cells (rnA ⟨4, be, mi, wa, l0, false, l2, te⟩) 34)) = V at *
  have Q2 := Lib.hid (blk_set (blk_set (blk_set F2.out 0 (.int .i64 be)) 1 (.int .i64 0)) 3 (.int .i64 0))
  have Q3 := Lib.hid (oth1 (j := 3) (u := .int .i64 0) (oth1 (j := 1) (u := .int .i64 0) (oth1 (j := 0) (u := .int .i64 be) F3.out (show w.heap.size + 1 + 1 ≠ w.heap.size + 1 by omega)) (show w.heap.size + 1 + 1 ≠ w.heap.size + 1 by omega)) (show w.heap.size + 1 + 1 ≠ w.heap.size + 1 by omega))
  have QB := Lib.hid (below_one (B := w.heap.size + 1) (j := 3) (u := .int .i64 0) (below_one (B := w.heap.size + 1) (j := 1) (u := .int .i64 0) (below_one (B := w.heap.size + 1) (j := 0) (u := .int .i64 be) FB.out (by omega)) (by omega)) (by omega))
  obtain ⟨f0', f1', f2', f3', f4', f5', f6', f7'⟩ := rnfg (x := rn0) Q3.out
  obtain ⟨g0', g1', g2', g3', g4', g5', g6', g7'⟩ := rn8g (x := rn0) Q3.out
  obtain ⟨k0', k1', k2', k3', k4', k5', k6', k7'⟩ := rn8g (x := ⟨be, 0, mi, 0, l0, false, l2, te⟩) Q2.out
  go_wp2_with fail
  obtain ⟨h0, h1, h2, h3, h4, h5, h6, h7⟩ := rn8g (x := ⟨be, 0, mi, 0, l0, false, l2, te⟩) (set8 (u0 := .int .i64 (⟨be, 0, mi, 0, l0, false, l2, te⟩ : Rn).ph) (u1 := .int .i64 (⟨be, 0, mi, 0, l0, false, l2, te⟩ : Rn).be) (u2 := .int .i64 (⟨be, 0, mi, 0, l0, false, l2, te⟩ : Rn).mi) (u3 := .int .i64 (⟨be, 0, mi, 0, l0, false, l2, te⟩ : Rn).wa) (u4 := .bool (⟨be, 0, mi, 0, l0, false, l2, te⟩ : Rn).l0) (u5 := .bool (⟨be, 0, mi, 0, l0, false, l2, te⟩ : Rn).l1) (u6 := .bool (⟨be, 0, mi, 0, l0, false, l2, te⟩ : Rn).l2) (u7 := .bool (⟨be, 0, mi, 0, l0, false, l2, te⟩ : Rn).te) Q3.out)
  refine bodyPost_ret (v := .tuple #[rnV ⟨be, 0, mi, 0, l0, false, l2, te⟩, .int .i64 0]) (by simp [results, Try.results12, go_sem, h0, h1, h2, h3, h4, h5, h6, h7]) rfl ⟨rfl, ?_⟩
  exact below_set8 QB.out (by omega)
set_option maxRecDepth 100000 in
set_option maxHeartbeats 2000000 in
theorem qNext_6o (r : Ru) (ph be mi wa : Int) (l0 l1 l2 te : Bool) (h : rulesOk r = true) (hr : right r ⟨ph, be, mi, wa, l0, l1, l2, te⟩ = true) (t4 : decide (ph > 4) = true) (w : World) : Calls Try.prog 12 #[ruV r, rnV ⟨ph, be, mi, wa, l0, l1, l2, te⟩, .int .i64 6] w (RetNE (rn0, 51) w) := by
  have he : errRules r = 0 := by unfold errRules; rw [h]; rfl
  go_enter Try.func12, Try.ntmps12
  go_wp2_with fail
  refine (qcheckRules_any r _).mono ?_
  rintro e' w1 ⟨rfl, rfl⟩
  rw [he]
  go_wp2_with fail
  generalize hW0 : ((w.alloc (.cells (ruA r) 37)).alloc (.cells (rnA ⟨ph, be, mi, wa, l0, l1, l2, te⟩) 34)).alloc (.cells _ _) = W1 at *
  obtain ⟨hal, hB1, hB2, hB3, hWs⟩ := bx3 w _ _ _ W1 hW0.symm
  have hal' := ba (o := ruQ r) hal
  have hC1 := (heap_alloc_old _ (ruQ r) (blk_lt hB1)).trans hB1
  have hC2 := (heap_alloc_old _ (ruQ r) (blk_lt hB2)).trans hB2
  have hC3 := (heap_alloc_old _ (ruQ r) (blk_lt hB3)).trans hB3
  clear hW0 hal hB1 hB2 hB3 hWs he
  generalize W1.alloc (ruQ r) = W at *
  refine (qRight_any r ⟨ph, be, mi, wa, l0, l1, l2, te⟩ _).mono ?_
  rintro e' w1 ⟨rfl, hb⟩
  have D1 := Lib.hid (blk_keep hC1 hb (blk_lt hC1))
  have D2 := Lib.hid (blk_keep hC2 hb (blk_lt hC2))
  have D3 := Lib.hid (blk_keep hC3 hb (blk_lt hC3))
  have HB := Lib.hid (hal'.trans (hb.mono hal'.size))
  clear hC1 hC2 hC3 hb hal'
  obtain ⟨f0, f1, f2, f3, f4, f5, f6, f7⟩ := rnfg (x := rn0) D3.out
  obtain ⟨g0, g1, g2, g3, g4, g5, g6, g7⟩ := rn8g (x := rn0) D3.out
  rw [hr]
  obtain ⟨m0, m1, m2, m3, m4, m5, m6, m7, m8, m9, m10, m11, m12⟩ := ru13g D1.out
  obtain ⟨k0, k1, k2, k3, k4, k5, k6, k7⟩ := rn8g D2.out
  obtain ⟨q0, q1, q2, q3, q4, q5, q6, q7⟩ := rnfg D2.out
  go_wp2_with fail
  obtain ⟨h0, h1, h2, h3, h4, h5, h6, h7⟩ := rn8g (x := rn0) (set8 (u0 := .int .i64 0) (u1 := .int .i64 0) (u2 := .int .i64 0) (u3 := .int .i64 0) (u4 := .bool false) (u5 := .bool false) (u6 := .bool false) (u7 := .bool false) D3.out)
  refine bodyPost_ret (v := .tuple #[rnV rn0, .int .i64 51]) (by simp [results, Try.results12, go_sem, h0, h1, h2, h3, h4, h5, h6, h7]) rfl ⟨rfl, ?_⟩
  exact below_set8 HB.out (by omega)
set_option maxRecDepth 100000 in
set_option maxHeartbeats 2000000 in
theorem qNext_6s (r : Ru) (ph be mi wa : Int) (l0 l1 l2 te : Bool) (h : rulesOk r = true) (hr : right r ⟨ph, be, mi, wa, l0, l1, true, te⟩ = true) (t4 : decide (ph > 4) = false) (w : World) : Calls Try.prog 12 #[ruV r, rnV ⟨ph, be, mi, wa, l0, l1, true, te⟩, .int .i64 6] w (RetNE (rn0, 51) w) := by
  have he : errRules r = 0 := by unfold errRules; rw [h]; rfl
  go_enter Try.func12, Try.ntmps12
  go_wp2_with fail
  refine (qcheckRules_any r _).mono ?_
  rintro e' w1 ⟨rfl, rfl⟩
  rw [he]
  go_wp2_with fail
  generalize hW0 : ((w.alloc (.cells (ruA r) 37)).alloc (.cells (rnA ⟨ph, be, mi, wa, l0, l1, true, te⟩) 34)).alloc (.cells _ _) = W1 at *
  obtain ⟨hal, hB1, hB2, hB3, hWs⟩ := bx3 w _ _ _ W1 hW0.symm
  have hal' := ba (o := ruQ r) hal
  have hC1 := (heap_alloc_old _ (ruQ r) (blk_lt hB1)).trans hB1
  have hC2 := (heap_alloc_old _ (ruQ r) (blk_lt hB2)).trans hB2
  have hC3 := (heap_alloc_old _ (ruQ r) (blk_lt hB3)).trans hB3
  clear hW0 hal hB1 hB2 hB3 hWs he
  generalize W1.alloc (ruQ r) = W at *
  refine (qRight_any r ⟨ph, be, mi, wa, l0, l1, true, te⟩ _).mono ?_
  rintro e' w1 ⟨rfl, hb⟩
  have D1 := Lib.hid (blk_keep hC1 hb (blk_lt hC1))
  have D2 := Lib.hid (blk_keep hC2 hb (blk_lt hC2))
  have D3 := Lib.hid (blk_keep hC3 hb (blk_lt hC3))
  have HB := Lib.hid (hal'.trans (hb.mono hal'.size))
  clear hC1 hC2 hC3 hb hal'
  obtain ⟨f0, f1, f2, f3, f4, f5, f6, f7⟩ := rnfg (x := rn0) D3.out
  obtain ⟨g0, g1, g2, g3, g4, g5, g6, g7⟩ := rn8g (x := rn0) D3.out
  rw [hr]
  obtain ⟨m0, m1, m2, m3, m4, m5, m6, m7, m8, m9, m10, m11, m12⟩ := ru13g D1.out
  obtain ⟨k0, k1, k2, k3, k4, k5, k6, k7⟩ := rn8g D2.out
  obtain ⟨q0, q1, q2, q3, q4, q5, q6, q7⟩ := rnfg D2.out
  go_wp2_with fail
  obtain ⟨h0, h1, h2, h3, h4, h5, h6, h7⟩ := rn8g (x := rn0) (set8 (u0 := .int .i64 0) (u1 := .int .i64 0) (u2 := .int .i64 0) (u3 := .int .i64 0) (u4 := .bool false) (u5 := .bool false) (u6 := .bool false) (u7 := .bool false) D3.out)
  refine bodyPost_ret (v := .tuple #[rnV rn0, .int .i64 51]) (by simp [results, Try.results12, go_sem, h0, h1, h2, h3, h4, h5, h6, h7]) rfl ⟨rfl, ?_⟩
  exact below_set8 HB.out (by omega)
set_option maxRecDepth 100000 in
set_option maxHeartbeats 2000000 in
theorem qNext_6 (r : Ru) (ph be mi wa : Int) (l0 l1 l2 te : Bool) (h : rulesOk r = true) (hr : right r ⟨ph, be, mi, wa, l0, l1, false, te⟩ = true) (t4 : decide (ph > 4) = false) (w : World) : Calls Try.prog 12 #[ruV r, rnV ⟨ph, be, mi, wa, l0, l1, false, te⟩, .int .i64 6] w (RetNE (meetR r ⟨ph, be, mi, wa, l0, l1, true, te⟩ 2, 0) w) := by
  obtain ⟨u, hu⟩ : ∃ u, u = meetR r ⟨ph, be, mi, wa, l0, l1, true, te⟩ 2 := ⟨_, rfl⟩
  have HU := Lib.hid hu
  rw [← hu]
  clear hu
  have he : errRules r = 0 := by unfold errRules; rw [h]; rfl
  go_enter Try.func12, Try.ntmps12
  go_wp2_with fail
  refine (qcheckRules_any r _).mono ?_
  rintro e' w1 ⟨rfl, rfl⟩
  rw [he]
  go_wp2_with fail
  generalize hW0 : ((w.alloc (.cells (ruA r) 37)).alloc (.cells (rnA ⟨ph, be, mi, wa, l0, l1, false, te⟩) 34)).alloc (.cells _ _) = W1 at *
  obtain ⟨hal, hB1, hB2, hB3, hWs⟩ := bx3 w _ _ _ W1 hW0.symm
  have hal' := ba (o := ruQ r) hal
  have hC1 := (heap_alloc_old _ (ruQ r) (blk_lt hB1)).trans hB1
  have hC2 := (heap_alloc_old _ (ruQ r) (blk_lt hB2)).trans hB2
  have hC3 := (heap_alloc_old _ (ruQ r) (blk_lt hB3)).trans hB3
  clear hW0 hal hB1 hB2 hB3 hWs he
  generalize W1.alloc (ruQ r) = W at *
  refine (qRight_any r ⟨ph, be, mi, wa, l0, l1, false, te⟩ _).mono ?_
  rintro e' w1 ⟨rfl, hb⟩
  have D1 := Lib.hid (blk_keep hC1 hb (blk_lt hC1))
  have D2 := Lib.hid (blk_keep hC2 hb (blk_lt hC2))
  have D3 := Lib.hid (blk_keep hC3 hb (blk_lt hC3))
  have HB := Lib.hid (hal'.trans (hb.mono hal'.size))
  clear hC1 hC2 hC3 hb hal'
  obtain ⟨f0, f1, f2, f3, f4, f5, f6, f7⟩ := rnfg (x := rn0) D3.out
  obtain ⟨g0, g1, g2, g3, g4, g5, g6, g7⟩ := rn8g (x := rn0) D3.out
  rw [hr]
  obtain ⟨m0, m1, m2, m3, m4, m5, m6, m7, m8, m9, m10, m11, m12⟩ := ru13g D1.out
  obtain ⟨k0, k1, k2, k3, k4, k5, k6, k7⟩ := rn8g D2.out
  obtain ⟨q0, q1, q2, q3, q4, q5, q6, q7⟩ := rnfg D2.out
  have S1 := Lib.hid (oth1 (j := 6) (u := .bool true) D1.out (show w.heap.size ≠ w.heap.size + 1 by omega))
  have S2 := Lib.hid (set_l2 true D2.out)
  have DD3 := Lib.hid (oth1 (j := 6) (u := .bool true) D3.out (show w.heap.size + 1 + 1 ≠ w.heap.size + 1 by omega))
  have HBB := Lib.hid (below_one (B := w.heap.size + 1) (j := 6) (u := .bool true) HB.out (by omega))
  obtain ⟨m0', m1', m2', m3', m4', m5', m6', m7', m8', m9', m10', m11', m12'⟩ := ru13g S1.out
  obtain ⟨k0', k1', k2', k3', k4', k5', k6', k7'⟩ := rn8g S2.out
  obtain ⟨q0', q1', q2', q3', q4', q5', q6', q7'⟩ := rnfg S2.out
  go_wp2_with fail
  refine (qmeet_any r ⟨ph, be, mi, wa, l0, l1, true, te⟩ 2 (by omega) _).mono ?_
  rintro e' w2 ⟨rfl, hb⟩
  rw [← HU.out]
  have E3 := Lib.hid (blk_keep DD3.out hb (blk_lt DD3.out))
  have EB := Lib.hid (HBB.out.trans (hb.mono HBB.out.size))
  clear m0 m1 m2 m3 m4 m5 m6 m7 m8 m9 m10 m11 m12 k0 k1 k2 k3 k4 k5 k6 k7 q0 q1 q2 q3 q4 q5 q6 q7 f0 f1 f2 f3 f4 f5 f6 f7 g0 g1 g2 g3 g4 g5 g6 g7
  clear m0' m1' m2' m3' m4' m5' m6' m7' m8' m9' m10' m11' m12' k0' k1' k2' k3' k4' k5' k6' k7' q0' q1' q2' q3' q4' q5' q6' q7'
  clear hb HU
  obtain ⟨f0, f1, f2, f3, f4, f5, f6, f7⟩ := rnfg (x := rn0) E3.out
  obtain ⟨g0, g1, g2, g3, g4, g5, g6, g7⟩ := rn8g (x := rn0) E3.out
  go_wp2_with fail
  obtain ⟨h0, h1, h2, h3, h4, h5, h6, h7⟩ := rn8g (x := u) (set8 (u0 := .int .i64 (u : Rn).ph) (u1 := .int .i64 (u : Rn).be) (u2 := .int .i64 (u : Rn).mi) (u3 := .int .i64 (u : Rn).wa) (u4 := .bool (u : Rn).l0) (u5 := .bool (u : Rn).l1) (u6 := .bool (u : Rn).l2) (u7 := .bool (u : Rn).te) E3.out)
  refine bodyPost_ret (v := .tuple #[rnV u, .int .i64 0]) (by simp [results, Try.results12, go_sem, h0, h1, h2, h3, h4, h5, h6, h7]) rfl ⟨rfl, ?_⟩
  exact below_set8 EB.out (by omega)
set_option maxRecDepth 100000 in
set_option maxHeartbeats 2000000 in
theorem qNext_7o (r : Ru) (ph be mi wa : Int) (l0 l1 l2 te : Bool) (h : rulesOk r = true) (hr : right r ⟨ph, be, mi, wa, l0, l1, l2, te⟩ = true) (t4 : decide (ph > 4) = true) (w : World) : Calls Try.prog 12 #[ruV r, rnV ⟨ph, be, mi, wa, l0, l1, l2, te⟩, .int .i64 7] w (RetNE (rn0, 51) w) := by
  have he : errRules r = 0 := by unfold errRules; rw [h]; rfl
  go_enter Try.func12, Try.ntmps12
  go_wp2_with fail
  refine (qcheckRules_any r _).mono ?_
  rintro e' w1 ⟨rfl, rfl⟩
  rw [he]
  go_wp2_with fail
  generalize hW0 : ((w.alloc (.cells (ruA r) 37)).alloc (.cells (rnA ⟨ph, be, mi, wa, l0, l1, l2, te⟩) 34)).alloc (.cells _ _) = W1 at *
  obtain ⟨hal, hB1, hB2, hB3, hWs⟩ := bx3 w _ _ _ W1 hW0.symm
  have hal' := ba (o := ruQ r) hal
  have hC1 := (heap_alloc_old _ (ruQ r) (blk_lt hB1)).trans hB1
  have hC2 := (heap_alloc_old _ (ruQ r) (blk_lt hB2)).trans hB2
  have hC3 := (heap_alloc_old _ (ruQ r) (blk_lt hB3)).trans hB3
  clear hW0 hal hB1 hB2 hB3 hWs he
  generalize W1.alloc (ruQ r) = W at *
  refine (qRight_any r ⟨ph, be, mi, wa, l0, l1, l2, te⟩ _).mono ?_
  rintro e' w1 ⟨rfl, hb⟩
  have D1 := Lib.hid (blk_keep hC1 hb (blk_lt hC1))
  have D2 := Lib.hid (blk_keep hC2 hb (blk_lt hC2))
  have D3 := Lib.hid (blk_keep hC3 hb (blk_lt hC3))
  have HB := Lib.hid (hal'.trans (hb.mono hal'.size))
  clear hC1 hC2 hC3 hb hal'
  obtain ⟨f0, f1, f2, f3, f4, f5, f6, f7⟩ := rnfg (x := rn0) D3.out
  obtain ⟨g0, g1, g2, g3, g4, g5, g6, g7⟩ := rn8g (x := rn0) D3.out
  rw [hr]
  obtain ⟨m0, m1, m2, m3, m4, m5, m6, m7, m8, m9, m10, m11, m12⟩ := ru13g D1.out
  obtain ⟨k0, k1, k2, k3, k4, k5, k6, k7⟩ := rn8g D2.out
  obtain ⟨q0, q1, q2, q3, q4, q5, q6, q7⟩ := rnfg D2.out
  go_wp2_with fail
  obtain ⟨h0, h1, h2, h3, h4, h5, h6, h7⟩ := rn8g (x := rn0) (set8 (u0 := .int .i64 0) (u1 := .int .i64 0) (u2 := .int .i64 0) (u3 := .int .i64 0) (u4 := .bool false) (u5 := .bool false) (u6 := .bool false) (u7 := .bool false) D3.out)
  refine bodyPost_ret (v := .tuple #[rnV rn0, .int .i64 51]) (by simp [results, Try.results12, go_sem, h0, h1, h2, h3, h4, h5, h6, h7]) rfl ⟨rfl, ?_⟩
  exact below_set8 HB.out (by omega)
set_option maxRecDepth 100000 in
set_option maxHeartbeats 2000000 in
theorem qNext_7s (r : Ru) (ph be mi wa : Int) (l0 l1 l2 te : Bool) (h : rulesOk r = true) (hr : right r ⟨ph, be, mi, wa, l0, l1, false, te⟩ = true) (t4 : decide (ph > 4) = false) (w : World) : Calls Try.prog 12 #[ruV r, rnV ⟨ph, be, mi, wa, l0, l1, false, te⟩, .int .i64 7] w (RetNE (rn0, 51) w) := by
  have he : errRules r = 0 := by unfold errRules; rw [h]; rfl
  go_enter Try.func12, Try.ntmps12
  go_wp2_with fail
  refine (qcheckRules_any r _).mono ?_
  rintro e' w1 ⟨rfl, rfl⟩
  rw [he]
  go_wp2_with fail
  generalize hW0 : ((w.alloc (.cells (ruA r) 37)).alloc (.cells (rnA ⟨ph, be, mi, wa, l0, l1, false, te⟩) 34)).alloc (.cells _ _) = W1 at *
  obtain ⟨hal, hB1, hB2, hB3, hWs⟩ := bx3 w _ _ _ W1 hW0.symm
  have hal' := ba (o := ruQ r) hal
  have hC1 := (heap_alloc_old _ (ruQ r) (blk_lt hB1)).trans hB1
  have hC2 := (heap_alloc_old _ (ruQ r) (blk_lt hB2)).trans hB2
  have hC3 := (heap_alloc_old _ (ruQ r) (blk_lt hB3)).trans hB3
  clear hW0 hal hB1 hB2 hB3 hWs he
  generalize W1.alloc (ruQ r) = W at *
  refine (qRight_any r ⟨ph, be, mi, wa, l0, l1, false, te⟩ _).mono ?_
  rintro e' w1 ⟨rfl, hb⟩
  have D1 := Lib.hid (blk_keep hC1 hb (blk_lt hC1))
  have D2 := Lib.hid (blk_keep hC2 hb (blk_lt hC2))
  have D3 := Lib.hid (blk_keep hC3 hb (blk_lt hC3))
  have HB := Lib.hid (hal'.trans (hb.mono hal'.size))
  clear hC1 hC2 hC3 hb hal'
  obtain ⟨f0, f1, f2, f3, f4, f5, f6, f7⟩ := rnfg (x := rn0) D3.out
  obtain ⟨g0, g1, g2, g3, g4, g5, g6, g7⟩ := rn8g (x := rn0) D3.out
  rw [hr]
  obtain ⟨m0, m1, m2, m3, m4, m5, m6, m7, m8, m9, m10, m11, m12⟩ := ru13g D1.out
  obtain ⟨k0, k1, k2, k3, k4, k5, k6, k7⟩ := rn8g D2.out
  obtain ⟨q0, q1, q2, q3, q4, q5, q6, q7⟩ := rnfg D2.out
  go_wp2_with fail
  obtain ⟨h0, h1, h2, h3, h4, h5, h6, h7⟩ := rn8g (x := rn0) (set8 (u0 := .int .i64 0) (u1 := .int .i64 0) (u2 := .int .i64 0) (u3 := .int .i64 0) (u4 := .bool false) (u5 := .bool false) (u6 := .bool false) (u7 := .bool false) D3.out)
  refine bodyPost_ret (v := .tuple #[rnV rn0, .int .i64 51]) (by simp [results, Try.results12, go_sem, h0, h1, h2, h3, h4, h5, h6, h7]) rfl ⟨rfl, ?_⟩
  exact below_set8 HB.out (by omega)
set_option maxRecDepth 100000 in
set_option maxHeartbeats 2000000 in
theorem qNext_7n (r : Ru) (ph be mi wa : Int) (l0 l1 l2 te : Bool) (h : rulesOk r = true) (hr : right r ⟨ph, be, mi, wa, l0, l1, true, te⟩ = true) (t4 : decide (ph > 4) = false) (hn : ¬ ph = 4) (w : World) : Calls Try.prog 12 #[ruV r, rnV ⟨ph, be, mi, wa, l0, l1, true, te⟩, .int .i64 7] w (RetNE (⟨ph, be, mi, wa, l0, l1, false, te⟩, 0) w) := by
  have t5 : (ph == 4) = false := by simp [hn]
  clear hn
  have he : errRules r = 0 := by unfold errRules; rw [h]; rfl
  go_enter Try.func12, Try.ntmps12
  go_wp2_with fail
  refine (qcheckRules_any r _).mono ?_
  rintro e' w1 ⟨rfl, rfl⟩
  rw [he]
  go_wp2_with fail
  generalize hW0 : ((w.alloc (.cells (ruA r) 37)).alloc (.cells (rnA ⟨ph, be, mi, wa, l0, l1, true, te⟩) 34)).alloc (.cells _ _) = W1 at *
  obtain ⟨hal, hB1, hB2, hB3, hWs⟩ := bx3 w _ _ _ W1 hW0.symm
  have hal' := ba (o := ruQ r) hal
  have hC1 := (heap_alloc_old _ (ruQ r) (blk_lt hB1)).trans hB1
  have hC2 := (heap_alloc_old _ (ruQ r) (blk_lt hB2)).trans hB2
  have hC3 := (heap_alloc_old _ (ruQ r) (blk_lt hB3)).trans hB3
  clear hW0 hal hB1 hB2 hB3 hWs he
  generalize W1.alloc (ruQ r) = W at *
  refine (qRight_any r ⟨ph, be, mi, wa, l0, l1, true, te⟩ _).mono ?_
  rintro e' w1 ⟨rfl, hb⟩
  have D1 := Lib.hid (blk_keep hC1 hb (blk_lt hC1))
  have D2 := Lib.hid (blk_keep hC2 hb (blk_lt hC2))
  have D3 := Lib.hid (blk_keep hC3 hb (blk_lt hC3))
  have HB := Lib.hid (hal'.trans (hb.mono hal'.size))
  clear hC1 hC2 hC3 hb hal'
  obtain ⟨f0, f1, f2, f3, f4, f5, f6, f7⟩ := rnfg (x := rn0) D3.out
  obtain ⟨g0, g1, g2, g3, g4, g5, g6, g7⟩ := rn8g (x := rn0) D3.out
  rw [hr]
  obtain ⟨m0, m1, m2, m3, m4, m5, m6, m7, m8, m9, m10, m11, m12⟩ := ru13g D1.out
  obtain ⟨k0, k1, k2, k3, k4, k5, k6, k7⟩ := rn8g D2.out
  obtain ⟨q0, q1, q2, q3, q4, q5, q6, q7⟩ := rnfg D2.out
  have S1 := Lib.hid (oth1 (j := 6) (u := .bool false) D1.out (show w.heap.size ≠ w.heap.size + 1 by omega))
  have S2 := Lib.hid (set_l2 false D2.out)
  have DD3 := Lib.hid (oth1 (j := 6) (u := .bool false) D3.out (show w.heap.size + 1 + 1 ≠ w.heap.size + 1 by omega))
  have HBB := Lib.hid (below_one (B := w.heap.size + 1) (j := 6) (u := .bool false) HB.out (by omega))
  obtain ⟨m0', m1', m2', m3', m4', m5', m6', m7', m8', m9', m10', m11', m12'⟩ := ru13g S1.out
  obtain ⟨k0', k1', k2', k3', k4', k5', k6', k7'⟩ := rn8g S2.out
  obtain ⟨q0', q1', q2', q3', q4', q5', q6', q7'⟩ := rnfg S2.out
  obtain ⟨f0', f1', f2', f3', f4', f5', f6', f7'⟩ := rnfg (x := rn0) DD3.out
  obtain ⟨g0', g1', g2', g3', g4', g5', g6', g7'⟩ := rn8g (x := rn0) DD3.out
  go_wp2_with fail
  obtain ⟨h0, h1, h2, h3, h4, h5, h6, h7⟩ := rn8g (x := ⟨ph, be, mi, wa, l0, l1, false, te⟩) (set8 (u0 := .int .i64 (⟨ph, be, mi, wa, l0, l1, false, te⟩ : Rn).ph) (u1 := .int .i64 (⟨ph, be, mi, wa, l0, l1, false, te⟩ : Rn).be) (u2 := .int .i64 (⟨ph, be, mi, wa, l0, l1, false, te⟩ : Rn).mi) (u3 := .int .i64 (⟨ph, be, mi, wa, l0, l1, false, te⟩ : Rn).wa) (u4 := .bool (⟨ph, be, mi, wa, l0, l1, false, te⟩ : Rn).l0) (u5 := .bool (⟨ph, be, mi, wa, l0, l1, false, te⟩ : Rn).l1) (u6 := .bool (⟨ph, be, mi, wa, l0, l1, false, te⟩ : Rn).l2) (u7 := .bool (⟨ph, be, mi, wa, l0, l1, false, te⟩ : Rn).te) DD3.out)
  refine bodyPost_ret (v := .tuple #[rnV ⟨ph, be, mi, wa, l0, l1, false, te⟩, .int .i64 0]) (by simp [results, Try.results12, go_sem, h0, h1, h2, h3, h4, h5, h6, h7]) rfl ⟨rfl, ?_⟩
  exact below_set8 HBB.out (by omega)
set_option maxRecDepth 100000 in
set_option maxHeartbeats 2000000 in
theorem qNext_7h (r : Ru) (be mi wa : Int) (l0 l1 l2 te : Bool) (h : rulesOk r = true) (hr : right r ⟨4, be, mi, wa, l0, l1, true, te⟩ = true) (hp : 1 ≤ be ∧ be ≤ 3) (hh : heldAt r ⟨4, be, mi, wa, l0, l1, false, te⟩ be = true) (w : World) : Calls Try.prog 12 #[ruV r, rnV ⟨4, be, mi, wa, l0, l1, true, te⟩, .int .i64 7] w (RetNE (⟨4, be, mi, wa, l0, l1, false, te⟩, 0) w) := by
  have HP := Lib.hid hp
  have HH := Lib.hid hh
  clear hp hh
  have he : errRules r = 0 := by unfold errRules; rw [h]; rfl
  go_enter Try.func12, Try.ntmps12
  go_wp2_with fail
  refine (qcheckRules_any r _).mono ?_
  rintro e' w1 ⟨rfl, rfl⟩
  rw [he]
  go_wp2_with fail
  generalize hW0 : ((w.alloc (.cells (ruA r) 37)).alloc (.cells (rnA ⟨4, be, mi, wa, l0, l1, true, te⟩) 34)).alloc (.cells _ _) = W1 at *
  obtain ⟨hal, hB1, hB2, hB3, hWs⟩ := bx3 w _ _ _ W1 hW0.symm
  have hal' := ba (o := ruQ r) hal
  have hC1 := (heap_alloc_old _ (ruQ r) (blk_lt hB1)).trans hB1
  have hC2 := (heap_alloc_old _ (ruQ r) (blk_lt hB2)).trans hB2
  have hC3 := (heap_alloc_old _ (ruQ r) (blk_lt hB3)).trans hB3
  clear hW0 hal hB1 hB2 hB3 hWs he
  generalize W1.alloc (ruQ r) = W at *
  refine (qRight_any r ⟨4, be, mi, wa, l0, l1, true, te⟩ _).mono ?_
  rintro e' w1 ⟨rfl, hb⟩
  have D1 := Lib.hid (blk_keep hC1 hb (blk_lt hC1))
  have D2 := Lib.hid (blk_keep hC2 hb (blk_lt hC2))
  have D3 := Lib.hid (blk_keep hC3 hb (blk_lt hC3))
  have HB := Lib.hid (hal'.trans (hb.mono hal'.size))
  clear hC1 hC2 hC3 hb hal'
  obtain ⟨f0, f1, f2, f3, f4, f5, f6, f7⟩ := rnfg (x := rn0) D3.out
  obtain ⟨g0, g1, g2, g3, g4, g5, g6, g7⟩ := rn8g (x := rn0) D3.out
  rw [hr]
  obtain ⟨m0, m1, m2, m3, m4, m5, m6, m7, m8, m9, m10, m11, m12⟩ := ru13g D1.out
  obtain ⟨k0, k1, k2, k3, k4, k5, k6, k7⟩ := rn8g D2.out
  obtain ⟨q0, q1, q2, q3, q4, q5, q6, q7⟩ := rnfg D2.out
  have S1 := Lib.hid (oth1 (j := 6) (u := .bool false) D1.out (show w.heap.size ≠ w.heap.size + 1 by omega))
  have S2 := Lib.hid (set_l2 false D2.out)
  have DD3 := Lib.hid (oth1 (j := 6) (u := .bool false) D3.out (show w.heap.size + 1 + 1 ≠ w.heap.size + 1 by omega))
  have HBB := Lib.hid (below_one (B := w.heap.size + 1) (j := 6) (u := .bool false) HB.out (by omega))
  obtain ⟨m0', m1', m2', m3', m4', m5', m6', m7', m8', m9', m10', m11', m12'⟩ := ru13g S1.out
  obtain ⟨k0', k1', k2', k3', k4', k5', k6', k7'⟩ := rn8g S2.out
  obtain ⟨q0', q1', q2', q3', q4', q5', q6', q7'⟩ := rnfg S2.out
  go_wp2_with fail
  refine (waits_any r ⟨4, be, mi, wa, l0, l1, false, te⟩ be HP.out _).mono ?_
  rintro e' w2 ⟨rfl, rfl⟩
  rw [HH.out]
  have F3 := Lib.hid ((heap_alloc_old _ (rnQ ⟨4, be, mi, wa, l0, l1, false, te⟩) (blk_lt ((heap_alloc_old _ (ruQ r) (blk_lt DD3.out)).trans DD3.out))).trans ((heap_alloc_old _ (ruQ r) (blk_lt DD3.out)).trans DD3.out))
  have F2 := Lib.hid ((heap_alloc_old _ (rnQ ⟨4, be, mi, wa, l0, l1, false, te⟩) (blk_lt ((heap_alloc_old _ (ruQ r) (blk_lt S2.out)).trans S2.out))).trans ((heap_alloc_old _ (ruQ r) (blk_lt S2.out)).trans S2.out))
  have FB := Lib.hid (ba (o := rnQ ⟨4, be, mi, wa, l0, l1, false, te⟩) (ba (o := ruQ r) HBB.out))
  clear m0 m1 m2 m3 m4 m5 m6 m7 m8 m9 m10 m11 m12 k0 k1 k2 k3 k4 k5 k6 k7 q0 q1 q2 q3 q4 q5 q6 q7 f0 f1 f2 f3 f4 f5 f6 f7 g0 g1 g2 g3 g4 g5 g6 g7
  clear m0' m1' m2' m3' m4' m5' m6' m7' m8' m9' m10' m11' m12' k0' k1' k2' k3' k4' k5' k6' k7' q0' q1' q2' q3' q4' q5' q6' q7'
  obtain ⟨k0, k1, k2, k3, k4, k5, k6, k7⟩ := rn8g F2.out
  obtain ⟨q0, q1, q2, q3, q4, q5, q6, q7⟩ := rnfg F2.out
  obtain ⟨f0, f1, f2, f3, f4, f5, f6, f7⟩ := rnfg (x := rn0) F3.out
  obtain ⟨g0, g1, g2, g3, g4, g5, g6, g7⟩ := rn8g (x := rn0) F3.out
  go_wp2_with fail
  obtain ⟨h0, h1, h2, h3, h4, h5, h6, h7⟩ := rn8g (x := ⟨4, be, mi, wa, l0, l1, false, te⟩) (set8 (u0 := .int .i64 (⟨4, be, mi, wa, l0, l1, false, te⟩ : Rn).ph) (u1 := .int .i64 (⟨4, be, mi, wa, l0, l1, false, te⟩ : Rn).be) (u2 := .int .i64 (⟨4, be, mi, wa, l0, l1, false, te⟩ : Rn).mi) (u3 := .int .i64 (⟨4, be, mi, wa, l0, l1, false, te⟩ : Rn).wa) (u4 := .bool (⟨4, be, mi, wa, l0, l1, false, te⟩ : Rn).l0) (u5 := .bool (⟨4, be, mi, wa, l0, l1, false, te⟩ : Rn).l1) (u6 := .bool (⟨4, be, mi, wa, l0, l1, false, te⟩ : Rn).l2) (u7 := .bool (⟨4, be, mi, wa, l0, l1, false, te⟩ : Rn).te) F3.out)
  refine bodyPost_ret (v := .tuple #[rnV ⟨4, be, mi, wa, l0, l1, false, te⟩, .int .i64 0]) (by simp [results, Try.results12, go_sem, h0, h1, h2, h3, h4, h5, h6, h7]) rfl ⟨rfl, ?_⟩
  exact below_set8 FB.out (by omega)
set_option maxRecDepth 100000 in
set_option maxHeartbeats 2000000 in
theorem qNext_7u (r : Ru) (be mi wa : Int) (l0 l1 l2 te : Bool) (h : rulesOk r = true) (hr : right r ⟨4, be, mi, wa, l0, l1, true, te⟩ = true) (hp : 1 ≤ be ∧ be ≤ 3) (hh : heldAt r ⟨4, be, mi, wa, l0, l1, false, te⟩ be = false) (w : World) : Calls Try.prog 12 #[ruV r, rnV ⟨4, be, mi, wa, l0, l1, true, te⟩, .int .i64 7] w (RetNE (⟨be, 0, mi, 0, l0, l1, false, te⟩, 0) w) := by
  have HP := Lib.hid hp
  have HH := Lib.hid hh
  clear hp hh
  have he : errRules r = 0 := by unfold errRules; rw [h]; rfl
  go_enter Try.func12, Try.ntmps12
  go_wp2_with fail
  refine (qcheckRules_any r _).mono ?_
  rintro e' w1 ⟨rfl, rfl⟩
  rw [he]
  go_wp2_with fail
  generalize hW0 : ((w.alloc (.cells (ruA r) 37)).alloc (.cells (rnA ⟨4, be, mi, wa, l0, l1, true, te⟩) 34)).alloc (.cells _ _) = W1 at *
  obtain ⟨hal, hB1, hB2, hB3, hWs⟩ := bx3 w _ _ _ W1 hW0.symm
  have hal' := ba (o := ruQ r) hal
  have hC1 := (heap_alloc_old _ (ruQ r) (blk_lt hB1)).trans hB1
  have hC2 := (heap_alloc_old _ (ruQ r) (blk_lt hB2)).trans hB2
  have hC3 := (heap_alloc_old _ (ruQ r) (blk_lt hB3)).trans hB3
  clear hW0 hal hB1 hB2 hB3 hWs he
  generalize W1.alloc (ruQ r) = W at *
  refine (qRight_any r ⟨4, be, mi, wa, l0, l1, true, te⟩ _).mono ?_
  rintro e' w1 ⟨rfl, hb⟩
  have D1 := Lib.hid (blk_keep hC1 hb (blk_lt hC1))
  have D2 := Lib.hid (blk_keep hC2 hb (blk_lt hC2))
  have D3 := Lib.hid (blk_keep hC3 hb (blk_lt hC3))
  have HB := Lib.hid (hal'.trans (hb.mono hal'.size))
  clear hC1 hC2 hC3 hb hal'
  obtain ⟨f0, f1, f2, f3, f4, f5, f6, f7⟩ := rnfg (x := rn0) D3.out
  obtain ⟨g0, g1, g2, g3, g4, g5, g6, g7⟩ := rn8g (x := rn0) D3.out
  rw [hr]
  obtain ⟨m0, m1, m2, m3, m4, m5, m6, m7, m8, m9, m10, m11, m12⟩ := ru13g D1.out
  obtain ⟨k0, k1, k2, k3, k4, k5, k6, k7⟩ := rn8g D2.out
  obtain ⟨q0, q1, q2, q3, q4, q5, q6, q7⟩ := rnfg D2.out
  have S1 := Lib.hid (oth1 (j := 6) (u := .bool false) D1.out (show w.heap.size ≠ w.heap.size + 1 by omega))
  have S2 := Lib.hid (set_l2 false D2.out)
  have DD3 := Lib.hid (oth1 (j := 6) (u := .bool false) D3.out (show w.heap.size + 1 + 1 ≠ w.heap.size + 1 by omega))
  have HBB := Lib.hid (below_one (B := w.heap.size + 1) (j := 6) (u := .bool false) HB.out (by omega))
  obtain ⟨m0', m1', m2', m3', m4', m5', m6', m7', m8', m9', m10', m11', m12'⟩ := ru13g S1.out
  obtain ⟨k0', k1', k2', k3', k4', k5', k6', k7'⟩ := rn8g S2.out
  obtain ⟨q0', q1', q2', q3', q4', q5', q6', q7'⟩ := rnfg S2.out
  go_wp2_with fail
  refine (waits_any r ⟨4, be, mi, wa, l0, l1, false, te⟩ be HP.out _).mono ?_
  rintro e' w2 ⟨rfl, rfl⟩
  rw [HH.out]
  have F3 := Lib.hid ((heap_alloc_old _ (rnQ ⟨4, be, mi, wa, l0, l1, false, te⟩) (blk_lt ((heap_alloc_old _ (ruQ r) (blk_lt DD3.out)).trans DD3.out))).trans ((heap_alloc_old _ (ruQ r) (blk_lt DD3.out)).trans DD3.out))
  have F2 := Lib.hid ((heap_alloc_old _ (rnQ ⟨4, be, mi, wa, l0, l1, false, te⟩) (blk_lt ((heap_alloc_old _ (ruQ r) (blk_lt S2.out)).trans S2.out))).trans ((heap_alloc_old _ (ruQ r) (blk_lt S2.out)).trans S2.out))
  have FB := Lib.hid (ba (o := rnQ ⟨4, be, mi, wa, l0, l1, false, te⟩) (ba (o := ruQ r) HBB.out))
  clear m0 m1 m2 m3 m4 m5 m6 m7 m8 m9 m10 m11 m12 k0 k1 k2 k3 k4 k5 k6 k7 q0 q1 q2 q3 q4 q5 q6 q7 f0 f1 f2 f3 f4 f5 f6 f7 g0 g1 g2 g3 g4 g5 g6 g7
  clear m0' m1' m2' m3' m4' m5' m6' m7' m8' m9' m10' m11' m12' k0' k1' k2' k3' k4' k5' k6' k7' q0' q1' q2' q3' q4' q5' q6' q7'
  obtain ⟨k0, k1, k2, k3, k4, k5, k6, k7⟩ := rn8g F2.out
  obtain ⟨q0, q1, q2, q3, q4, q5, q6, q7⟩ := rnfg F2.out
  obtain ⟨f0, f1, f2, f3, f4, f5, f6, f7⟩ := rnfg (x := rn0) F3.out
  obtain ⟨g0, g1, g2, g3, g4, g5, g6, g7⟩ := rn8g (x := rn0) F3.out
  generalize hV0 : (((w1.setCell ⟨w.heap.size + 1, 6, none⟩ (.bool false)).alloc (.cells (ruA r) 37)).alloc (.cells (rnA ⟨4, be, mi, wa, l0, l1, false, te⟩) 34)) = V at *
  have Q2 := Lib.hid (blk_set (blk_set (blk_set F2.out 0 (.int .i64 be)) 1 (.int .i64 0)) 3 (.int .i64 0))
  have Q3 := Lib.hid (oth1 (j := 3) (u := .int .i64 0) (oth1 (j := 1) (u := .int .i64 0) (oth1 (j := 0) (u := .int .i64 be) F3.out (show w.heap.size + 1 + 1 ≠ w.heap.size + 1 by omega)) (show w.heap.size + 1 + 1 ≠ w.heap.size + 1 by omega)) (show w.heap.size + 1 + 1 ≠ w.heap.size + 1 by omega))
  have QB := Lib.hid (below_one (B := w.heap.size + 1) (j := 3) (u := .int .i64 0) (below_one (B := w.heap.size + 1) (j := 1) (u := .int .i64 0) (below_one (B := w.heap.size + 1) (j := 0) (u := .int .i64 be) FB.out (by omega)) (by omega)) (by omega))
  obtain ⟨f0', f1', f2', f3', f4', f5', f6', f7'⟩ := rnfg (x := rn0) Q3.out
  obtain ⟨g0', g1', g2', g3', g4', g5', g6', g7'⟩ := rn8g (x := rn0) Q3.out
  obtain ⟨k0', k1', k2', k3', k4', k5', k6', k7'⟩ := rn8g (x := ⟨be, 0, mi, 0, l0, l1, false, te⟩) Q2.out
  go_wp2_with fail
  obtain ⟨h0, h1, h2, h3, h4, h5, h6, h7⟩ := rn8g (x := ⟨be, 0, mi, 0, l0, l1, false, te⟩) (set8 (u0 := .int .i64 (⟨be, 0, mi, 0, l0, l1, false, te⟩ : Rn).ph) (u1 := .int .i64 (⟨be, 0, mi, 0, l0, l1, false, te⟩ : Rn).be) (u2 := .int .i64 (⟨be, 0, mi, 0, l0, l1, false, te⟩ : Rn).mi) (u3 := .int .i64 (⟨be, 0, mi, 0, l0, l1, false, te⟩ : Rn).wa) (u4 := .bool (⟨be, 0, mi, 0, l0, l1, false, te⟩ : Rn).l0) (u5 := .bool (⟨be, 0, mi, 0, l0, l1, false, te⟩ : Rn).l1) (u6 := .bool (⟨be, 0, mi, 0, l0, l1, false, te⟩ : Rn).l2) (u7 := .bool (⟨be, 0, mi, 0, l0, l1, false, te⟩ : Rn).te) Q3.out)
  refine bodyPost_ret (v := .tuple #[rnV ⟨be, 0, mi, 0, l0, l1, false, te⟩, .int .i64 0]) (by simp [results, Try.results12, go_sem, h0, h1, h2, h3, h4, h5, h6, h7]) rfl ⟨rfl, ?_⟩
  exact below_set8 QB.out (by omega)
end Go.Proofs.Ytmfochplnchgcaa
