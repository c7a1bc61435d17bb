/- Part e of the lemmas and walks. -/
import Derived.Test.YthhnkobkdhjfgaaGreatEd

namespace Go.Proofs.YthhnkobkdhjfgaaGreat
open Go.RowKit

theorem IsRat.neg3 {w : World} {x : R3} {q : Rat} (h : IsRat w x.val q) : x.b = decide (q.num < 0) := by
 obtain ⟨vn, vd, hxe, _, _⟩ := h
 injection hxe with hxe
 simp only [Array.mk.injEq, List.cons.injEq] at hxe
 have := hxe.1
 injection this
theorem down_any (q : Rat) (k : Nat) (hk : k ≤ 256) (z : Int) (hz : min (max z 0) 256 = (k : Int)) (v : Value) (w : World) (h : IsRat w v q) (hs : szR q 68719476736) : Calls Tryz.prog 93 #[v, .int .i64 z] w (RetRat (downQ q k) w) := by
 obtain ⟨x, rfl⟩ := h.open3
 have hb := h.neg3
 obtain ⟨b, xa, xn, xc, xd, xm, xe⟩ := x
 cases b with
 | false =>
  have hn : decide (q.num < 0) = false := hb.symm
  refine down_f q k hk z hz xa xn xc xd xm xe w h hs _ ?_
  unfold downQ downN
  rw [hn, if_neg (fun h => by rw [decide_eq_false_iff_not] at hn; exact hn h.1)]
 | true =>
  have hn : decide (q.num < 0) = true := hb.symm
  by_cases hr : q.num.natAbs * 2 ^ k % q.den = 0
  ·
   refine down_z q k hk z hz xa xn xc xd xm xe w h hs hr _ ?_
   unfold downQ downN
   rw [hn, if_neg (fun h => h.2 hr)]
  ·
   have hl : 0 < (dig b64 (q.num.natAbs * 2 ^ k % q.den)).length := by
    rcases Nat.eq_zero_or_pos (dig b64 (q.num.natAbs * 2 ^ k % q.den)).length with h0 | h0
    ·
     exfalso
     have e := List.eq_nil_of_length_eq_zero h0
     have := lv_dig b64_two (q.num.natAbs * 2 ^ k % q.den)
     rw [e] at this
     exact hr this.symm
    ·
     exact h0
   refine down_1 q k hk z hz xa xn xc xd xm xe w h hs hl _ ?_
   unfold downQ downN
   rw [hn, if_pos ⟨of_decide_eq_true hn, hr⟩]
set_option maxRecDepth 100000 in
set_option maxHeartbeats 2000000 in
theorem up_any (q : Rat) (k : Nat) (hk : k ≤ 256) (z : Int) (hz : min (max z 0) 256 = (k : Int)) (v : Value) (w : World) (h : IsRat w v q) (hs : szR (-q) 68719476736) : Calls Tryz.prog 94 #[v, .int .i64 z] w (RetRat (upQ q k) w) := by
 obtain ⟨x, rfl⟩ := h.open3
 have HX := Lib.hid h
 have HS := Lib.hid hs
 have HK := Lib.hid hk
 have HZK := Lib.hid hz
 clear hz
 clear h hs hk
 go_enter Tryz.func94, Tryz.ntmps94
 go_wp2_with fail
 generalize hW0 : (w.alloc (.cells x.arr 42)).alloc (.cells _ _) = W at *
 obtain ⟨hal, hB1, hB2⟩ := boxesD w _ _ _ W hW0.symm
 have HB2 := Lib.hid hB2
 have HAL := Lib.hid hal
 clear hW0 hal hB1 hB2
 refine (negRat_any q _ _ (HX.out.below HAL.out)).mono ?_
 rintro e wA ⟨vA, rfl, hvA, hbA⟩
 have EA := Lib.hid (blk_keep HB2.out hbA (blk_lt HB2.out))
 have BA := Lib.hid (bt HAL.out hbA)
 go_wp2_with fail
 refine (down_any (-q) k HK.out z HZK.out _ _ hvA HS.out).mono ?_
 rintro e wB ⟨vB, rfl, hvB, hbB⟩
 have EB := Lib.hid (blk_keep EA.out hbB (blk_lt EA.out))
 have BB := Lib.hid (bt BA.out hbB)
 go_wp2_with fail
 refine (negRat_any (downQ (-q) k) _ _ hvB).mono ?_
 rintro e wC ⟨vC, rfl, hvC, hbC⟩
 have E : Hid (wC.heap[w.heap.size + 1]? = some (.cells r30.arr 42 (0, 0))) := blk_keep EB.out hbC (blk_lt EB.out)
 have BC := Lib.hid (bt BB.out hbC)
 obtain ⟨z, rfl⟩ := hvC.open3
 have HV : Hid (IsRat wC z.val (upQ q k)) := hvC
 clear hvA hvB hvC hbA hbB hbC
 obtain ⟨g0, g1, g2, f0, f1, f2⟩ := fac3 (x := r30) E.out
 go_wp2_with fail
 obtain ⟨h0, h1, h2, _, _, _⟩ := fac3 (x := z) (set3r (x := z) E.out)
 refine bodyPost_ret (v := z.val) (by simp [results, Tryz.results94, go_sem, h0, h1, h2]) rfl ⟨_, rfl, IsRat.set3r HV.out E.out, below3r BC.out (by omega)⟩
theorem boxesR (w : World) (x y : R3) (cs : Array Value) (T : Nat) (W : World) (hW : W = (w.alloc (.cells (arr6 x y) 86)).alloc (.cells cs T)) :
  Below w.heap.size w W ∧ W.heap[w.heap.size]? = some (.cells (arr6 x y) 86 (0, 0)) ∧ W.heap[w.heap.size + 1]? = some (.cells cs T (0, 0)) := by
 subst hW
 have e1 : (w.alloc (.cells (arr6 x y) 86)).heap.size = w.heap.size + 1 := World.size_alloc ..
 have a1 := blk_new w (arr6 x y) 86
 have a2 := blk_new (w.alloc (.cells (arr6 x y) 86)) cs T
 rw [e1] at a2
 exact ⟨below2 _ _ _, (heap_alloc_old _ _ (blk_lt a1)).trans a1, a2⟩
set_option maxRecDepth 100000 in
set_option maxHeartbeats 2000000 in
theorem rround_any (lo hi : Rat) (k : Nat) (hk : k ≤ 256) (z : Int) (hz : min (max z 0) 256 = (k : Int)) (v : Value) (w : World) (h : IsRng w v lo hi) (s1 : szR lo 68719476736) (s2 : szR (-hi) 68719476736) : Calls Tryz.prog 41 #[v, .int .i64 z] w (RetRng (downQ lo k) (upQ hi k) w) := by
 obtain ⟨x, y, rfl, h1, h2⟩ := h
 have HX := Lib.hid h1
 have HY := Lib.hid h2
 have S1 := Lib.hid s1
 have S2 := Lib.hid s2
 have HK := Lib.hid hk
 have HZK := Lib.hid hz
 clear hz
 clear h1 h2 s1 s2 hk
 go_enter Tryz.func41, Tryz.ntmps41
 go_wp2_with fail
 generalize hW0 : (w.alloc (.cells (arr6 x y) 86)).alloc (.cells _ _) = W at *
 obtain ⟨hal, hB1, hB2⟩ := boxesR w _ _ _ _ W hW0.symm
 obtain ⟨x0, x1, x2, y0, y1, y2, _, _, _, _, _, _⟩ := fac6 (x := x) (y := y) hB1
 have HB2 := Lib.hid hB2
 have HAD := Lib.hid hal.drew
 have N3 : Hid (w.heap.size + 1 ≤ W.heap.size) := by
  show _ ≤ _
  have := blk_lt hB2
  omega
 have N0 : Hid (w.heap.size < w.heap.size + 1) := by show _ < _; omega
 clear hW0 hal hB1 hB2
 refine wp_region_held_drew (S := (fun w' => Below (w.heap.size + 1) W w' ∧ w'.cell? ⟨w.heap.size, 0, none⟩ = some (.bool x.b) ∧ w'.cell? ⟨w.heap.size, 1, none⟩ = some (.slice x.a x.n x.c) ∧ w'.cell? ⟨w.heap.size, 2, none⟩ = some (.slice x.d x.m x.e) ∧ w'.cell? ⟨w.heap.size, 3, none⟩ = some (.bool y.b) ∧ w'.cell? ⟨w.heap.size, 4, none⟩ = some (.slice y.a y.n y.c) ∧ w'.cell? ⟨w.heap.size, 5, none⟩ = some (.slice y.d y.m y.e))) (by kernel_rfl) ⟨(Below.refl _ _).drew, x0, x1, x2, y0, y1, y2⟩ (fun hh => ?_)
 clear x0 x1 x2 y0 y1 y2
 refine tk0 (i := 0) (v := ?vp0) rfl (Or.inl ⟨by rfl, ?hyp0⟩) (by assumption) ?rep0
 case hyp0 => intro w hSw; (try dsimp only at hSw); (go_simp <;> with_reducible rfl)
 try simp only [na1, na2, na3, Act.put, na4, na5, na6]
 refine tk0 (i := 1) (v := ?vp1) rfl (Or.inl ⟨by rfl, ?hyp1⟩) (by assumption) ?rep1
 case hyp1 => intro w hSw; (try dsimp only at hSw); (go_simp <;> with_reducible rfl)
 try simp only [na1, na2, na3, Act.put, na4, na5, na6]
 refine tk0 (i := 2) (v := ?vp2) rfl (Or.inl ⟨by rfl, ?hyp2⟩) (by assumption) ?rep2
 case hyp2 => intro w hSw; (try dsimp only at hSw); (go_simp <;> with_reducible rfl)
 try simp only [na1, na2, na3, Act.put, na4, na5, na6]
 refine tk0 (i := 4) (v := ?vp4) rfl (Or.inl ⟨by rfl, ?hyp4⟩) (by assumption) ?rep4
 case hyp4 => intro w hSw; (try dsimp only at hSw); (go_simp <;> with_reducible rfl)
 try simp only [na1, na2, na3, Act.put, na4, na5, na6]
 refine tk0 (i := 5) (v := ?vp5) rfl (Or.inl ⟨by rfl, ?hyp5⟩) (by assumption) ?rep5
 case hyp5 => intro w hSw; (try dsimp only at hSw); (go_simp <;> with_reducible rfl)
 try simp only [na1, na2, na3, Act.put, na4, na5, na6]
 refine tk0 (i := 6) (v := ?vp6) rfl (Or.inl ⟨by rfl, ?hyp6⟩) (by assumption) ?rep6
 case hyp6 => intro w hSw; (try dsimp only at hSw); (go_simp <;> with_reducible rfl)
 try simp only [na1, na2, na3, Act.put, na4, na5, na6]
 refine rd1 (i := 3) rfl (fun K hK => ?_)
 go_simp
 go_wp2_with (go_at_call 93; (with_reducible refine (down_any lo k HK.out z HZK.out _ _ (HX.out.below HAD.out) S1.out).mono ?_); rintro e wA ⟨vA, rfl, hvA, hbA⟩)
 refine hK.out _ _ (kd6 N3.out hbA hh) (fun hh => ?_)
 clear hK K
 try simp only [na1, na2, na3, Act.put, na4, na5, na6]
 have BA := Lib.hid (bt HAD.out hbA)
 refine rd1 (i := 7) rfl (fun K hK => ?_)
 go_simp
 go_wp2_with (go_at_call 94; (with_reducible refine (up_any hi k HK.out z HZK.out _ _ (HY.out.below BA.out) S2.out).mono ?_); rintro e wB ⟨vB, rfl, hvB, hbB⟩; obtain ⟨za, rfl⟩ := hvA.open3; obtain ⟨zb, rfl⟩ := hvB.open3)
 refine hK.out _ _ (kd6 N3.out hbB hh) (fun hh => ?_)
 clear hK K
 try simp only [na1, na2, na3, Act.put, na4, na5, na6]
 have BB := Lib.hid (bt BA.out hbB)
 refine tk0 (i := 8) (v := ?vp8) rfl (Or.inl ⟨by rfl, ?hyp8⟩) (by assumption) ?rep8
 case hyp8 => intro w hSw; (try dsimp only at hSw); (go_simp <;> with_reducible rfl)
 try simp only [na1, na2, na3, Act.put, na4, na5, na6]
 have e0 : W.drew.heap[w.heap.size + 1]? = _ := HB2.out
 have eA := blk_keep e0 hbA (blk_lt e0)
 have E : Hid (wB.heap[w.heap.size + 1]? = some (.cells (arr6 r30 r30) 86 (0, 0))) := blk_keep eA hbB (blk_lt eA)
 have HV1 := Lib.hid (hvA.below hbB)
 have HV2 := Lib.hid hvB
 obtain ⟨g0, g1, g2, g3, g4, g5, f0, f1, f2, f3, f4, f5⟩ := fac6 (x := r30) (y := r30) E.out
 clear e0 eA hvA hvB hbA hbB
 refine rd1 (i := 9) rfl (fun K hK => ?_)
 go_simp
 refine hK.out _ _ (ks6 (Nat.le_refl _) N0.out N0.out N0.out N0.out N0.out N0.out (below6r (Below.refl _ _) (Nat.le_refl _)) hh) (fun hh => ?_)
 clear hK K
 try simp only [na1, na2, na3, Act.put, na4, na5, na6]
 refine wpAnyH_done (by kernel_rfl) ?_ _
 obtain ⟨h0, h1, h2, h3, h4, h5, _, _, _, _, _, _⟩ := fac6 (x := za) (y := zb) (set6r (x := za) (y := zb) E.out)
 go_wp2_with fail
 refine bodyPost_ret (v := rngV za zb) (by simp [results, Tryz.results41, go_sem, h0, h1, h2, h3, h4, h5]) rfl ⟨_, rfl, ⟨za, zb, rfl, IsRat.set6r HV1.out E.out, IsRat.set6r HV2.out E.out⟩, below6r BB.out (by omega)⟩
theorem boxesS (w : World) (x y x2 y2 : R3) (cs : Array Value) (T : Nat) (W : World) (hW : W = ((w.alloc (.cells (arr6 x y) 86)).alloc (.cells (arr6 x2 y2) 86)).alloc (.cells cs T)) :
  Below w.heap.size w W ∧ W.heap[w.heap.size]? = some (.cells (arr6 x y) 86 (0, 0)) ∧ W.heap[w.heap.size + 1]? = some (.cells (arr6 x2 y2) 86 (0, 0)) ∧ W.heap[w.heap.size + 1 + 1]? = some (.cells cs T (0, 0)) ∧ W.heap.size = w.heap.size + 3 := by
 subst hW
 have e1 : (w.alloc (.cells (arr6 x y) 86)).heap.size = w.heap.size + 1 := World.size_alloc ..
 have e2 : ((w.alloc (.cells (arr6 x y) 86)).alloc (.cells (arr6 x2 y2) 86)).heap.size = w.heap.size + 1 + 1 := by rw [World.size_alloc, e1]
 have a1 := blk_new w (arr6 x y) 86
 have a2 := blk_new (w.alloc (.cells (arr6 x y) 86)) (arr6 x2 y2) 86
 have a3 := blk_new ((w.alloc (.cells (arr6 x y) 86)).alloc (.cells (arr6 x2 y2) 86)) cs T
 rw [e1] at a2
 rw [e2] at a3
 have a1' := (heap_alloc_old _ (.cells (arr6 x2 y2) 86) (blk_lt a1)).trans a1
 exact ⟨ba (below2 _ _ _), (heap_alloc_old _ _ (blk_lt a1')).trans a1', (heap_alloc_old _ _ (blk_lt a2)).trans a2, a3, by rw [World.size_alloc, e2]⟩
set_option maxRecDepth 100000 in
set_option maxHeartbeats 2000000 in
theorem step_any (a0 a1 p0 p1 : Rat) (k : Nat) (hk : k ≤ 256) (z : Int) (hz : min (max z 0) 256 = (k : Int)) (vc vr : Value) (w : World) (hc : IsRng w vc a0 a1) (hr : IsRng w vr p0 p1) (q0 q1 : Rat) (hq0 : a0 + p0 * (1 - a0) = q0) (hq1 : a1 + p1 * (1 - a1) = q1)
  (s1 : szR a0 68719476736) (s2 : szR p0 68719476736) (s3 : szR (1 - a0) 68719476736) (s4 : szR (p0 * (1 - a0)) 68719476736) (s5 : szR a1 68719476736) (s6 : szR p1 68719476736) (s7 : szR (1 - a1) 68719476736) (s8 : szR (p1 * (1 - a1)) 68719476736) (s9 : szR q0 68719476736) (s10 : szR q1 68719476736) (s11 : szR (-q1) 68719476736) (hcm : cmpR q0 q1 ≤ 0) :
  Calls Tryz.prog 97 #[vc, vr, .int .i64 z] w (RetRng (downQ q0 k) (upQ q1 k) w) := by
 obtain ⟨x, y, rfl, h1, h2⟩ := hc
 obtain ⟨x', y', rfl, h3, h4⟩ := hr
 have HX := Lib.hid (show IsRng w (rngV x y) a0 a1 from ⟨x, y, rfl, h1, h2⟩)
 have HY := Lib.hid (show IsRng w (rngV x' y') p0 p1 from ⟨x', y', rfl, h3, h4⟩)
 clear h1 h2 h3 h4
 have S1 := Lib.hid s1
 have S2 := Lib.hid s2
 have S3 := Lib.hid s3
 have S4 := Lib.hid s4
 have S5 := Lib.hid s5
 have S6 := Lib.hid s6
 have S7 := Lib.hid s7
 have S8 := Lib.hid s8
 have S9 := Lib.hid s9
 have S10 := Lib.hid s10
 have S11 := Lib.hid s11
 have HK := Lib.hid hk
 have HZK := Lib.hid hz
 clear hz
 have HCM := Lib.hid hcm
 have HQ0 := Lib.hid hq0
 have HQ1 := Lib.hid hq1
 clear s1 s2 s3 s4 s5 s6 s7 s8 s9 s10 s11 hk hcm hq0 hq1
 have S12 : Hid (szR q0 274877906944) := ⟨Nat.le_trans S9.out.1 (by omega), Nat.le_trans S9.out.2 (by omega)⟩
 have S13 : Hid (szR q1 274877906944) := ⟨Nat.le_trans S10.out.1 (by omega), Nat.le_trans S10.out.2 (by omega)⟩
 go_enter Tryz.func97, Tryz.ntmps97
 go_wp2_with fail
 generalize hW0 : ((w.alloc (.cells (arr6 x y) 86)).alloc (.cells (arr6 x' y') 86)).alloc (.cells _ _) = W at *
 obtain ⟨hal, hB1, hB2, hB3, hWs⟩ := boxesS w _ _ _ _ _ _ W hW0.symm
 obtain ⟨x0, x1, x2, x3, x4, x5, _, _, _, _, _, _⟩ := fac6 (x := x) (y := y) hB1
 obtain ⟨y0, y1, y2, y3, y4, y5, _, _, _, _, _, _⟩ := fac6 (x := x') (y := y') hB2
 have HB3 := Lib.hid hB3
 have HAD := Lib.hid hal.drew
 have N3 : Hid (w.heap.size + 1 + 1 ≤ W.heap.size) := by show _ ≤ _; omega
 have N0 : Hid (w.heap.size < w.heap.size + 1 + 1) := by show _ < _; omega
 have N1 : Hid (w.heap.size + 1 < w.heap.size + 1 + 1) := by show _ < _; omega
 clear hW0 hal hB1 hB2 hB3 hWs
 refine wp_region_held_drew (S := (fun w' => Below (w.heap.size + 1 + 1) W w' ∧ w'.cell? ⟨w.heap.size, 0, none⟩ = some (.bool x.b) ∧ w'.cell? ⟨w.heap.size, 1, none⟩ = some (.slice x.a x.n x.c) ∧ w'.cell? ⟨w.heap.size, 2, none⟩ = some (.slice x.d x.m x.e) ∧ w'.cell? ⟨w.heap.size, 3, none⟩ = some (.bool y.b) ∧ w'.cell? ⟨w.heap.size, 4, none⟩ = some (.slice y.a y.n y.c) ∧ w'.cell? ⟨w.heap.size, 5, none⟩ = some (.slice y.d y.m y.e) ∧ w'.cell? ⟨w.heap.size + 1, 0, none⟩ = some (.bool x'.b) ∧ w'.cell? ⟨w.heap.size + 1, 1, none⟩ = some (.slice x'.a x'.n x'.c) ∧ w'.cell? ⟨w.heap.size + 1, 2, none⟩ = some (.slice x'.d x'.m x'.e) ∧ w'.cell? ⟨w.heap.size + 1, 3, none⟩ = some (.bool y'.b) ∧ w'.cell? ⟨w.heap.size + 1, 4, none⟩ = some (.slice y'.a y'.n y'.c) ∧ w'.cell? ⟨w.heap.size + 1, 5, none⟩ = some (.slice y'.d y'.m y'.e))) (by kernel_rfl) ⟨(Below.refl _ _).drew, x0, x1, x2, x3, x4, x5, y0, y1, y2, y3, y4, y5⟩ (fun hh => ?_)
 clear x0 x1 x2 x3 x4 x5 y0 y1 y2 y3 y4 y5
 refine tk0 (i := 0) (v := ?vp0) rfl (Or.inl ⟨by rfl, ?hyp0⟩) (by assumption) ?rep0
 case hyp0 => intro w hSw; (try dsimp only at hSw); (go_simp <;> with_reducible rfl)
 try simp only [na1, na2, na3, Act.put, na4, na5, na6]
 refine tk0 (i := 1) (v := ?vp1) rfl (Or.inl ⟨by rfl, ?hyp1⟩) (by assumption) ?rep1
 case hyp1 => intro w hSw; (try dsimp only at hSw); (go_simp <;> with_reducible rfl)
 try simp only [na1, na2, na3, Act.put, na4, na5, na6]
 refine tk0 (i := 3) (v := ?vp3) rfl (Or.inl ⟨by rfl, ?hyp3⟩) (by assumption) ?rep3
 case hyp3 => intro w hSw; (try dsimp only at hSw); (go_simp <;> with_reducible rfl)
 try simp only [na1, na2, na3, Act.put, na4, na5, na6]
 refine tk0 (i := 6) (v := ?vp6) rfl (Or.inl ⟨by rfl, ?hyp6⟩) (by assumption) ?rep6
 case hyp6 => intro w hSw; (try dsimp only at hSw); (go_simp <;> with_reducible rfl)
 try simp only [na1, na2, na3, Act.put, na4, na5, na6]
 refine tk0 (i := 7) (v := ?vp7) rfl (Or.inl ⟨by rfl, ?hyp7⟩) (by assumption) ?rep7
 case hyp7 => intro w hSw; (try dsimp only at hSw); (go_simp <;> with_reducible rfl)
 try simp only [na1, na2, na3, Act.put, na4, na5, na6]
 refine tk0 (i := 9) (v := ?vp9) rfl (Or.inl ⟨by rfl, ?hyp9⟩) (by assumption) ?rep9
 case hyp9 => intro w hSw; (try dsimp only at hSw); (go_simp <;> with_reducible rfl)
 try simp only [na1, na2, na3, Act.put, na4, na5, na6]
 refine tk0 (i := 13) (v := ?vp13) rfl (Or.inl ⟨by rfl, ?hyp13⟩) (by assumption) ?rep13
 case hyp13 => intro w hSw; (try dsimp only at hSw); (go_simp <;> with_reducible rfl)
 try simp only [na1, na2, na3, Act.put, na4, na5, na6]
 refine rd1 (i := 2) rfl (fun K hK => ?_)
 go_simp
 go_wp2_with (go_at_call 61; (with_reducible refine (rlo_any a0 a1 _ _ (HX.out.below HAD.out)).mono ?_); rintro e wA ⟨vA, rfl, hvA, hbA⟩)
 refine hK.out _ _ (kd12 N3.out hbA hh) (fun hh => ?_)
 clear hK K
 try simp only [na1, na2, na3, Act.put, na4, na5, na6]
 have BA := Lib.hid (bt HAD.out hbA)
 refine rd1 (i := 4) rfl (fun K hK => ?_)
 go_simp
 go_wp2_with (go_at_call 61; (with_reducible refine (rlo_any p0 p1 _ _ (HY.out.below BA.out)).mono ?_); rintro e wB ⟨vB, rfl, hvB, hbB⟩)
 refine hK.out _ _ (kd12 N3.out hbB hh) (fun hh => ?_)
 clear hK K
 try simp only [na1, na2, na3, Act.put, na4, na5, na6]
 have BB := Lib.hid (bt BA.out hbB)
 refine rd1 (i := 5) rfl (fun K hK => ?_)
 go_simp
 go_wp2_with (go_at_call 143; (with_reducible refine (stepf_any a0 p0 _ _ _ (hvA.below hbB) hvB S1.out S2.out S3.out S4.out).mono ?_); rintro e wC ⟨vC, rfl, hvC, hbC⟩)
 refine hK.out _ _ (kd12 N3.out hbC hh) (fun hh => ?_)
 clear hK K
 try simp only [na1, na2, na3, Act.put, na4, na5, na6]
 have BC := Lib.hid (bt BB.out hbC)
 rw [HQ0.out] at hvC
 refine rd1 (i := 8) rfl (fun K hK => ?_)
 go_simp
 go_wp2_with (go_at_call 69; (with_reducible refine (rhi_any a0 a1 _ _ (HX.out.below BC.out)).mono ?_); rintro e wD ⟨vD, rfl, hvD, hbD⟩)
 refine hK.out _ _ (kd12 N3.out hbD hh) (fun hh => ?_)
 clear hK K
 try simp only [na1, na2, na3, Act.put, na4, na5, na6]
 have BD := Lib.hid (bt BC.out hbD)
 refine rd1 (i := 10) rfl (fun K hK => ?_)
 go_simp
 go_wp2_with (go_at_call 69; (with_reducible refine (rhi_any p0 p1 _ _ (HY.out.below BD.out)).mono ?_); rintro e wF ⟨vF, rfl, hvF, hbF⟩)
 refine hK.out _ _ (kd12 N3.out hbF hh) (fun hh => ?_)
 clear hK K
 try simp only [na1, na2, na3, Act.put, na4, na5, na6]
 have BF := Lib.hid (bt BD.out hbF)
 refine rd1 (i := 11) rfl (fun K hK => ?_)
 go_simp
 go_wp2_with (go_at_call 143; (with_reducible refine (stepf_any a1 p1 _ _ _ (hvD.below hbF) hvF S5.out S6.out S7.out S8.out).mono ?_); rintro e wG ⟨vG, rfl, hvG, hbG⟩)
 refine hK.out _ _ (kd12 N3.out hbG hh) (fun hh => ?_)
 clear hK K
 try simp only [na1, na2, na3, Act.put, na4, na5, na6]
 have BG := Lib.hid (bt BF.out hbG)
 rw [HQ1.out] at hvG
 refine rd1 (i := 12) rfl (fun K hK => ?_)
 go_simp
 go_wp2_with (go_at_call 106; (with_reducible refine (span_any q0 q1 _ _ _ (hvC.below (bt (bt hbD hbF) hbG)) hvG S12.out S13.out HCM.out).mono ?_); rintro e wI ⟨vI, rfl, hvI, hbI⟩)
 refine hK.out _ _ (kd12 N3.out hbI hh) (fun hh => ?_)
 clear hK K
 try simp only [na1, na2, na3, Act.put, na4, na5, na6]
 have BI := Lib.hid (bt BG.out hbI)
 refine rd1 (i := 14) rfl (fun K hK => ?_)
 go_simp
 go_wp2_with (go_at_call 41; (with_reducible refine (rround_any q0 q1 k HK.out z HZK.out _ _ hvI S9.out S11.out).mono ?_); rintro e wJ ⟨vJ, rfl, hvJ, hbJ⟩)
 refine hK.out _ _ (kd12 N3.out hbJ hh) (fun hh => ?_)
 clear hK K
 try simp only [na1, na2, na3, Act.put, na4, na5, na6]
 have BJ := Lib.hid (bt BI.out hbJ)
 obtain ⟨za, zb, rfl, hz1, hz2⟩ := hvJ
 have e0 : W.drew.heap[w.heap.size + 1 + 1]? = _ := HB3.out
 have eA := blk_keep e0 hbA (blk_lt e0)
 have eB := blk_keep eA hbB (blk_lt eA)
 have eC := blk_keep eB hbC (blk_lt eB)
 have eD := blk_keep eC hbD (blk_lt eC)
 have eF := blk_keep eD hbF (blk_lt eD)
 have eG := blk_keep eF hbG (blk_lt eF)
 have eI := blk_keep eG hbI (blk_lt eG)
 have eJ := blk_keep eI hbJ (blk_lt eI)
 have E : Hid (wJ.heap[w.heap.size + 1 + 1]? = some (.cells (arr6 r30 r30) 86 (0, 0))) := eJ
 have HV1 := Lib.hid hz1
 have HV2 := Lib.hid hz2
 obtain ⟨g0, g1, g2, g3, g4, g5, f0, f1, f2, f3, f4, f5⟩ := fac6 (x := r30) (y := r30) E.out
 clear e0 eA eB eC eD eF eG eI eJ hz1 hz2
 refine rd1 (i := 15) rfl (fun K hK => ?_)
 go_simp
 refine hK.out _ _ (ks12 (Nat.le_refl _) N0.out N0.out N0.out N0.out N0.out N0.out N1.out N1.out N1.out N1.out N1.out N1.out (below6r (Below.refl _ _) (Nat.le_refl _)) hh) (fun hh => ?_)
 clear hK K
 try simp only [na1, na2, na3, Act.put, na4, na5, na6]
 refine wpAnyH_done (by kernel_rfl) ?_ _
 obtain ⟨h0, h1, h2, h3, h4, h5, _, _, _, _, _, _⟩ := fac6 (x := za) (y := zb) (set6r (x := za) (y := zb) E.out)
 go_wp2_with fail
 refine bodyPost_ret (v := rngV za zb) (by simp [results, Tryz.results97, go_sem, h0, h1, h2, h3, h4, h5]) rfl ⟨_, rfl, ⟨za, zb, rfl, IsRat.set6r HV1.out E.out, IsRat.set6r HV2.out E.out⟩, below6r BJ.out (by omega)⟩
end Go.Proofs.YthhnkobkdhjfgaaGreat

namespace Go.Proofs.YthhnkobkdhjfgaaGreat
open Go.RowKit

set_option maxRecDepth 100000 in
set_option maxHeartbeats 2000000 in
theorem part_ok (lo hi : Rat) (v : Value) (w : World) (h : IsRng w v lo hi) (h0 : 0 ≤ sgnI (decide (lo.num < 0)) lo.num.natAbs) (h1 : cmpR hi 1 ≤ 0) (s1 : szR hi 274877906944) : Calls Tryz.prog 63 #[v] w (RetBool true w) := by
 have HR := Lib.hid h
 obtain ⟨x, y, rfl, _, _⟩ := h
 have c0 : decide (sgnI (decide (lo.num < 0)) lo.num.natAbs ≥ 0) = true := decide_eq_true h0
 have c1 : decide (cmpR hi 1 ≤ 0) = true := decide_eq_true h1
 have S1 := Lib.hid s1
 have H0 := Lib.hid h0
 have H1 := Lib.hid h1
 clear s1 h0 h1
 have S2 : Hid (szR 1 274877906944) := one_szR _ (by omega)
 go_enter Tryz.func63, Tryz.ntmps63
 go_wp2_with fail
 have hal := below1 w (.cells (arr6 x y) 86)
 generalize hW0 : w.alloc (.cells (arr6 x y) 86) = W at *
 have hB : W.heap[w.heap.size]? = some (.cells (arr6 x y) 86 (0, 0)) := by rw [← hW0]; exact blk_new _ _ _
 have HAL := Lib.hid hal
 clear hW0 hal
 refine (rlo_any lo hi _ _ (HR.out.below HAL.out)).mono ?_
 rintro e wA ⟨vA, rfl, hvA, hbA⟩
 have BA := Lib.hid (bt HAL.out hbA)
 have eA := blk_keep hB hbA (blk_lt hB)
 obtain ⟨a1, c1', a2, c2', rfl, _, _⟩ := hvA.opened
 clear hB hvA hbA
 go_wp2_with fail
 refine (sign_any _ _ lo.num.natAbs _ _ _ _ _).mono ?_
 rintro e wB ⟨rfl, hbB⟩
 have BB := Lib.hid (bt BA.out hbB)
 have eB := blk_keep eA hbB (blk_lt eA)
 obtain ⟨x0, x1, x2, x3, x4, x5, _, _, _, _, _, _⟩ := fac6 (x := x) (y := y) eB
 clear eA hbB
 go_wp2_with fail
 refine (rhi_any lo hi _ _ (HR.out.below BB.out)).mono ?_
 rintro e wC ⟨vC, rfl, hvC, hbC⟩
 have BC := Lib.hid (bt BB.out hbC)
 clear x0 x1 x2 x3 x4 x5 eB
 go_wp2_with fail
 refine (one_any _).mono ?_
 rintro e wD ⟨vD, rfl, hvD, hbD⟩
 have BD := Lib.hid (bt BC.out hbD)
 go_wp2_with fail
 refine (cmpRat_any hi 1 _ _ _ (hvC.below hbD) hvD S1.out S2.out).mono ?_
 rintro e wE ⟨rfl, hbE⟩
 have BE := Lib.hid (bt BD.out hbE)
 clear hvC hvD hbC hbD hbE
 go_wp2_with fail
 go_ret
 exact ⟨by simp [c1], BE.out⟩
set_option maxRecDepth 100000 in
set_option maxHeartbeats 2000000 in
theorem Step_ok (a0 a1 p0 p1 : Rat) (k : Nat) (vc vr : Value) (w : World) (hc : IsRng w vc a0 a1) (hr : IsRng w vr p0 p1) (q0 q1 : Rat)
  (P1 : Hid (∀ W v, IsRng W v a0 a1 → Calls Tryz.prog 63 #[v] W (RetBool true W))) (P2 : Hid (∀ W v, IsRng W v p0 p1 → Calls Tryz.prog 63 #[v] W (RetBool true W)))
  (HS : Hid (∀ W v u, IsRng W v a0 a1 → IsRng W u p0 p1 → Calls Tryz.prog 97 #[v, u, .int .i64 k] W (RetRng q0 q1 W))) :
  Calls Tryz.prog 49 #[vc, vr, .int .i64 k] w (RetRngE q0 q1 0 w) := by
 have HX := Lib.hid hc
 have HY := Lib.hid hr
 obtain ⟨x, y, rfl, _, _⟩ := hc
 obtain ⟨x', y', rfl, _, _⟩ := hr
 go_enter Tryz.func49, Tryz.ntmps49
 go_wp2_with fail
 generalize hW0 : ((w.alloc (.cells (arr6 x y) 86)).alloc (.cells (arr6 x' y') 86)).alloc (.cells _ _) = W at *
 obtain ⟨hal, hB1, hB2, hB3, hWs⟩ := boxesS w _ _ _ _ _ _ W hW0.symm
 have HAL := Lib.hid hal
 clear hW0 hal hWs
 refine (P1.out _ _ (HX.out.below HAL.out)).mono ?_
 rintro e wA ⟨rfl, hb⟩
 have e1 := blk_keep hB1 hb (blk_lt hB1)
 have e2 := blk_keep hB2 hb (blk_lt hB2)
 have e3 := blk_keep hB3 hb (blk_lt hB3)
 have BA := Lib.hid (bt HAL.out hb)
 obtain ⟨y0, y1, y2, y3, y4, y5, _, _, _, _, _, _⟩ := fac6 (x := x') (y := y') e2
 clear hB1 hB2 hB3 hb
 go_wp2_with fail
 refine (P2.out _ _ (HY.out.below BA.out)).mono ?_
 rintro e wB ⟨rfl, hb⟩
 have f1 := blk_keep e1 hb (blk_lt e1)
 have f2 := blk_keep e2 hb (blk_lt e2)
 have f3 := blk_keep e3 hb (blk_lt e3)
 have BB := Lib.hid (bt BA.out hb)
 clear e1 e2 e3 hb y0 y1 y2 y3 y4 y5
 obtain ⟨x0, x1, x2, x3, x4, x5, _, _, _, _, _, _⟩ := fac6 (x := x) (y := y) f1
 obtain ⟨y0, y1, y2, y3, y4, y5, _, _, _, _, _, _⟩ := fac6 (x := x') (y := y') f2
 go_wp2_with fail
 refine (HS.out _ _ _ (HX.out.below BB.out) (HY.out.below BB.out)).mono ?_
 rintro e wC ⟨v, rfl, ⟨za, zb, rfl, hz1, hz2⟩, hb⟩
 have E : Hid (wC.heap[w.heap.size + 1 + 1]? = some (.cells (arr6 r30 r30) 86 (0, 0))) := blk_keep f3 hb (blk_lt f3)
 have BC := Lib.hid (bt BB.out hb)
 have HV1 := Lib.hid hz1
 have HV2 := Lib.hid hz2
 clear x0 x1 x2 x3 x4 x5 y0 y1 y2 y3 y4 y5 f1 f2 f3 hz1 hz2 hb
 obtain ⟨g0, g1, g2, g3, g4, g5, f0, f1, f2, f3, f4, f5⟩ := fac6 (x := r30) (y := r30) E.out
 go_wp2_with fail
 obtain ⟨h0, h1, h2, h3, h4, h5, _, _, _, _, _, _⟩ := fac6 (x := za) (y := zb) (set6r (x := za) (y := zb) E.out)
 refine bodyPost_ret (v := .tuple #[rngV za zb, .int .i64 0]) (by simp [results, Tryz.results49, go_sem, h0, h1, h2, h3, h4, h5]) rfl ⟨_, rfl, ⟨za, zb, rfl, IsRat.set6r HV1.out E.out, IsRat.set6r HV2.out E.out⟩, below6r BC.out (by omega)⟩
theorem txt_half : strB (txtQ (1 / 2)) = { data := #[49, 47, 50] } := by decide +kernel
set_option maxRecDepth 100000 in
set_option maxHeartbeats 2000000 in
theorem rtext_half (v : Value) (w : World) (h : IsRng w v (1 / 2) (1 / 2)) : Calls Tryz.prog 42 #[v] w (fun e w' => e = .returned (.string { data := #[91, 49, 47, 50, 44, 49, 47, 50, 93] }) ∧ Below w.heap.size w w') := by
 have HT : Hid (∀ W v, IsRat W v (1 / 2) → Calls Tryz.prog 76 #[v] W (fun e w' => e = .returned (.string { data := #[49, 47, 50] }) ∧ Below W.heap.size W w')) := fun W v h => by
  have := textRat_any (1 / 2) v W h ⟨by decide +kernel, by decide +kernel⟩
  unfold RetStr at this
  rw [txt_half] at this
  exact this
 obtain ⟨x, y, rfl, h1, h2⟩ := h
 have HX := Lib.hid h1
 have HY := Lib.hid h2
 clear h1 h2
 go_enter Tryz.func42, Tryz.ntmps42
 go_wp2_with fail
 have hal := below1 w (.cells (arr6 x y) 86)
 generalize hW0 : w.alloc (.cells (arr6 x y) 86) = W at *
 have hB : W.heap[w.heap.size]? = some (.cells (arr6 x y) 86 (0, 0)) := by rw [← hW0]; exact blk_new _ _ _
 obtain ⟨x0, x1, x2, y0, y1, y2, _, _, _, _, _, _⟩ := fac6 (x := x) (y := y) hB
 have HAD := Lib.hid hal.drew
 have N3 : Hid (w.heap.size ≤ W.heap.size) := hal.size
 clear hW0 hal hB
 refine wp_region_held_drew (S := (fun w' => Below (w.heap.size) W w' ∧ w'.cell? ⟨w.heap.size, 0, none⟩ = some (.bool x.b) ∧ w'.cell? ⟨w.heap.size, 1, none⟩ = some (.slice x.a x.n x.c) ∧ w'.cell? ⟨w.heap.size, 2, none⟩ = some (.slice x.d x.m x.e) ∧ w'.cell? ⟨w.heap.size, 3, none⟩ = some (.bool y.b) ∧ w'.cell? ⟨w.heap.size, 4, none⟩ = some (.slice y.a y.n y.c) ∧ w'.cell? ⟨w.heap.size, 5, none⟩ = some (.slice y.d y.m y.e))) (by kernel_rfl) ⟨(Below.refl _ _).drew, x0, x1, x2, y0, y1, y2⟩ (fun hh => ?_)
 clear x0 x1 x2 y0 y1 y2
 refine tk0 (i := 0) (v := ?vp0) rfl (Or.inl ⟨by rfl, ?hyp0⟩) (by assumption) ?rep0
 case hyp0 => intro w hSw; (try dsimp only at hSw); (go_simp <;> with_reducible rfl)
 try simp only [na1, na2, na3, Act.put, na4, na5, na6]
 refine tk0 (i := 1) (v := ?vp1) rfl (Or.inl ⟨by rfl, ?hyp1⟩) (by assumption) ?rep1
 case hyp1 => intro w hSw; (try dsimp only at hSw); (go_simp <;> with_reducible rfl)
 try simp only [na1, na2, na3, Act.put, na4, na5, na6]
 refine tk0 (i := 5) (v := ?vp5) rfl (Or.inl ⟨by rfl, ?hyp5⟩) (by assumption) ?rep5
 case hyp5 => intro w hSw; (try dsimp only at hSw); (go_simp <;> with_reducible rfl)
 try simp only [na1, na2, na3, Act.put, na4, na5, na6]
 refine tk0 (i := 6) (v := ?vp6) rfl (Or.inl ⟨by rfl, ?hyp6⟩) (by assumption) ?rep6
 case hyp6 => intro w hSw; (try dsimp only at hSw); (go_simp <;> with_reducible rfl)
 try simp only [na1, na2, na3, Act.put, na4, na5, na6]
 refine rd1 (i := 2) rfl (fun K hK => ?_)
 go_simp
 go_wp2_with (go_at_call 76; (with_reducible refine (HT.out _ _ (HX.out.below HAD.out)).mono ?_); rintro e wA ⟨rfl, hbA⟩)
 refine hK.out _ _ (kd6 N3.out hbA hh) (fun hh => ?_)
 clear hK K
 try simp only [na1, na2, na3, Act.put, na4, na5, na6]
 have BA := Lib.hid (bt HAD.out hbA)
 refine tk0 (i := 3) (v := ?vp3) rfl (Or.inl ⟨by rfl, ?hyp3⟩) (by assumption) ?rep3
 case hyp3 => intro w hSw; (try dsimp only at hSw); (go_simp <;> with_reducible rfl)
 try simp only [na1, na2, na3, Act.put, na4, na5, na6]
 refine tk0 (i := 4) (v := ?vp4) rfl (Or.inl ⟨by rfl, ?hyp4⟩) (by assumption) ?rep4
 case hyp4 => intro w hSw; (try dsimp only at hSw); (go_simp <;> with_reducible rfl)
 try simp only [na1, na2, na3, Act.put, na4, na5, na6]
 refine rd1 (i := 7) rfl (fun K hK => ?_)
 go_simp
 go_wp2_with (go_at_call 76; (with_reducible refine (HT.out _ _ (HY.out.below BA.out)).mono ?_); rintro e wB ⟨rfl, hbB⟩)
 refine hK.out _ _ (kd6 N3.out hbB hh) (fun hh => ?_)
 clear hK K
 try simp only [na1, na2, na3, Act.put, na4, na5, na6]
 have BB := Lib.hid (bt BA.out hbB)
 refine tk0 (i := 8) (v := ?vp8) rfl (Or.inl ⟨by rfl, ?hyp8⟩) (by assumption) ?rep8
 case hyp8 => intro w hSw; (try dsimp only at hSw); (go_simp <;> with_reducible rfl)
 try simp only [na1, na2, na3, Act.put, na4, na5, na6]
 refine tk0 (i := 9) (v := ?vp9) rfl (Or.inl ⟨by rfl, ?hyp9⟩) (by assumption) ?rep9
 case hyp9 => intro w hSw; (try dsimp only at hSw); (go_simp <;> with_reducible rfl)
 try simp only [na1, na2, na3, Act.put, na4, na5, na6]
 refine tk0 (i := 10) (v := ?vp10) rfl (Or.inl ⟨by rfl, ?hyp10⟩) (by assumption) ?rep10
 case hyp10 => intro w hSw; (try dsimp only at hSw); (go_simp <;> with_reducible rfl)
 try simp only [na1, na2, na3, Act.put, na4, na5, na6]
 refine wpAnyH_done (by kernel_rfl) ?_ _
 have hst : (({ data := #[91] } ++ { data := #[49, 47, 50] } ++ { data := #[44] } ++ { data := #[49, 47, 50] } ++ { data := #[93] } : ByteArray)) = { data := #[91, 49, 47, 50, 44, 49, 47, 50, 93] } := by decide +kernel
 go_wp2_with fail
 go_ret
 exact ⟨by rw [hst]; rfl, BB.out⟩
def ruA5 : Ru := ⟨1, 2, 1, 1, 0, 0, 0, 2, 0, 0, 0, 0, 0⟩
theorem play_A : playE ruA5 [1, 0, 2, 0, 3, 0, 0, 0] = (⟨5, 0, 0, 0, false, false, false, false⟩, 8, 0) := by kernel_rfl
theorem down_half : downQ (1 / 2) 4 = 1 / 2 := by decide +kernel
theorem up_half : upQ (1 / 2) 4 = 1 / 2 := by decide +kernel
theorem ints_new8 (w : World) (a b c d e f g h : Int) (t : TypeId) : IntsOf (w.alloc (.cells #[.int .i64 a, .int .i64 b, .int .i64 c, .int .i64 d, .int .i64 e, .int .i64 f, .int .i64 g, .int .i64 h] t)) (.slice (some ⟨w.heap.size, 0, none⟩) 8 8) [a, b, c, d, e, f, g, h] := by
 have hB := blk_new w #[.int .i64 a, .int .i64 b, .int .i64 c, .int .i64 d, .int .i64 e, .int .i64 f, .int .i64 g, .int .i64 h] t
 refine ⟨_, 8, rfl, fun _ => ⟨w.heap.size, 0, rfl, blk_lt hB, fun i hi => ?_⟩⟩
 match i, hi with
 | 0, _ => exact blk_cell hB 0 _ rfl
 | 1, _ => exact blk_cell hB 1 _ rfl
 | 2, _ => exact blk_cell hB 2 _ rfl
 | 3, _ => exact blk_cell hB 3 _ rfl
 | 4, _ => exact blk_cell hB 4 _ rfl
 | 5, _ => exact blk_cell hB 5 _ rfl
 | 6, _ => exact blk_cell hB 6 _ rfl
 | 7, _ => exact blk_cell hB 7 _ rfl
 | i + 8, hi => simp at hi; omega
set_option maxRecDepth 100000 in
set_option maxHeartbeats 2000000 in
theorem awake05_any (w : World) : Calls Tryz.prog 12 #[] w (RetBool true w) := by
 have HP : Hid (∀ W v, IsRng W v 0 0 → Calls Tryz.prog 63 #[v] W (RetBool true W)) := fun W v h => part_ok 0 0 v W h (by decide +kernel) (by decide +kernel) ⟨by decide +kernel, by decide +kernel⟩
 have HP2 : Hid (∀ W v, IsRng W v (1 / 2) (1 / 2) → Calls Tryz.prog 63 #[v] W (RetBool true W)) := fun W v h => part_ok _ _ v W h (by decide +kernel) (by decide +kernel) ⟨by decide +kernel, by decide +kernel⟩
 have HS : Hid (∀ W v u, IsRng W v 0 0 → IsRng W u (1 / 2) (1 / 2) → Calls Tryz.prog 97 #[v, u, .int .i64 (4 : Nat)] W (RetRng (1 / 2) (1 / 2) W)) := fun W v u h1 h2 => by
  have := step_any 0 0 (1 / 2) (1 / 2) 4 (by omega) 4 (by decide) v u W h1 h2 (1 / 2) (1 / 2) (by decide +kernel) (by decide +kernel) ⟨by decide +kernel, by decide +kernel⟩ ⟨by decide +kernel, by decide +kernel⟩ ⟨by decide +kernel, by decide +kernel⟩ ⟨by decide +kernel, by decide +kernel⟩ ⟨by decide +kernel, by decide +kernel⟩ ⟨by decide +kernel, by decide +kernel⟩ ⟨by decide +kernel, by decide +kernel⟩ ⟨by decide +kernel, by decide +kernel⟩ ⟨by decide +kernel, by decide +kernel⟩ ⟨by decide +kernel, by decide +kernel⟩ ⟨by decide +kernel, by decide +kernel⟩ (by decide +kernel)
  rw [down_half, up_half] at this
  exact this
 have HST : Hid (∀ W v u, IsRng W v 0 0 → IsRng W u (1 / 2) (1 / 2) → Calls Tryz.prog 49 #[v, u, .int .i64 4] W (RetRngE (1 / 2) (1 / 2) 0 W)) := fun W v u h1 h2 => Step_ok 0 0 (1 / 2) (1 / 2) 4 v u W h1 h2 _ _ HP HP2 HS
 have HPL : Hid (∀ W v, IntsOf W v [1, 0, 2, 0, 3, 0, 0, 0] → Calls Tryz.prog 50 #[ruV ruA5, v] W (RetPl (⟨5, 0, 0, 0, false, false, false, false⟩, 8, 0) W)) := fun W v h => by
  rw [← play_A]
  exact Play_any ruA5 _ v W h
 go_enter Tryz.func12, Tryz.ntmps12
 go_wp2_with fail
 refine (new_any 1 2 _ (by omega) (by omega) (by omega) (by omega) (by omega)).mono ?_
 rintro e w1 h1
 have h1' : ∃ v, e = .returned (.tuple #[v, .int .i64 0]) ∧ IsRat w1 v (1 / 2) ∧ Below w.heap.size w w1 := h1
 obtain ⟨v, rfl, hv, hb1⟩ := h1'
 obtain ⟨x, rfl⟩ := hv.open3
 have HV := Lib.hid (hv.below (below1 w1 (.cells x.arr 42)))
 have B1 := Lib.hid (ba (o := .cells x.arr 42) hb1)
 clear h1 hv hb1
 go_wp2_with fail
 refine (only_any (1 / 2) _ _ HV.out).mono ?_
 rintro e w2 ⟨v, rfl, hv, hb2⟩
 have B2 := Lib.hid (bt B1.out hb2)
 clear hb2
 go_wp2_with fail
 refine (HST.out _ _ _ ⟨r30, r30, rfl, IsRat.zero _, IsRat.zero _⟩ hv).mono ?_
 rintro e w3 ⟨v3, rfl, ⟨za, zb, rfl, hz1, hz2⟩, hb3⟩
 have B3 := Lib.hid (ba (o := .cells (arr6 za zb) 86) (bt B2.out hb3))
 have HZ : Hid (IsRng (w3.alloc (.cells (arr6 za zb) 86)) (rngV za zb) (1 / 2) (1 / 2)) := ⟨za, zb, rfl, hz1.below (below1 _ _), hz2.below (below1 _ _)⟩
 have E3 := Lib.hid (blk_new w3 (arr6 za zb) 86)
 clear hv hb3 hz1 hz2
 go_wp2_with fail
 have HI := ints_new8 ((w3.alloc (.cells (arr6 za zb) 86)).alloc (.cells (ruA ruA5) 144)) 1 0 2 0 3 0 0 0 3
 rw [World.size_alloc, World.size_alloc] at HI
 refine (HPL.out _ _ HI).mono ?_
 rintro e w4 ⟨rfl, hb4⟩
 have h5 : Below (w3.alloc (.cells (arr6 za zb) 86)).heap.size (w3.alloc (.cells (arr6 za zb) 86)) (w4.alloc (.cells (rnA ⟨5, 0, 0, 0, false, false, false, false⟩) 147)) := ba (bt (below2 _ _ _) hb4)
 have E5 := blk_keep E3.out h5 (blk_lt E3.out)
 have HZ5 := Lib.hid (HZ.out.below h5)
 have B5 := Lib.hid (bt B3.out h5)
 obtain ⟨x0, x1, x2, x3, x4, x5, _, _, _, _, _, _⟩ := fac6 (x := za) (y := zb) E5
 clear HI h5 E5 hb4
 go_wp2_with fail
 refine (rtext_half _ _ HZ5.out).mono ?_
 rintro e w6 ⟨rfl, hb6⟩
 have E6 := blk_keep (blk_new w4 (rnA ⟨5, 0, 0, 0, false, false, false, false⟩) 147) hb6 (by rw [World.size_alloc]; omega)
 have B6 := Lib.hid (bt B5.out hb6)
 obtain ⟨g0, _, _, _, _, _, _, _⟩ := rn8 E6
 clear x0 x1 x2 x3 x4 x5 hb6 E6
 go_wp2_with fail
 go_ret
 exact ⟨rfl, B6.out⟩
end Go.Proofs.YthhnkobkdhjfgaaGreat

namespace Go.Proofs.YthhnkobkdhjfgaaGreat
open Go.RowKit

def partB (lo hi : Rat) : Bool := decide (0 ≤ sgnI (decide (lo.num < 0)) lo.num.natAbs) && decide (cmpR hi 1 ≤ 0)
theorem sgn_ge (q : Rat) : decide (0 ≤ sgnI (decide (q.num < 0)) q.num.natAbs) = decide (0 ≤ q) := by
 have h := sgnI_neg q
 have e : (q.num < 0) ↔ q < 0 := by rw [Rat.lt_iff]; simp
 rw [decide_eq_decide] at h ⊢
 constructor
 ·
  intro h1
  have : ¬ q < 0 := fun h2 => by have := h.2 (e.2 h2); omega
  grind
 ·
  intro h1
  have : ¬ q.num < 0 := fun h2 => by have := e.1 h2; grind
  have h3 := fun h4 => this (h.1 h4)
  omega
set_option maxRecDepth 100000 in
set_option maxHeartbeats 2000000 in
theorem part_any (lo hi : Rat) (v : Value) (w : World) (h : IsRng w v lo hi) (s1 : szR hi 274877906944) : Calls Tryz.prog 63 #[v] w (RetBool (partB lo hi) w) := by
 have HR := Lib.hid h
 obtain ⟨x, y, rfl, _, _⟩ := h
 have S1 := Lib.hid s1
 have HF : Hid (partB lo hi = (decide (0 ≤ sgnI (decide (lo.num < 0)) lo.num.natAbs) && decide (cmpR hi 1 ≤ 0))) := rfl
 clear s1
 have S2 : Hid (szR 1 274877906944) := one_szR _ (by omega)
 go_enter Tryz.func63, Tryz.ntmps63
 go_wp2_with fail
 have hal := below1 w (.cells (arr6 x y) 86)
 generalize hW0 : w.alloc (.cells (arr6 x y) 86) = W at *
 have hB : W.heap[w.heap.size]? = some (.cells (arr6 x y) 86 (0, 0)) := by rw [← hW0]; exact blk_new _ _ _
 have HAL := Lib.hid hal
 clear hW0 hal
 refine (rlo_any lo hi _ _ (HR.out.below HAL.out)).mono ?_
 rintro e wA ⟨vA, rfl, hvA, hbA⟩
 have BA := Lib.hid (bt HAL.out hbA)
 have eA := blk_keep hB hbA (blk_lt hB)
 have HVA := Lib.hid hvA
 obtain ⟨zA, rfl⟩ := hvA.open3
 clear hB hvA hbA
 go_wp2_with fail
 refine (signR_any lo _ _ HVA.out).mono ?_
 rintro e wB ⟨rfl, hbB⟩
 have BB := Lib.hid (bt BA.out hbB)
 have eB := blk_keep eA hbB (blk_lt eA)
 obtain ⟨x0, x1, x2, x3, x4, x5, _, _, _, _, _, _⟩ := fac6 (x := x) (y := y) eB
 clear eA hbB eB HVA
 generalize sgnI (decide (lo.num < 0)) lo.num.natAbs = sg at *
 by_cases c0 : 0 ≤ sg
 ·
  have t0 : decide (sg ≥ 0) = true := decide_eq_true c0
  have HF2 : Hid (partB lo hi = decide (cmpR hi 1 ≤ 0)) := by show _ = _; rw [HF.out, decide_eq_true c0]; rfl
  clear c0 HF
  go_wp2_with fail
  refine (rhi_any lo hi _ _ (HR.out.below BB.out)).mono ?_
  rintro e wC ⟨vC, rfl, hvC, hbC⟩
  have BC := Lib.hid (bt BB.out hbC)
  have HVC := Lib.hid hvC
  clear x0 x1 x2 x3 x4 x5 hvC hbC
  go_wp2_with fail
  refine (one_any _).mono ?_
  rintro e wD ⟨vD, rfl, hvD, hbD⟩
  have BD := Lib.hid (bt BC.out hbD)
  replace HVC := Lib.hid (HVC.out.below hbD)
  have HVD := Lib.hid hvD
  clear hvD hbD
  go_wp2_with fail
  refine (cmpRat_any hi 1 _ _ _ HVC.out HVD.out S1.out S2.out).mono ?_
  rintro e wE ⟨rfl, hbE⟩
  have BE := Lib.hid (bt BD.out hbE)
  clear hbE
  go_wp2_with fail
  go_ret
  exact ⟨by rw [HF2.out]; simp, BE.out⟩
 ·
  have t0 : decide (sg ≥ 0) = false := decide_eq_false c0
  have HF2 : Hid (partB lo hi = false) := by show _ = _; rw [HF.out, decide_eq_false c0]; rfl
  clear c0 HF
  go_wp2_with fail
  go_ret
  exact ⟨by rw [HF2.out]; rfl, BB.out⟩
end Go.Proofs.YthhnkobkdhjfgaaGreat

namespace Go.Proofs.YthhnkobkdhjfgaaGreat
open Go.RowKit

abbrev Ent := Int × Rat × Rat
def Ent7 (R : World → Value → Rat → Prop) (w : World) (b o : Nat) (e : Ent) : Prop :=
 ∃ x y : R3, w.cell? ⟨b, o, none⟩ = some (.int .i64 e.1) ∧ w.cell? ⟨b, o + 1, none⟩ = some (.bool x.b) ∧ w.cell? ⟨b, o + 2, none⟩ = some (.slice x.a x.n x.c) ∧ w.cell? ⟨b, o + 3, none⟩ = some (.slice x.d x.m x.e) ∧ w.cell? ⟨b, o + 4, none⟩ = some (.bool y.b) ∧ w.cell? ⟨b, o + 5, none⟩ = some (.slice y.a y.n y.c) ∧ w.cell? ⟨b, o + 6, none⟩ = some (.slice y.d y.m y.e) ∧ R w x.val e.2.1 ∧ R w y.val e.2.2
def TabOf (R : World → Value → Rat → Prop) (w : World) (v : Value) (es : List Ent) : Prop :=
 ∃ ao cap, v = .slice ao es.length cap ∧ (0 < es.length → ∃ b off, ao = some ⟨b, off, none⟩ ∧ b < w.heap.size ∧ ∀ i, i < es.length → Ent7 R w b (off + i * 7) (es.getD i (0, 0, 0)))
theorem Ent7.below {R : World → Value → Rat → Prop} (hR : ∀ w w' v q, R w v q → Below w.heap.size w w' → R w' v q) {w w' : World} {b o : Nat} {e : Ent} (h : Ent7 R w b o e) (hb : Below w.heap.size w w') (hl : b < w.heap.size) : Ent7 R w' b o e := by
 obtain ⟨x, y, h0, h1, h2, h3, h4, h5, h6, h7, h8⟩ := h
 have c : ∀ j v, w.cell? ⟨b, j, none⟩ = some v → w'.cell? ⟨b, j, none⟩ = some v := fun j v h => (hb.cell (p := ⟨b, j, none⟩) hl).trans h
 exact ⟨x, y, c _ _ h0, c _ _ h1, c _ _ h2, c _ _ h3, c _ _ h4, c _ _ h5, c _ _ h6, hR _ _ _ _ h7 hb, hR _ _ _ _ h8 hb⟩
theorem TabOf.below {R : World → Value → Rat → Prop} (hR : ∀ w w' v q, R w v q → Below w.heap.size w w' → R w' v q) {w w' : World} {v : Value} {es : List Ent} (h : TabOf R w v es) (hb : Below w.heap.size w w') : TabOf R w' v es := by
 obtain ⟨ao, cap, rfl, h⟩ := h
 refine ⟨ao, cap, rfl, fun hl => ?_⟩
 obtain ⟨b, off, rfl, hlt, h⟩ := h hl
 exact ⟨b, off, rfl, Nat.lt_of_lt_of_le hlt hb.size, fun i hi => (h i hi).below hR hb hlt⟩
def EntRow (R : World → Value → Rat → Prop) (w : World) (xs : List Value) (es : List Ent) : Prop :=
 xs.length = es.length * 7 ∧ ∀ j, j < es.length → ∃ x y : R3, xs[j * 7]? = some (.int .i64 (es.getD j (0, 0, 0)).1) ∧ xs[j * 7 + 1]? = some (.bool x.b) ∧ xs[j * 7 + 2]? = some (.slice x.a x.n x.c) ∧ xs[j * 7 + 3]? = some (.slice x.d x.m x.e) ∧ xs[j * 7 + 4]? = some (.bool y.b) ∧ xs[j * 7 + 5]? = some (.slice y.a y.n y.c) ∧ xs[j * 7 + 6]? = some (.slice y.d y.m y.e) ∧ R w x.val (es.getD j (0, 0, 0)).2.1 ∧ R w y.val (es.getD j (0, 0, 0)).2.2
theorem EntRow.mono {R : World → Value → Rat → Prop} {w w' : World} {xs : List Value} {es : List Ent} (h : EntRow R w xs es) (hr : ∀ v q, R w v q → R w' v q) : EntRow R w' xs es :=
 ⟨h.1, fun j hj => by obtain ⟨x, y, h0, h1, h2, h3, h4, h5, h6, h7, h8⟩ := h.2 j hj; exact ⟨x, y, h0, h1, h2, h3, h4, h5, h6, hr _ _ h7, hr _ _ h8⟩⟩
theorem EntRow.nil (R : World → Value → Rat → Prop) (w : World) : EntRow R w [] [] := ⟨rfl, fun j hj => absurd hj (by simp)⟩
theorem EntRow.snoc {R : World → Value → Rat → Prop} {w : World} {xs : List Value} {es : List Ent} (h : EntRow R w xs es) {f : Int} {x y : R3} {lo hi : Rat} (h1 : R w x.val lo) (h2 : R w y.val hi) :
  EntRow R w (xs ++ [.int .i64 f, .bool x.b, .slice x.a x.n x.c, .slice x.d x.m x.e, .bool y.b, .slice y.a y.n y.c, .slice y.d y.m y.e]) (es ++ [(f, lo, hi)]) := by
 obtain ⟨hl, h⟩ := h
 refine ⟨by simp [hl]; omega, fun j hj => ?_⟩
 rcases Nat.lt_or_ge j es.length with hj1 | hj1
 ·
  obtain ⟨x', y', g0, g1, g2, g3, g4, g5, g6, g7, g8⟩ := h j hj1
  have e : ∀ k, k < 7 → (xs ++ [.int .i64 f, .bool x.b, .slice x.a x.n x.c, .slice x.d x.m x.e, .bool y.b, .slice y.a y.n y.c, .slice y.d y.m y.e])[j * 7 + k]? = xs[j * 7 + k]? := fun k hk => List.getElem?_append_left (by omega)
  have e2 : (es ++ [(f, lo, hi)]).getD j (0, 0, 0) = es.getD j (0, 0, 0) := by simp [List.getD, List.getElem?_append_left hj1]
  rw [e2]
  exact ⟨x', y', by rw [← g0]; exact e 0 (by omega), by rw [← g1]; exact e 1 (by omega), by rw [← g2]; exact e 2 (by omega), by rw [← g3]; exact e 3 (by omega), by rw [← g4]; exact e 4 (by omega), by rw [← g5]; exact e 5 (by omega), by rw [← g6]; exact e 6 (by omega), g7, g8⟩
 ·
  obtain rfl : j = es.length := by simp at hj; omega
  have e : ∀ k, (xs ++ [.int .i64 f, .bool x.b, .slice x.a x.n x.c, .slice x.d x.m x.e, .bool y.b, .slice y.a y.n y.c, .slice y.d y.m y.e])[es.length * 7 + k]? = ([.int .i64 f, .bool x.b, .slice x.a x.n x.c, .slice x.d x.m x.e, .bool y.b, .slice y.a y.n y.c, .slice y.d y.m y.e] : List Value)[k]? := fun k => by rw [List.getElem?_append_right (by omega), hl]; congr 1; omega
  have e2 : (es ++ [(f, lo, hi)]).getD es.length (0, 0, 0) = (f, lo, hi) := by simp [List.getD]
  rw [e2]
  exact ⟨x, y, e 0, e 1, e 2, e 3, e 4, e 5, e 6, h1, h2⟩
theorem TabOf.ofRow {R : World → Value → Rat → Prop} {w : World} {base : Nat} {e : TypeId} {v : Value} {xs : List Value} {es : List Ent} (h : LRow w base e 7 v es.length xs) (ht : EntRow R w xs es) : TabOf R w v es := by
 rcases Nat.eq_zero_or_pos es.length with h0 | hp
 ·
  rcases h.1.2 with ⟨rfl, _⟩ | ⟨g, cap, cur, rfl, _⟩
  ·
   exact ⟨none, 0, by rw [h0], fun h => absurd h (by omega)⟩
  ·
   exact ⟨_, _, rfl, fun h => absurd h (by omega)⟩
 ·
  obtain ⟨g, cap, rfl⟩ := ownsRow_some h.1 hp
  have hc : ∀ j u, xs[j]? = some u → w.cell? ((⟨g, 0, none⟩ : Addr).add j) = some u := h.1.cells (g := g) rfl
  have hlt : g < w.heap.size := (h.lt rfl).1
  refine ⟨_, _, rfl, fun _ => ⟨g, 0, rfl, hlt, fun i hi => ?_⟩⟩
  obtain ⟨x, y, h0, h1, h2, h3, h4, h5, h6, h7, h8⟩ := ht.2 i hi
  have ea : ∀ j, (⟨g, 0, none⟩ : Addr).add j = ⟨g, 0 + j, none⟩ := fun j => by unfold Addr.add; split <;> simp_all
  have ec : ∀ k u, xs[i * 7 + k]? = some u → w.cell? ⟨g, 0 + i * 7 + k, none⟩ = some u := fun k u h => by rw [show 0 + i * 7 + k = 0 + (i * 7 + k) by omega, ← ea]; exact hc _ _ h
  exact ⟨x, y, ec 0 _ h0, ec 1 _ h1, ec 2 _ h2, ec 3 _ h3, ec 4 _ h4, ec 5 _ h5, ec 6 _ h6, h7, h8⟩
structure TE (w0 w : World) (va vb : Value) (xsA xsB : List Value) (esA esB : List Ent) : Prop where
 x : Below w0.heap.size w0 w
 la : LRow w w0.heap.size 134 7 va esA.length xsA
 lb : LRow w w0.heap.size 136 7 vb esB.length xsB
 ta : EntRow IsRat w xsA esA
 tb : EntRow IsR w xsB esB
theorem TE.below {w0 w w' : World} {va vb : Value} {xsA xsB : List Value} {esA esB : List Ent} (h : TE w0 w va vb xsA xsB esA esB) (hb : Below w.heap.size w w') : TE w0 w' va vb xsA xsB esA esB :=
 ⟨ext_trans h.x hb, h.la.below hb, h.lb.below hb, h.ta.mono fun _ _ hr => hr.below hb, h.tb.mono fun _ _ hr => hr.below hb⟩
theorem TE.alloc {w0 w : World} {va vb : Value} {xsA xsB : List Value} {esA esB : List Ent} (h : TE w0 w va vb xsA xsB esA esB) (o : Obj) : TE w0 (w.alloc o) va vb xsA xsB esA esB := h.below ((Below.refl _ _).alloc (Nat.le_refl _) _)
abbrev RawE := Int × (Int × Int) × (Int × Int)
def RawAt (w : World) (b o : Nat) (r : RawE) : Prop :=
 w.cell? ⟨b, o, none⟩ = some (.int .i64 r.1) ∧ w.cell? ⟨b, o + 1, none⟩ = some (.int .i64 r.2.1.1) ∧ w.cell? ⟨b, o + 2, none⟩ = some (.int .i64 r.2.1.2) ∧ w.cell? ⟨b, o + 3, none⟩ = some (.int .i64 r.2.2.1) ∧ w.cell? ⟨b, o + 4, none⟩ = some (.int .i64 r.2.2.2)
def RawsOf (w : World) (v : Value) (rs : List RawE) : Prop :=
 ∃ ao cap, v = .slice ao rs.length cap ∧ (0 < rs.length → ∃ b off, ao = some ⟨b, off, none⟩ ∧ b < w.heap.size ∧ ∀ i, i < rs.length → RawAt w b (off + i * 5) (rs.getD i (0, (0, 0), (0, 0))))
theorem RawAt.below {w w' : World} {b o : Nat} {r : RawE} {n : Nat} (h : RawAt w b o r) (hb : Below n w w') (hl : b < n) : RawAt w' b o r := by
 obtain ⟨h0, h1, h2, h3, h4⟩ := h
 have c : ∀ j v, w.cell? ⟨b, j, none⟩ = some v → w'.cell? ⟨b, j, none⟩ = some v := fun j v h => (hb.cell (p := ⟨b, j, none⟩) hl).trans h
 exact ⟨c _ _ h0, c _ _ h1, c _ _ h2, c _ _ h3, c _ _ h4⟩
theorem RawsOf.below {w w' : World} {v : Value} {rs : List RawE} (h : RawsOf w v rs) (hb : Below w.heap.size w w') : RawsOf w' v rs := by
 obtain ⟨ao, cap, rfl, h⟩ := h
 refine ⟨ao, cap, rfl, fun hl => ?_⟩
 obtain ⟨b, off, rfl, hlt, h⟩ := h hl
 exact ⟨b, off, rfl, Nat.lt_of_lt_of_le hlt hb.size, fun i hi => (h i hi).below hb hlt⟩
def hiE (r : RawE) : Rat := hiQ (fracQ r.2.1.1 r.2.1.2) (fracQ r.2.2.1 r.2.2.2)
def boxW (f n0 d0 n1 d1 : Int) (B : Nat) (w : World) : Prop := w.heap[B]? = some (.cells #[.int .i64 f, .int .i64 n0, .int .i64 d0, .int .i64 n1, .int .i64 d1] 132 (0, 0))
theorem boxW.all {f n0 d0 n1 d1 : Int} {B : Nat} {w : World} (h : boxW f n0 d0 n1 d1 B w) : boxW f n0 d0 n1 d1 B w ∧ w.cell? ⟨B, 0, none⟩ = some (.int .i64 f) ∧ w.cell? ⟨B, 1, none⟩ = some (.int .i64 n0) ∧ w.cell? ⟨B, 2, none⟩ = some (.int .i64 d0) ∧ w.cell? ⟨B, 3, none⟩ = some (.int .i64 n1) ∧ w.cell? ⟨B, 4, none⟩ = some (.int .i64 d1) :=
 ⟨h, blk_cell h 0 _ rfl, blk_cell h 1 _ rfl, blk_cell h 2 _ rfl, blk_cell h 3 _ rfl, blk_cell h 4 _ rfl⟩
theorem boxW.below {f n0 d0 n1 d1 : Int} {B : Nat} {a b : World} (hb : Below a.heap.size a b) (h : boxW f n0 d0 n1 d1 B a ∧ a.cell? ⟨B, 0, none⟩ = some (.int .i64 f) ∧ a.cell? ⟨B, 1, none⟩ = some (.int .i64 n0) ∧ a.cell? ⟨B, 2, none⟩ = some (.int .i64 d0) ∧ a.cell? ⟨B, 3, none⟩ = some (.int .i64 n1) ∧ a.cell? ⟨B, 4, none⟩ = some (.int .i64 d1)) : boxW f n0 d0 n1 d1 B b ∧ b.cell? ⟨B, 0, none⟩ = some (.int .i64 f) ∧ b.cell? ⟨B, 1, none⟩ = some (.int .i64 n0) ∧ b.cell? ⟨B, 2, none⟩ = some (.int .i64 d0) ∧ b.cell? ⟨B, 3, none⟩ = some (.int .i64 n1) ∧ b.cell? ⟨B, 4, none⟩ = some (.int .i64 d1) :=
 boxW.all (blk_keep h.1 hb (blk_lt h.1))
theorem boxW.grown {f n0 d0 n1 d1 : Int} {B : Nat} {a b : World} {row : Option Nat} (hg : a.grownBy b row) (hne : some B ≠ row) (h : boxW f n0 d0 n1 d1 B a ∧ a.cell? ⟨B, 0, none⟩ = some (.int .i64 f) ∧ a.cell? ⟨B, 1, none⟩ = some (.int .i64 n0) ∧ a.cell? ⟨B, 2, none⟩ = some (.int .i64 d0) ∧ a.cell? ⟨B, 3, none⟩ = some (.int .i64 n1) ∧ a.cell? ⟨B, 4, none⟩ = some (.int .i64 d1)) : boxW f n0 d0 n1 d1 B b ∧ b.cell? ⟨B, 0, none⟩ = some (.int .i64 f) ∧ b.cell? ⟨B, 1, none⟩ = some (.int .i64 n0) ∧ b.cell? ⟨B, 2, none⟩ = some (.int .i64 d0) ∧ b.cell? ⟨B, 3, none⟩ = some (.int .i64 n1) ∧ b.cell? ⟨B, 4, none⟩ = some (.int .i64 d1) :=
 boxW.all ((hg.block B (blk_lt h.1) hne).trans h.1)
end Go.Proofs.YthhnkobkdhjfgaaGreat

namespace Go.Proofs.YthhnkobkdhjfgaaGreat
open Go.RowKit

theorem TabOf.bP {w w' : World} {v : Value} {es : List Ent} (h : TabOf IsRat w v es) (hb : Below w.heap.size w w') : TabOf IsRat w' v es := h.below (fun _ _ _ _ h hb => h.below hb) hb
theorem FrcsOf.bP {w w' : World} {v : Value} {es : List Rat} (h : FrcsOf IsRat w v es) (hb : Below w.heap.size w w') : FrcsOf IsRat w' v es := h.below (fun _ _ _ _ h hb => h.below hb) hb
end Go.Proofs.YthhnkobkdhjfgaaGreat

namespace Go.Proofs.YthhnkobkdhjfgaaGreat
open Go.RowKit

theorem cmp_le0 {x y : Rat} : cmpR x y ≤ 0 ↔ x ≤ y := by
 unfold cmpR
 split
 ·
  constructor
  ·
   intro _; grind
  ·
   intro _; omega
 ·
  split
  ·
   constructor
   ·
    intro h; omega
   ·
    intro h; grind
  ·
   constructor
   ·
    intro _; grind
   ·
    intro _; omega
theorem cmp_lt0 {x y : Rat} : cmpR x y < 0 ↔ x < y := by
 unfold cmpR
 split
 ·
  constructor
  ·
   intro _; assumption
  ·
   intro _; omega
 ·
  split
  ·
   constructor
   ·
    intro h; omega
   ·
    intro h; grind
  ·
   constructor
   ·
    intro h; omega
   ·
    intro h; grind
theorem partB_iff {lo hi : Rat} : partB lo hi = true ↔ 0 ≤ lo ∧ hi ≤ 1 := by
 unfold partB
 rw [Bool.and_eq_true, sgn_ge, decide_eq_true_iff, decide_eq_true_iff, cmp_le0]
theorem lo_hi (a b : Rat) : loQ a b ≤ hiQ a b := by
 unfold loQ hiQ
 have h1 := @cmp_le0 a b
 have h2 := @cmp_lt0 a b
 split <;> split <;> grind
end Go.Proofs.YthhnkobkdhjfgaaGreat

namespace Go.Proofs.YthhnkobkdhjfgaaGreat
open Go.RowKit

theorem floorQ_eq (y : Rat) : floorQ y = (y.floor : Rat) := by
 unfold floorQ mkQ
 rw [Rat.mkRat_one, Rat.floor_def]
 congr 1
 unfold flN sg
 have hd : 0 < y.den := y.den_pos
 by_cases h : y.num < 0
 ·
  obtain ⟨m, hm⟩ : ∃ m : Nat, y.num = -(m : Int) := ⟨y.num.natAbs, by omega⟩
  rw [decide_eq_true h, if_pos rfl, hm, Int.natAbs_neg, Int.natAbs_natCast, Int.neg_ediv]
  have hb : (-(m : Int) < 0) := by rw [← hm]; exact h
  by_cases hr : m % y.den = 0
  ·
   have hdv : ((y.den : Int)) ∣ (m : Int) := Int.natCast_dvd_natCast.2 (Nat.dvd_of_mod_eq_zero hr)
   rw [if_neg (fun h => h.2 hr), if_pos hdv]
   simp
  ·
   have hdv : ¬ ((y.den : Int)) ∣ (m : Int) := fun h => hr (Nat.mod_eq_zero_of_dvd (Int.natCast_dvd_natCast.1 h))
   rw [if_pos ⟨hb, hr⟩, if_neg hdv]
   have : (y.den : Int).sign = 1 := Int.sign_eq_one_of_pos (by omega)
   rw [this]
   push_cast
   omega
 ·
  obtain ⟨m, hm⟩ : ∃ m : Nat, y.num = (m : Int) := ⟨y.num.natAbs, by omega⟩
  rw [decide_eq_false h, hm, Int.natAbs_natCast, if_neg (by simp), if_neg (fun h => absurd h.1 (by omega))]
  simp
theorem pw2_nat (k : Nat) : pw2 k 0 = (((2 ^ k : Nat) : Int) : Rat) := by
 unfold pw2 mkQ sg
 rw [Nat.pow_zero, Rat.mkRat_one]
 rfl
theorem pw2_mulinv (k : Nat) : pw2 k 0 * pw2 0 k = 1 := by
 unfold pw2 mkQ sg
 rw [Nat.pow_zero]
 simp only [Bool.false_eq_true, if_false]
 rw [Rat.mkRat_eq_div, Rat.mkRat_eq_div]
 have h : (((2 ^ k : Nat) : Int) : Rat) ≠ 0 := by
  have := Nat.two_pow_pos k
  intro h0
  have : ((2 ^ k : Nat) : Int) = 0 := by exact_mod_cast h0
  omega
 generalize 2 ^ k = m at *
 rw [show (((1 : Nat) : Int) : Rat) = 1 from rfl, show (((m : Nat) : Int) : Rat) = (m : Rat) from rfl] at *
 generalize (m : Rat) = a at *
 have e : ((1 : Nat) : Rat) = 1 := rfl
 rw [e]
 grind
theorem pw2_pos1 (k : Nat) : 0 < pw2 k 0 := by
 rw [pw2_nat]
 have := Nat.two_pow_pos k
 have h : (0 : Int) < ((2 ^ k : Nat) : Int) := by omega
 exact_mod_cast h
theorem pw2_pos2 (k : Nat) : 0 < pw2 0 k := by
 have h1 := pw2_mulinv k
 have h2 := pw2_pos1 k
 rcases Decidable.em (0 < pw2 0 k) with h | h
 ·
  exact h
 ·
  exfalso
  have h3 : pw2 0 k ≤ 0 := by grind
  have := Rat.mul_le_mul_of_nonneg_left h3 (Rat.le_of_lt h2)
  grind
theorem down_le (x : Rat) (k : Nat) : downQ x k ≤ x := by
 rw [← floor_down, floorQ_eq]
 have h := Rat.mul_le_mul_of_nonneg_right (Rat.floor_le (x * pw2 k 0)) (Rat.le_of_lt (pw2_pos2 k))
 rw [Rat.mul_assoc, pw2_mulinv, Rat.mul_one] at h
 exact h
theorem down_mono {x y : Rat} (h : x ≤ y) (k : Nat) : downQ x k ≤ downQ y k := by
 rw [← floor_down, ← floor_down, floorQ_eq, floorQ_eq]
 refine Rat.mul_le_mul_of_nonneg_right ?_ (Rat.le_of_lt (pw2_pos2 k))
 have h1 := Rat.mul_le_mul_of_nonneg_right h (Rat.le_of_lt (pw2_pos1 k))
 exact Rat.intCast_le_intCast.2 (Rat.le_floor_iff.2 (Rat.le_trans (Rat.floor_le _) h1))
theorem down_int {x : Rat} {n : Int} (h : (n : Rat) ≤ x) (k : Nat) : (n : Rat) ≤ downQ x k := by
 rw [← floor_down, floorQ_eq]
 have h1 := Rat.mul_le_mul_of_nonneg_right h (Rat.le_of_lt (pw2_pos1 k))
 have h2 : (((n * ((2 ^ k : Nat) : Int) : Int)) : Rat) ≤ x * pw2 k 0 := by
  rw [Rat.intCast_mul, ← pw2_nat]; exact h1
 have h3 := Rat.intCast_le_intCast.2 (Rat.le_floor_iff.2 h2)
 rw [Rat.intCast_mul, ← pw2_nat] at h3
 have h4 := Rat.mul_le_mul_of_nonneg_right h3 (Rat.le_of_lt (pw2_pos2 k))
 rw [Rat.mul_assoc, pw2_mulinv, Rat.mul_one] at h4
 exact h4
theorem up_ge (x : Rat) (k : Nat) : x ≤ upQ x k := by
 unfold upQ
 have := down_le (-x) k
 grind
theorem up_mono {x y : Rat} (h : x ≤ y) (k : Nat) : upQ x k ≤ upQ y k := by
 unfold upQ
 have := down_mono (x := -y) (y := -x) (by grind) k
 grind
theorem up_int {x : Rat} {n : Int} (h : x ≤ (n : Rat)) (k : Nat) : upQ x k ≤ (n : Rat) := by
 unfold upQ
 have h1 : ((-n : Int) : Rat) ≤ -x := by rw [Rat.intCast_neg]; grind
 have := down_int h1 k
 rw [Rat.intCast_neg] at this
 grind
def firstUp (f : Nat → Bool) : Nat → Int
 | 0 => -1
 | n + 1 => if 0 ≤ firstUp f n then firstUp f n else if f n then n else -1
theorem firstUp_stay {f : Nat → Bool} {i n : Nat} (h : 0 ≤ firstUp f i) (hn : i ≤ n) : firstUp f n = firstUp f i := by
  induction n with
  | zero => obtain rfl : i = 0 := by omega
            rfl
  | succ n ih =>
    rcases Nat.lt_or_ge i (n + 1) with h1 | h1
    · have e := ih (by omega)
      show (if 0 ≤ firstUp f n then firstUp f n else _) = _
      rw [if_pos (by rw [e]; exact h), e]
    · obtain rfl : i = n + 1 := by omega
      rfl
theorem firstUp_at {f : Nat → Bool} {i n : Nat} (h : firstUp f i = -1) (hf : f i = true) (hi : i < n) : firstUp f n = i := by
 have e : firstUp f (i + 1) = i := by
  show (if 0 ≤ firstUp f i then _ else _) = _
  rw [h, if_neg (by omega), if_pos hf]
 rw [firstUp_stay (by rw [e]; omega) hi, e]
theorem firstUp_next {f : Nat → Bool} {i : Nat} (h : firstUp f i = -1) (hf : f i = false) : firstUp f (i + 1) = -1 := by
 show (if 0 ≤ firstUp f i then _ else _) = _
 rw [h, if_neg (by omega), hf]
 rfl
end Go.Proofs.YthhnkobkdhjfgaaGreat

namespace Go.Proofs.YthhnkobkdhjfgaaGreat
open Go.RowKit

def fillT (t : Array Value) (ds : List Nat) (f : Nat → Value) : Array Value := ds.foldl (fun t d => t.setIfInBounds d (f d)) t
def fillA (a : Act) (ds : List Nat) (f : Nat → Value) : Act := { a with tmps := fillT a.tmps ds f }
theorem fillT_get (f : Nat → Value) (j : Nat) : ∀ (ds : List Nat) (t : Array Value), (fillT t ds f)[j]? = if j ∈ ds ∧ j < t.size then some (f j) else t[j]?
 | [], t => by simp [fillT]
 | d :: ds, t => by
  have ih := fillT_get f j ds (t.setIfInBounds d (f d))
  show (fillT (t.setIfInBounds d (f d)) ds f)[j]? = _
  rw [ih, Array.size_setIfInBounds]
  by_cases h1 : j ∈ ds ∧ j < t.size
  ·
   rw [if_pos h1, if_pos ⟨List.mem_cons_of_mem _ h1.1, h1.2⟩]
  ·
   rw [if_neg h1, Array.getElem?_setIfInBounds]
   by_cases h2 : d = j
   ·
    subst h2
    rw [if_pos rfl]
    by_cases h3 : d < t.size
    ·
     rw [if_pos h3, if_pos ⟨List.mem_cons_self, h3⟩]
    ·
     rw [if_neg h3, if_neg (fun h => h3 h.2), Array.getElem?_eq_none (by omega)]
   ·
    rw [if_neg h2, if_neg (fun h => h1 ⟨by rcases List.mem_cons.1 h.1 with h | h; exact absurd h.symm h2; exact h, h.2⟩)]
theorem fillT_size (f : Nat → Value) : ∀ (ds : List Nat) (t : Array Value), (fillT t ds f).size = t.size
 | [], t => rfl
 | d :: ds, t => by
  show (fillT (t.setIfInBounds d (f d)) ds f).size = _
  rw [fillT_size, Array.size_setIfInBounds]
theorem fillA_put {a : Act} {ds : List Nat} {f : Nat → Value} {d : Nat} {v : Value} (hd : d ∈ ds) : (fillA a ds f).put (some d) v = fillA a ds (fun e => if e = d then v else f e) := by
 have e : (fillT a.tmps ds f).setIfInBounds d v = fillT a.tmps ds (fun e => if e = d then v else f e) := by
  apply Array.ext_getElem?
  intro j
  rw [Array.getElem?_setIfInBounds, fillT_get, fillT_get, fillT_size]
  by_cases h : d = j
  ·
   subst h
   rw [if_pos rfl]
   by_cases h3 : d < a.tmps.size
   ·
    rw [if_pos h3, if_pos ⟨hd, h3⟩]; simp
   ·
    rw [if_neg h3, if_neg (fun h => h3 h.2), Array.getElem?_eq_none (by omega)]
  ·
   rw [if_neg h]
   have h' : ¬ j = d := fun e => h e.symm
   simp [h']
 unfold fillA
 show ({ a with tmps := fillT a.tmps ds f } : Act).put (some d) v = _
 unfold Act.put
 simp [e]
theorem fillA_id (a : Act) (ds : List Nat) : fillA a ds (fun d => a.tmps.getD d undef) = a := by
 unfold fillA
 have e : fillT a.tmps ds (fun d => a.tmps.getD d undef) = a.tmps := by
  apply Array.ext_getElem?
  intro j
  rw [fillT_get]
  split
  ·
   rename_i h
   rw [Array.getElem?_eq_getElem h.2, Array.getD_eq_getD_getElem?, Array.getElem?_eq_getElem h.2]
   rfl
  ·
   rfl
 rw [e]
def AllM (p : Nat → Prop) : List Nat → Prop
 | [] => True
 | i :: l => p i ∧ AllM p l
theorem AllM.at {p : Nat → Prop} {i : Nat} : ∀ {l : List Nat}, AllM p l → i ∈ l → p i
 | j :: l, h, hi => by
  rcases List.mem_cons.1 hi with rfl | hi
  ·
   exact h.1
  ·
   exact h.2.at hi
def modOk (ops : Array Oper) (l0 lM : Array Bool) (M N E : List Nat) (dst : Nat → Nat) (preds : Nat → List Nat) (ds : List Nat) : Bool :=
 l0.size == ops.size && lM.size == ops.size &&
 (List.range ops.size).all (fun i => lM.getD i true == (l0.getD i true || M.contains i)) &&
 M.all (fun i => l0.getD i true == false && (match ops[i]? with
  | some o => o.dst == some (dst i) && ds.contains (dst i) && (preds i).all (fun j => M.contains j && o.after.any (fun e => Region.binds .any e && e.on == j)) &&
    o.after.all (fun e => !Region.binds .any e || l0.getD e.on false || (M.contains e.on && Nat.blt e.on i))
  | none => false)) &&
 (List.range ops.size).all (fun i => l0.getD i true || M.contains i || (match ops[i]? with
  | some o => o.after.any (fun e => Region.binds .any e && (l0.getD e.on true == false && M.contains e.on == false)) || M.all (fun j => o.after.any (fun e => Region.binds .any e && e.on == j) || M.any (fun l => Nat.blt j l && (match ops[l]? with
    | some o' => o'.after.any (fun e => Region.binds .any e && e.on == j)
    | none => false)) || (E.contains j && (match ops[j]? with
    | some oj => oj.after.all (fun e => !Region.binds .any e || l0.getD e.on false || o.after.any (fun e' => Region.binds .any e' && e'.on == e.on))
    | none => false)))
  | none => false)) &&
 M.all (fun i => M.all (fun j => i == j || dst i != dst j)) && M.all (fun i => N.contains i || E.contains i) && Region.noSelect ops &&
 E.all (fun i => M.contains i && (match ops[i]? with
  | some oi => (List.range ops.size).all (fun j => j == i || oi.after.any (fun e => Region.binds .any e && e.on == j) || (match ops[j]? with
   | some oj => oj.after.any (fun e => Region.binds .any e && e.on == i) || oi.apart ops oj
   | none => true))
  | none => false))
section
variable {P : Program} {ops : Array Oper} {Q : Exit → Act → World → Prop}
def StepM (P : Program) (ops : Array Oper) (Q : Exit → Act → World → Prop) (a0 : Act) (ds : List Nat) (W0 : World) (PV : Nat → Value → World → Prop) (dst : Nat → Nat) (preds : Nat → List Nat) (al : List Nat) (i : Nat) : Prop :=
 ∀ o, ops[i]? = some o → ∀ f w, Below W0.heap.size W0 w → (∀ j, j ∈ preds i → PV j (f (dst j)) w) →
  ∀ K' : Act → World → Prop, Shut (∀ a' w'' v, a' = (fillA a0 ds f).put o.dst v → PV i v w'' → (i ∈ al → v = .pointer (some ⟨w.heap.size, 0, none⟩)) → Below w.heap.size w w'' → K' a' w'') →
   if Region.wanted o (yielded ops (fillA a0 ds f).tmps) = true then Oper.wp P o (fillA a0 ds f) w K' Q else K' ((fillA a0 ds f).put o.dst undef) w
theorem StepM.of {a0 : Act} {ds : List Nat} {W0 : World} {PV : Nat → Value → World → Prop} {dst : Nat → Nat} {preds : Nat → List Nat} {al : List Nat} {i : Nat} {o : Oper} (ho : ops[i]? = some o)
  (h : ∀ f w, Below W0.heap.size W0 w → (∀ j, j ∈ preds i → PV j (f (dst j)) w) →
   ∀ K' : Act → World → Prop, Shut (∀ a' w'' v, a' = (fillA a0 ds f).put o.dst v → PV i v w'' → (i ∈ al → v = .pointer (some ⟨w.heap.size, 0, none⟩)) → Below w.heap.size w w'' → K' a' w'') →
   if Region.wanted o (yielded ops (fillA a0 ds f).tmps) = true then Oper.wp P o (fillA a0 ds f) w K' Q else K' ((fillA a0 ds f).put o.dst undef) w) : StepM P ops Q a0 ds W0 PV dst preds al i :=
 fun o' ho' => by rw [ho] at ho'; cases ho'; exact h
def EagerM (P : Program) (ops : Array Oper) (a0 : Act) (ds : List Nat) (W0 : World) (PV : Nat → Value → World → Prop) (dst : Nat → Nat) (preds : Nat → List Nat) (i : Nat) : Prop :=
 ∀ o, ops[i]? = some o → ∀ f w, Below W0.heap.size W0 w → (∀ j, j ∈ preds i → PV j (f (dst j)) w) →
  ∃ v, PV i v w ∧ Region.wanted o (yielded ops (fillA a0 ds f).tmps) = true ∧ ∀ u, (execOp (fillA a0 ds f).eval o).run P u = .ok (.value v) u
theorem EagerM.of {a0 : Act} {ds : List Nat} {W0 : World} {PV : Nat → Value → World → Prop} {dst : Nat → Nat} {preds : Nat → List Nat} {i : Nat} {o : Oper} (ho : ops[i]? = some o)
  (h : ∀ f w, Below W0.heap.size W0 w → (∀ j, j ∈ preds i → PV j (f (dst j)) w) →
   ∃ v, PV i v w ∧ Region.wanted o (yielded ops (fillA a0 ds f).tmps) = true ∧ ∀ u, (execOp (fillA a0 ds f).eval o).run P u = .ok (.value v) u) : EagerM P ops a0 ds W0 PV dst preds i :=
 fun o' ho' => by rw [ho] at ho'; cases ho'; exact h
theorem wpAnyH_mod {S : World → Prop} {a0 : Act} {ds : List Nat} {l0 lM : Array Bool} {M N E : List Nat} {F : Nat} {W0 : World} {PV : Nat → Value → World → Prop} {dst : Nat → Nat} {preds : Nat → List Nat} {al : List Nat}
  (hchk : modOk ops l0 lM M N E dst preds ds = true) (hQ : ∀ c a (d : Nat) v w, Q (.panic c) (Act.put a (some d) v) w → Q (.panic c) a w)
  (hst : ∀ i v w w', Below w.heap.size w w' → PV i v w → PV i v w')
  (hal : ∀ i v w, i ∈ al → PV i v w → ∃ B, v = .pointer (some ⟨B, 0, none⟩) ∧ B < w.heap.size)
  (hS : ∀ w, Below W0.heap.size W0 w → S w)
  (hstep : AllM (StepM P ops Q a0 ds W0 PV dst preds al) N) (heag : AllM (EagerM P ops a0 ds W0 PV dst preds) E) (hEal : ∀ i, i ∈ E → i ∉ al)
  (hend : ∀ f w, Below W0.heap.size W0 w → (∀ i, i ∈ M → PV i (f (dst i)) w) → (∀ i j, i ∈ M → j ∈ M → i ∈ al → j ∈ al → i ≠ j → f (dst i) ≠ f (dst j)) → wpAnyH P .any ops Q S F lM (fillA a0 ds f) w) :
  ∀ (n : Nat) (U : List Nat) (listed : Array Bool) (f : Nat → Value) (w : World), U.length = n → listed.size = ops.size →
   (∀ i, i ∉ M → listed.getD i true = l0.getD i true) → (∀ i, i ∈ M → (listed.getD i true = false ↔ i ∈ U)) → (∀ i, i ∈ U → i ∈ M) → U.Nodup → Below W0.heap.size W0 w →
   (∀ i, i ∈ M → i ∉ U → PV i (f (dst i)) w) → (∀ i j, i ∈ M → j ∈ M → i ∉ U → j ∉ U → i ∈ al → j ∈ al → i ≠ j → f (dst i) ≠ f (dst j)) →
   (∀ i, i ∈ M → i ∉ U → ∀ o, ops[i]? = some o → ∀ e, e ∈ o.after → Region.binds .any e = true → e.on ∈ U → False) →
   wpAnyH P .any ops Q S (F + n) listed (fillA a0 ds f) w := by
 unfold modOk at hchk
 simp only [Bool.and_eq_true, beq_iff_eq, List.all_eq_true, List.mem_range] at hchk
 obtain ⟨⟨⟨⟨⟨⟨⟨⟨k1, k2⟩, k3⟩, k4⟩, k5⟩, k6⟩, k7⟩, k8⟩, k9⟩ := hchk
 intro n
 induction n with
 | zero =>
  intro U listed f w hU hsz hout hin hsub hnd hb hp hdist hdc
  obtain rfl : U = [] := List.eq_nil_of_length_eq_zero hU
  have e : listed = lM := by
   apply Array.ext (by omega)
   intro i h1 h2
   have hi : i < ops.size := by omega
   have g1 : listed.getD i true = listed[i] := by simp [Array.getD_eq_getD_getElem?, h1]
   have g2 : lM.getD i true = lM[i] := by simp [Array.getD_eq_getD_getElem?, h2]
   rw [← g1, ← g2, k3 i hi]
   by_cases hm : i ∈ M
   ·
    have := hin i hm
    have h3 : M.contains i = true := by simpa using hm
    rw [h3, Bool.or_true]
    cases h4 : listed.getD i true with
    | true => rfl
    | false => exact absurd (this.1 h4) (by simp)
   ·
    have h3 : M.contains i = false := by simpa using hm
    rw [h3, Bool.or_false, hout i hm]
  rw [e]
  exact hend f w hb (fun i hi => hp i hi (by simp)) (fun i j h1 h2 => hdist i j h1 h2 (by simp) (by simp))
 | succ n ih =>
  intro U listed f w hU hsz hout hin hsub hnd hb hp hdist hdc
  have hpre : ∀ i, i ∈ U → i ∈ Region.ready .any ops listed → ∀ o, ops[i]? = some o → ∀ j, j ∈ preds i → PV j (f (dst j)) w := by
   intro i hiU hi o ho j hj
   have hm := hsub i hiU
   have h4 := k4 i hm
   rw [ho] at h4
   simp only [Bool.and_eq_true, beq_iff_eq] at h4
   obtain ⟨_, ⟨⟨hdst, hds⟩, hpr⟩, _⟩ := h4
   rw [List.all_eq_true] at hpr
   have h6 := hpr j hj
   simp only [Bool.and_eq_true] at h6
   obtain ⟨hjM, hja⟩ := h6
   have hjM : j ∈ M := by simpa using hjM
   refine hp j hjM (fun hjU => ?_)
   obtain ⟨_, o', ho', hall⟩ := mem_ready.1 hi
   rw [ho] at ho'
   cases ho'
   rw [Array.any_eq_true'] at hja
   obtain ⟨e, he, hbe⟩ := hja
   simp only [Bool.and_eq_true, beq_iff_eq] at hbe
   have h7 := hall e he hbe.1
   rw [hbe.2] at h7
   have h8 := (hin j hjM).2 hjU
   rw [Array.getD_eq_getD_getElem?] at h7 h8
   cases hx : listed[j]? with
   | none => rw [hx] at h7; simp at h7
   | some b => rw [hx] at h7 h8; simp at h7 h8; rw [h7] at h8; cases h8
  -- behind an operation of U that was ready
  have hgo : ∀ i, i ∈ U → i ∈ Region.ready .any ops listed → ∀ o, ops[i]? = some o → ∀ w'' v, PV i v w'' → (i ∈ al → v = .pointer (some ⟨w.heap.size, 0, none⟩)) → Below w.heap.size w w'' →
    wpAnyH P .any ops Q S (F + n) (listed.setIfInBounds i true) (fillA a0 ds (fun e => if e = dst i then v else f e)) w'' := by
   intro i hiU hi o ho w'' v hv hfresh hb'
   have hm := hsub i hiU
   have hdd : ∀ j, j ∈ M → j ≠ i → dst j ≠ dst i := fun j hj hne h => by
    have := k6 j hj i hm
    simp only [Bool.or_eq_true, beq_iff_eq, bne_iff_ne] at this
    rcases this with h1 | h1
    ·
     exact hne h1
    ·
     exact h1 h
   refine ih (U.erase i) _ _ _ (by rw [List.length_erase_of_mem hiU]; omega) (by rw [Array.size_setIfInBounds]; exact hsz) (fun j hj => ?_) (fun j hj => ?_) (fun j hj => hsub j (List.mem_of_mem_erase hj)) (hnd.erase i) (hb.trans (hb'.mono hb.size)) (fun j hj hju => ?_) (fun j l hj hl hju hlu hja hla hjl => ?_) (fun j hj hju o' ho' e he hbe heU => ?_)
   ·
    have hne : i ≠ j := fun h => hj (h ▸ hm)
    rw [getD_set_ne true hne]
    exact hout j hj
   ·
    by_cases hij : i = j
    ·
     subst hij
     have hlt : i < listed.size := by rw [hsz]; exact (Array.getElem?_eq_some_iff.1 ho).1
     constructor
     ·
      intro h
      rw [Array.getD_eq_getD_getElem?, Array.getElem?_setIfInBounds] at h
      simp [hlt] at h
     ·
      intro h
      exact absurd h (List.Nodup.not_mem_erase hnd)
    ·
     rw [getD_set_ne true hij, hin j hj, List.Nodup.mem_erase_iff hnd]
     constructor
     ·
      intro h; exact ⟨fun e => hij e.symm, h⟩
     ·
      intro h; exact h.2
   ·
    by_cases hij : j = i
    ·
     subst hij
     simpa using hv
    ·
     have := hp j hj (fun h => hju ((List.Nodup.mem_erase_iff hnd).2 ⟨hij, h⟩))
     show PV j (if dst j = dst i then v else f (dst j)) w''
     rw [if_neg (hdd j hj hij)]
     exact hst j _ _ _ hb' this
   ·
    show (if dst j = dst i then v else f (dst j)) ≠ (if dst l = dst i then v else f (dst l))
    have hnew : ∀ k, k ∈ M → k ≠ i → k ∉ U.erase i → k ∈ al → i ∈ al → f (dst k) ≠ v := fun k hk hki hku hka hia => by
     have h1 := hp k hk (fun h => hku ((List.Nodup.mem_erase_iff hnd).2 ⟨hki, h⟩))
     obtain ⟨B, hB, hlt⟩ := hal k _ _ hka h1
     rw [hB, hfresh hia]
     intro h
     have h2 := congrArg (fun v => match v with | Value.pointer (some a) => a.block | _ => 0) h
     dsimp only at h2
     omega
    by_cases h1 : j = i
    ·
     subst h1
     rw [if_pos rfl, if_neg (hdd l hl (fun h => hjl h.symm))]
     exact fun h => hnew l hl (fun h => hjl h.symm) hlu hla hja h.symm
    ·
     rw [if_neg (hdd j hj h1)]
     by_cases h2 : l = i
     ·
      subst h2
      rw [if_pos rfl]
      exact hnew j hj h1 hju hja hla
     ·
      rw [if_neg (hdd l hl h2)]
      exact hdist j l hj hl (fun h => hju ((List.Nodup.mem_erase_iff hnd).2 ⟨h1, h⟩)) (fun h => hlu ((List.Nodup.mem_erase_iff hnd).2 ⟨h2, h⟩)) hja hla hjl
   ·
    have heU2 : e.on ∈ U := List.mem_of_mem_erase heU
    by_cases hij : j = i
    ·
     subst hij
     obtain ⟨_, o2, ho2, hall⟩ := mem_ready.1 hi
     rw [ho'] at ho2
     cases ho2
     have h7 := hall e he hbe
     have h8 := (hin e.on (hsub _ heU2)).2 heU2
     rw [Array.getD_eq_getD_getElem?] at h7 h8
     cases hx : listed[e.on]? with
     | none => rw [hx] at h7; simp at h7
     | some b => rw [hx] at h7 h8; simp at h7 h8; rw [h7] at h8; cases h8
    ·
     exact hdc j hj (fun h => hju ((List.Nodup.mem_erase_iff hnd).2 ⟨hij, h⟩)) o' ho' e he hbe heU2
  have hdstd : ∀ i, i ∈ M → ∀ o, ops[i]? = some o → o.dst = some (dst i) ∧ dst i ∈ ds := by
   intro i hm o ho
   have h4 := k4 i hm
   rw [ho] at h4
   simp only [Bool.and_eq_true, beq_iff_eq] at h4
   obtain ⟨_, ⟨⟨hdst, hds⟩, hpr⟩, _⟩ := h4
   exact ⟨hdst, by simpa using hds⟩
  by_cases hE : ∃ i, i ∈ E ∧ i ∈ U ∧ i ∈ Region.ready .any ops listed
  ·
   obtain ⟨i, hiE, hiU, hi⟩ := hE
   obtain ⟨_, o, ho, _⟩ := mem_ready.1 hi
   obtain ⟨hdst, hds⟩ := hdstd i (hsub i hiU) o ho
   obtain ⟨v, hv, hw, hrun⟩ := heag.at hiE o ho f w hb (hpre i hiU hi o ho)
   refine wpAnyH_first (v := v) ho (Region.noSelect_spec k8) (fun c a w h => hQ c a (dst i) v w (by rw [hdst] at h; exact h)) (F + n) listed _ w ?_ hi (.inl ⟨hw, fun u _ => hrun u⟩) (hS _ hb) ?_
   ·
    intro j oj hoj hne hun hno
    have h9 := (k9 i hiE).2
    rw [ho] at h9
    simp only [List.all_eq_true, List.mem_range] at h9
    have h10 := h9 j (Array.getElem?_eq_some_iff.1 hoj).1
    rw [hoj] at h10
    simp only [Bool.or_eq_true, beq_iff_eq, hne, false_or] at h10
    rcases h10 with h10 | h10 | h10
    ·
     exfalso
     rw [Array.any_eq_true'] at h10
     obtain ⟨e, he, hbe⟩ := h10
     simp only [Bool.and_eq_true, beq_iff_eq] at hbe
     obtain ⟨_, o2, ho2, hall⟩ := mem_ready.1 hi
     rw [ho] at ho2
     cases ho2
     have h11 := hall e he hbe.1
     rw [hbe.2] at h11
     rw [Array.getD_eq_getD_getElem?] at h11 hun
     cases hx : listed[j]? with
     | none => rw [hx] at h11; simp at h11
     | some b => rw [hx] at h11 hun; simp at h11 hun; rw [h11] at hun; cases hun
    ·
     exfalso
     rw [Array.any_eq_true'] at h10
     obtain ⟨e, he, hbe⟩ := h10
     simp only [Bool.and_eq_true, beq_iff_eq] at hbe
     exact hno e he hbe.1 hbe.2
    ·
     exact h10
   ·
    rw [hdst, fillA_put hds]
    exact hgo i hiU hi o ho w v hv (fun h => absurd h (hEal i hiE)) (Below.refl _ _)
  ·
   -- what is ready lies in U
   have hready : ∀ i, i ∈ Region.ready .any ops listed → i ∈ U := by
    intro i hi
    obtain ⟨g1, o, ho, hall⟩ := mem_ready.1 hi
    by_cases hm : i ∈ M
    ·
     exact (hin i hm).1 g1
    ·
     exfalso
     have hlt : i < ops.size := (Array.getElem?_eq_some_iff.1 ho).1
     have h5 := k5 i hlt
     rw [hout i hm] at g1
     have h3 : M.contains i = false := by simpa using hm
     rw [g1, h3, ho] at h5
     simp only [Bool.false_or] at h5
     rw [Bool.or_eq_true] at h5
     rcases h5 with h5 | h5
     ·
      rw [Array.any_eq_true'] at h5
      obtain ⟨e, he, hbe⟩ := h5
      simp only [Bool.and_eq_true, beq_iff_eq] at hbe
      obtain ⟨hb1, hb2, hb3⟩ := hbe
      have h7 := hall e he hb1
      have hem : e.on ∉ M := by simpa using hb3
      have h8 := hout e.on hem
      rw [hb2] at h8
      rw [Array.getD_eq_getD_getElem?] at h7 h8
      cases hx : listed[e.on]? with
      | none => rw [hx] at h7; simp at h7
      | some b => rw [hx] at h7 h8; simp at h7 h8; rw [h7] at h8; cases h8
     rw [List.all_eq_true] at h5
     have hne : U ≠ [] := by intro h; rw [h] at hU; simp at hU
     have hu : U.max hne ∈ U := List.max_mem hne
     have hmax : ∀ j, j ∈ U → j ≤ U.max hne := fun j hj => List.le_max_of_mem hj
     generalize U.max hne = u at hu hmax
     have h6 := h5 u (hsub u hu)
     rw [Bool.or_eq_true, Bool.or_eq_true] at h6
     rcases h6 with (h6 | h6) | h6
     ·
      rw [Array.any_eq_true'] at h6
      obtain ⟨e, he, hbe⟩ := h6
      simp only [Bool.and_eq_true, beq_iff_eq] at hbe
      have h7 := hall e he hbe.1
      rw [hbe.2] at h7
      have h8 := (hin u (hsub u hu)).2 hu
      rw [Array.getD_eq_getD_getElem?] at h7 h8
      cases hx : listed[u]? with
      | none => rw [hx] at h7; simp at h7
      | some b => rw [hx] at h7 h8; simp at h7 h8; rw [h7] at h8; cases h8
     ·
      rw [List.any_eq_true] at h6
      obtain ⟨l, hl, h6⟩ := h6
      rw [Bool.and_eq_true] at h6
      obtain ⟨h6a, h6b⟩ := h6
      have hlt2 : u < l := by simpa using h6a
      have hlu : l ∉ U := fun h => by have := hmax l h; omega
      cases hol : ops[l]? with
      | none => rw [hol] at h6b; simp at h6b
      | some o' =>
       rw [hol] at h6b
       simp only [Array.any_eq_true'] at h6b
       obtain ⟨e, he, hbe⟩ := h6b
       simp only [Bool.and_eq_true, beq_iff_eq] at hbe
       exact hdc l hl hlu o' hol e he hbe.1 (hbe.2 ▸ hu)
     ·
      rw [Bool.and_eq_true] at h6
      obtain ⟨h6a, h6b⟩ := h6
      cases hou : ops[u]? with
      | none => rw [hou] at h6b; simp at h6b
      | some ou =>
       rw [hou] at h6b
       simp only [Array.all_eq_true_iff_forall_mem] at h6b
       refine hE ⟨u, by simpa using h6a, hu, mem_ready.2 ⟨(hin u (hsub u hu)).2 hu, ou, hou, fun e he hbe => ?_⟩⟩
       have h7 := h6b e he
       rw [hbe] at h7
       simp only [Bool.not_true, Bool.false_or, Bool.or_eq_true] at h7
       rcases h7 with h7 | h7
       ·
        by_cases hem : e.on ∈ M
        ·
         exfalso
         have h9 := (k4 e.on hem).1
         rw [Array.getD_eq_getD_getElem?] at h7 h9
         cases hx : l0[e.on]? with
         | none => rw [hx] at h7; simp at h7
         | some b => rw [hx] at h7 h9; simp at h7 h9; rw [h7] at h9; cases h9
        ·
         have h13 : l0.getD e.on true = true ∧ e.on < l0.size := by
          rw [Array.getD_eq_getD_getElem?] at h7 ⊢
          cases hx : l0[e.on]? with
          | none => rw [hx] at h7; simp at h7
          | some b => rw [hx] at h7; exact ⟨by simpa using h7, (Array.getElem?_eq_some_iff.1 hx).1⟩
         have h14 := hout e.on hem
         rw [h13.1] at h14
         rw [Array.getD_eq_getD_getElem?] at h14 ⊢
         have h15 : e.on < listed.size := by omega
         rw [Array.getElem?_eq_getElem h15] at h14 ⊢
         simpa using h14
       ·
        rw [Array.any_eq_true'] at h7
        obtain ⟨e', he', hbe'⟩ := h7
        simp only [Bool.and_eq_true, beq_iff_eq] at hbe'
        have h8 := hall e' he' hbe'.1
        rw [hbe'.2] at h8
        exact h8
   -- something is ready: the least of U
   have hmin : ∃ i, i ∈ U ∧ ∀ j, j ∈ U → i ≤ j := by
    have hne : U ≠ [] := by intro h; rw [h] at hU; simp at hU
    refine ⟨U.min hne, List.min_mem hne, fun j hj => List.min_le_of_mem hj⟩
   have hsome : Region.ready .any ops listed ≠ [] := by
    obtain ⟨i, hi, hle⟩ := hmin
    have hm := hsub i hi
    have h4 := k4 i hm
    cases ho : ops[i]? with
    | none => rw [ho] at h4; simp at h4
    | some o =>
     rw [ho] at h4
     simp only [Bool.and_eq_true, beq_iff_eq] at h4
     obtain ⟨_, ⟨⟨_, _⟩, _⟩, h7⟩ := h4
     have : i ∈ Region.ready .any ops listed := by
      rw [mem_ready]
      refine ⟨(hin i hm).2 hi, o, ho, fun e he hbe => ?_⟩
      rw [Array.all_eq_true_iff_forall_mem] at h7
      have h8 := h7 e he
      rw [hbe] at h8
      simp only [Bool.not_true, Bool.false_or, Bool.or_eq_true, Bool.and_eq_true] at h8
      have hgd : listed.getD e.on true = true → listed.getD e.on false = true ∨ ops.size ≤ e.on := fun h => by
       rw [Array.getD_eq_getD_getElem?] at h ⊢
       cases hx : listed[e.on]? with
       | none => right; have := Array.getElem?_eq_none_iff.1 hx; omega
       | some b => left; rw [hx] at h; simpa using h
      by_cases hem : e.on ∈ M
      ·
       have hlt : e.on < i := by
        rcases h8 with h8 | h8
        ·
         exfalso
         have h9 := k4 e.on hem
         have h10 := h9.1
         rw [Array.getD_eq_getD_getElem?] at h8 h10
         cases hx : l0[e.on]? with
         | none => rw [hx] at h8; simp at h8
         | some b => rw [hx] at h8 h10; simp at h8 h10; rw [h8] at h10; cases h10
        ·
         simpa using h8.2
       have hnu : e.on ∉ U := fun h => by have := hle _ h; omega
       have h11 : listed.getD e.on true = true := by
        cases h12 : listed.getD e.on true with
        | true => rfl
        | false => exact absurd ((hin e.on hem).1 h12) hnu
       rcases hgd h11 with h | h
       ·
        exact h
       ·
        exfalso
        have := k4 e.on hem
        rw [Array.getElem?_eq_none h] at this
        simp at this
      ·
       rcases h8 with h8 | h8
       ·
        have h13 : l0.getD e.on true = true := by
         rw [Array.getD_eq_getD_getElem?] at h8 ⊢
         cases hx : l0[e.on]? with
         | none => rfl
         | some b => rw [hx] at h8; simpa using h8
        have h14 := hout e.on hem
        rw [h13] at h14
        rcases hgd h14 with h | h
        ·
         exact h
        ·
         exfalso
         rw [Array.getD_eq_getD_getElem?, Array.getElem?_eq_none (by omega)] at h8
         simp at h8
       ·
        exact absurd (by simpa using h8.1) hem
     intro h
     rw [h] at this
     cases this
   refine ⟨fun h => absurd h hsome, fun i hi => ?_⟩
   have hiU := hready i hi
   have hm := hsub i hiU
   obtain ⟨_, o, ho, _⟩ := mem_ready.1 hi
   obtain ⟨hdst, hds⟩ := hdstd i hm o ho
   refine wpOp_step ho (fun K' hK => ?_)
   have hiN : i ∈ N := by
    have := k7 i hm
    rw [Bool.or_eq_true] at this
    rcases this with h | h
    ·
     simpa using h
    ·
     exact absurd ⟨i, by simpa using h, hiU, hi⟩ hE
   refine hstep.at hiN o ho f w hb (hpre i hiU hi o ho) K' ?_
   intro a' w'' v ha' hv hfresh hb'
   refine hK _ _ ⟨hS _ (hb.trans (hb'.mono hb.size)), ?_⟩
   rw [ha', hdst, fillA_put hds]
   exact hgo i hiU hi o ho w'' v hv hfresh hb'
end
section
variable {P : Program} {ops : Array Oper} {Q : Exit → Act → World → Prop}
def pickV : List (Nat × (Value → World → Prop)) → Nat → Value → World → Prop
 | [], _ => fun _ _ => True
 | (j, p) :: l, i => if i = j then p else pickV l i
def StV : List (Nat × (Value → World → Prop)) → Prop
 | [] => True
 | (_, p) :: l => (∀ v w w', Below w.heap.size w w' → p v w → p v w') ∧ StV l
theorem StV.st : ∀ {l : List (Nat × (Value → World → Prop))}, StV l → ∀ i v w w', Below w.heap.size w w' → pickV l i v w → pickV l i v w'
 | [], _, _, _, _, _, _, _ => trivial
 | (j, p) :: l, h, i, v, w, w', hb, hp => by
  unfold pickV at hp ⊢
  split
  ·
   rename_i he; rw [if_pos he] at hp; exact h.1 v w w' hb hp
  ·
   rename_i he; rw [if_neg he] at hp; exact h.2.st i v w w' hb hp
def lookN : List (Nat × Nat) → Nat → Nat
 | [], _ => 0
 | (j, d) :: l, i => if i = j then d else lookN l i
def lookL : List (Nat × List Nat) → Nat → List Nat
 | [], _ => []
 | (j, d) :: l, i => if i = j then d else lookL l i
theorem wpAnyH_modular {S : World → Prop} {a : Act} {w : World} {fuel : Nat} {l0 : Array Bool} (M N E ds : List Nat) (lM : Array Bool) (F : Nat) (dst : List (Nat × Nat)) (preds : List (Nat × List Nat)) (al : List Nat) (pv : List (Nat × (Value → World → Prop)))
  (hf : fuel = F + M.length) (hchk : modOk ops l0 lM M N E (lookN dst) (lookL preds) ds = true) (hnd : M.Nodup) (hsz : l0.size = ops.size) (hst : StV pv)
  (hal : AllM (fun i => ∀ v w, pickV pv i v w → ∃ B, v = .pointer (some ⟨B, 0, none⟩) ∧ B < w.heap.size) al)
  (hS : ∀ w', Below w.heap.size w w' → S w')
  (hstep : AllM (StepM P ops Q a ds w (pickV pv) (lookN dst) (lookL preds) al) N) (heag : AllM (EagerM P ops a ds w (pickV pv) (lookN dst) (lookL preds)) E) (hEal : ∀ i, i ∈ E → i ∉ al)
  (hend : ∀ f w', Below w.heap.size w w' → (∀ i, i ∈ M → pickV pv i (f (lookN dst i)) w') → (∀ i j, i ∈ M → j ∈ M → i ∈ al → j ∈ al → i ≠ j → f (lookN dst i) ≠ f (lookN dst j)) → wpAnyH P .any ops Q S F lM (fillA a ds f) w') (hQ : ∀ c a (d : Nat) v w, Q (.panic c) (Act.put a (some d) v) w → Q (.panic c) a w := by exact fun _ _ _ _ _ h => h) :
  wpAnyH P .any ops Q S fuel l0 a w := by
 have k4 : ∀ i, i ∈ M → l0.getD i true = false := fun i hi => by
  have h := hchk
  unfold modOk at h
  simp only [Bool.and_eq_true, beq_iff_eq, List.all_eq_true] at h
  exact (h.1.1.1.1.1.2 i hi).1
 have h := wpAnyH_mod hchk hQ hst.st (fun i v w hi h => hal.at hi v w h) hS hstep heag hEal hend M.length M l0 (fun d => a.tmps.getD d undef) w rfl hsz (fun _ _ => rfl) (fun i hi => ⟨fun _ => hi, fun _ => k4 i hi⟩) (fun _ h => h) hnd (Below.refl _ _) (fun i hi hn => absurd hi hn) (fun i j hi _ hn => absurd hi hn) (fun i hi hn => absurd hi hn)
 rw [fillA_id] at h
 rw [hf]
 exact h
end
theorem Sx.addBox {w0 w : World} {bs : List Bx} {fs : List Fx} (h : Sx w0 w bs fs) {B T : Nat} {cs : Array Value} (hB : w.heap[B]? = some (.cells cs T (0, 0))) (h1 : w0.heap.size ≤ B) (hp : cs.toList.all plainV = true) (hn : ∀ b, b ∈ bs → b.1 ≠ B) : Sx w0 w ((B, cs, T) :: bs) fs := by
 refine ⟨h.bel, fun i b hi => ?_, ?_, h.fra⟩
 ·
  match i, hi with
  | 0, hi => simp at hi; subst hi; exact ⟨hB, h1, hp⟩
  | i + 1, hi => exact h.box i b (by simpa using hi)
 ·
  rw [List.map_cons, List.nodup_cons]
  refine ⟨fun hm => ?_, h.nod⟩
  obtain ⟨b, hb1, hb2⟩ := List.mem_map.1 hm
  exact hn b hb1 hb2
theorem Sx.lt {w0 w : World} {bs : List Bx} {fs : List Fx} (h : Sx w0 w bs fs) : ∀ b, b ∈ bs → b.1 < w.heap.size := fun b hb => by
 obtain ⟨i, hi⟩ := List.mem_iff_getElem?.1 hb
 exact blk_lt (h.box i b hi).1
end Go.Proofs.YthhnkobkdhjfgaaGreat

namespace Go.Proofs.YthhnkobkdhjfgaaGreat
open Go.RowKit

theorem loN_sz {a b : Rat} {k : Nat} (h1 : szR a k) (h2 : szR b k) : szR (loQ a b) k := by unfold loQ; split <;> assumption
theorem hiN_sz {a b : Rat} {k : Nat} (h1 : szR a k) (h2 : szR b k) : szR (hiQ a b) k := by unfold hiQ; split <;> assumption
end Go.Proofs.YthhnkobkdhjfgaaGreat

namespace Go.Proofs.YthhnkobkdhjfgaaGreat
open Go.RowKit

theorem Sx.to {w0 w W : World} {bs cs : List Bx} {fs : List Fx} (h : Sx w0 w bs fs) (e : w = W) (eb : bs = cs) : Sx w0 W cs fs := by subst e; subst eb; exact h
theorem nbs : (∀ {α : Type} {xs : List α} {i : Nat} (h : i < xs.toArray.size), xs.toArray[i] = xs[i]) ∧ (∀ {α : Type} (a : α) (l : List α) (h : 0 < (a :: l).length), (a :: l)[0] = a) ∧ (∀ {α : Type} (a : α) (l : List α) (i : Nat) (h : i + 1 < (a :: l).length), (a :: l)[i + 1] = l[i]'(by simpa using h)) ∧ (∀ {α : Type} (l : List α) (i : Nat) (a : α), l.toArray.setIfInBounds i a = (l.set i a).toArray) ∧ (∀ {α : Type} {x : α} {xs : List α} {a : α}, (x :: xs).set 0 a = a :: xs) ∧ ∀ {α : Type} {x : α} {xs : List α} {i : Nat} {a : α}, (x :: xs).set (i + 1) a = x :: xs.set i a :=
 ⟨nb1, nb2, nb3, nb4, nb5, nb6⟩
section
variable {P : Program} {ops : Array Oper} {Q : Exit → Act → World → Prop} {md : Region.Mode} {S : World → Prop}
theorem tkB {i : Nat} {oi : Oper} {v : Value} {fuel : Nat} {listed : Array Bool} {a : Act} {w : World} (hi : ops[i]? = some oi) (hy : ∀ w, S w → (execOp a.eval oi).run P w = .ok (.value v) w)
  (h : wpAnyH P md ops Q S fuel (listed.setIfInBounds i true) (a.put oi.dst v) w) (hS : S w := by assumption) (hw : Region.wanted oi (yielded ops a.tmps) = true := by first | rfl | kernel_rfl) (hs : Region.noSelect ops = true := by kernel_rfl) (hf : Region.free md ops listed i = true := by kernel_rfl)
  (hr : (Region.ready md ops listed).contains i = true := by kernel_rfl) (hQ : ∀ c a w, Q (.panic c) (a.put oi.dst v) w → Q (.panic c) a w := by exact fun _ _ _ h => h) : wpAnyH P md ops Q S (fuel + 1) listed a w :=
 tkA hi (Or.inl ⟨hw, hy⟩) hS h hs hf hr hQ
theorem tkC {i : Nat} {oi : Oper} {fuel : Nat} {listed : Array Bool} {a : Act} {w : World} (hi : ops[i]? = some oi)
  (h : wpAnyH P md ops Q S fuel (listed.setIfInBounds i true) (a.put oi.dst undef) w) (hS : S w := by assumption) (hw : Region.wanted oi (yielded ops a.tmps) = false := by first | rfl | kernel_rfl) (hs : Region.noSelect ops = true := by kernel_rfl) (hf : Region.free md ops listed i = true := by kernel_rfl)
  (hr : (Region.ready md ops listed).contains i = true := by kernel_rfl) (hQ : ∀ c a w, Q (.panic c) (a.put oi.dst undef) w → Q (.panic c) a w := by exact fun _ _ _ h => h) : wpAnyH P md ops Q S (fuel + 1) listed a w :=
 tkA (v := undef) hi (Or.inr ⟨hw, rfl⟩) hS h hs hf hr hQ
end
theorem loQ_le {a b : Rat} (h : a ≤ b) : loQ a b = a := if_pos (cmp_le0.2 h)
theorem hiQ_le {a b : Rat} (h : a ≤ b) : hiQ a b = b := by
 unfold hiQ
 have := @cmp_lt0 a b
 split
 ·
  grind
 ·
  rfl
theorem loQ_ge {a b : Rat} (h : b ≤ a) : loQ a b = b := by
 unfold loQ
 have := @cmp_le0 a b
 split
 ·
  grind
 ·
  rfl
theorem hiQ_ge {a b : Rat} (h : b ≤ a) : hiQ a b = a := by
 unfold hiQ
 have := @cmp_lt0 a b
 split
 ·
  rfl
 ·
  grind
theorem lo_le_l (a b : Rat) : loQ a b ≤ a := by rcases (@Rat.le_total a b) with h | h; rw [loQ_le h]; exact Rat.le_refl; rw [loQ_ge h]; exact h
theorem lo_le_r (a b : Rat) : loQ a b ≤ b := by rcases (@Rat.le_total a b) with h | h; rw [loQ_le h]; exact h; rw [loQ_ge h]; exact Rat.le_refl
theorem hi_ge_l (a b : Rat) : a ≤ hiQ a b := by rcases (@Rat.le_total a b) with h | h; rw [hiQ_le h]; exact h; rw [hiQ_ge h]; exact Rat.le_refl
theorem hi_ge_r (a b : Rat) : b ≤ hiQ a b := by rcases (@Rat.le_total a b) with h | h; rw [hiQ_le h]; exact Rat.le_refl; rw [hiQ_ge h]; exact h
theorem lo_ge {a b c : Rat} (h1 : c ≤ a) (h2 : c ≤ b) : c ≤ loQ a b := by rcases (@Rat.le_total a b) with h | h; rw [loQ_le h]; exact h1; rw [loQ_ge h]; exact h2
theorem hi_le {a b c : Rat} (h1 : a ≤ c) (h2 : b ≤ c) : hiQ a b ≤ c := by rcases (@Rat.le_total a b) with h | h; rw [hiQ_le h]; exact h2; rw [hiQ_ge h]; exact h1

theorem lo_assoc (a b c d : Rat) : loQ (loQ (loQ (loQ a a) b) c) d = loQ (loQ a b) (loQ c d) := by
 refine Rat.le_antisymm ?_ ?_
 ·
  have h1 := lo_le_l (loQ (loQ (loQ a a) b) c) d
  have h2 := lo_le_r (loQ (loQ (loQ a a) b) c) d
  have h3 := lo_le_l (loQ (loQ a a) b) c
  have h4 := lo_le_r (loQ (loQ a a) b) c
  have h5 := lo_le_l (loQ a a) b
  have h6 := lo_le_r (loQ a a) b
  have h7 := lo_le_l a a
  exact lo_ge (lo_ge (by grind) (by grind)) (lo_ge (by grind) (by grind))
 ·
  have h1 := lo_le_l (loQ a b) (loQ c d)
  have h2 := lo_le_r (loQ a b) (loQ c d)
  have h3 := lo_le_l a b
  have h4 := lo_le_r a b
  have h5 := lo_le_l c d
  have h6 := lo_le_r c d
  exact lo_ge (lo_ge (lo_ge (lo_ge (by grind) (by grind)) (by grind)) (by grind)) (by grind)
theorem hi_assoc (a b c d : Rat) : hiQ (hiQ (hiQ (hiQ a a) b) c) d = hiQ (hiQ a b) (hiQ c d) := by
 refine Rat.le_antisymm ?_ ?_
 ·
  have h1 := hi_ge_l (hiQ a b) (hiQ c d)
  have h2 := hi_ge_r (hiQ a b) (hiQ c d)
  have h3 := hi_ge_l a b
  have h4 := hi_ge_r a b
  have h5 := hi_ge_l c d
  have h6 := hi_ge_r c d
  exact hi_le (hi_le (hi_le (hi_le (by grind) (by grind)) (by grind)) (by grind)) (by grind)
 ·
  have h1 := hi_ge_l (hiQ (hiQ (hiQ a a) b) c) d
  have h2 := hi_ge_r (hiQ (hiQ (hiQ a a) b) c) d
  have h3 := hi_ge_l (hiQ (hiQ a a) b) c
  have h4 := hi_ge_r (hiQ (hiQ a a) b) c
  have h5 := hi_ge_l (hiQ a a) b
  have h6 := hi_ge_r (hiQ a a) b
  have h7 := hi_ge_l a a
  exact hi_le (hi_le (by grind) (by grind)) (hi_le (by grind) (by grind))
theorem best_lo {a b c d : Rat} (h1 : a ≤ b) (h2 : c ≤ d) : bestUp ltB (fun i => [a, b, c, d].getD i 0) 3 = loQ a c := by
 have e1 : ltB b a = false := decide_eq_false (by rw [cmp_lt0]; grind)
 show (if ltB d (if ltB c (if ltB b a then b else a) then c else (if ltB b a then b else a)) then d else (if ltB c (if ltB b a then b else a) then c else (if ltB b a then b else a))) = _
 rw [e1]
 simp only [Bool.false_eq_true, if_false]
 rcases (@Rat.le_total a c) with h | h
 ·
  have e2 : ltB c a = false := decide_eq_false (by rw [cmp_lt0]; grind)
  have e3 : ltB d a = false := decide_eq_false (by rw [cmp_lt0]; grind)
  rw [e2, loQ_le h]
  simp [e3]
 ·
  rw [loQ_ge h]
  have e3 : ltB d c = false := decide_eq_false (by rw [cmp_lt0]; grind)
  by_cases hc : ltB c a = true
  ·
   rw [if_pos hc, e3]; rfl
  ·
   rw [if_neg hc]
   have hca : ¬ c < a := fun hx => hc (decide_eq_true (cmp_lt0.2 hx))
   obtain rfl : a = c := by grind
   rw [e3]; rfl
theorem best_hi {a b c d : Rat} (h1 : a ≤ b) (h2 : c ≤ d) : bestUp gtB (fun i => [a, b, c, d].getD i 0) 3 = hiQ b d := by
 have g : ∀ x y : Rat, gtB x y = true ↔ y < x := fun x y => by
  unfold gtB
  rw [decide_eq_true_iff]
  have := @cmp_le0 x y
  constructor
  ·
   intro h; grind
  ·
   intro h; have : ¬ cmpR x y ≤ 0 := fun hx => by grind
   omega
 show (if gtB d (if gtB c (if gtB b a then b else a) then c else (if gtB b a then b else a)) then d else (if gtB c (if gtB b a then b else a) then c else (if gtB b a then b else a))) = _
 have e1 : (if gtB b a = true then b else a) = b := by
  by_cases hb : gtB b a = true
  ·
   rw [if_pos hb]
  ·
   rw [if_neg hb]; rw [g] at hb; grind
 rw [e1]
 rcases (@Rat.le_total b d) with h | h
 ·
  rw [hiQ_le h]
  by_cases hc : gtB c b = true
  ·
   rw [if_pos hc]
   by_cases hd : gtB d c = true
   ·
    rw [if_pos hd]
   ·
    rw [if_neg hd]; rw [g] at hd; grind
  ·
   rw [if_neg hc]
   by_cases hd : gtB d b = true
   ·
    rw [if_pos hd]
   ·
    rw [if_neg hd]; rw [g] at hd; grind
 ·
  rw [hiQ_ge h]
  have hc : ¬ gtB c b = true := by rw [g]; grind
  rw [if_neg hc]
  have hd : ¬ gtB d b = true := by rw [g]; grind
  rw [if_neg hd]
theorem down_bd_sz {x : Rat} {k B : Nat} (hk : k ≤ 256) (hB : B ≤ 18446744073709551616) (h0 : -((B : Int) : Rat) ≤ x) (h1 : x ≤ ((B : Int) : Rat)) : szR (downQ x k) 30 := by
 rw [← floor_down, floorQ_eq]
 refine szR_mono (szR_mul (j := 6) (szR_int ?_ (by omega)) (szR_pw2 (show 0 ≤ 256 by omega) hk)) (by omega)
 have e1 := Rat.mul_le_mul_of_nonneg_right h0 (Rat.le_of_lt (pw2_pos1 k))
 have e2 := Rat.mul_le_mul_of_nonneg_right h1 (Rat.le_of_lt (pw2_pos1 k))
 have f1 : (-((B * 2 ^ k : Nat) : Int)) ≤ (x * pw2 k 0).floor := Rat.le_floor_iff.2 (by rw [Rat.intCast_neg, Int.natCast_mul, Rat.intCast_mul, ← pw2_nat]; grind)
 have f2 : (x * pw2 k 0).floor ≤ ((B * 2 ^ k : Nat) : Int) := Rat.intCast_le_intCast.1 (by rw [Int.natCast_mul, Rat.intCast_mul, ← pw2_nat]; have := Rat.floor_le (x * pw2 k 0); grind)
 have h2 : 2 ^ k ≤ 2 ^ 256 := Nat.pow_le_pow_right (by omega) hk
 have h4 : B * 2 ^ k ≤ 18446744073709551616 * 2 ^ 256 := Nat.mul_le_mul hB h2
 have h3 : 18446744073709551616 * 2 ^ 256 < b64 ^ 6 := by unfold b64; decide +kernel
 omega
theorem up_bd_sz {x : Rat} {k B : Nat} (hk : k ≤ 256) (hB : B ≤ 18446744073709551616) (h0 : -((B : Int) : Rat) ≤ x) (h1 : x ≤ ((B : Int) : Rat)) : szR (upQ x k) 30 := by
 unfold upQ
 exact szR_neg (down_bd_sz hk hB (by grind) (by grind))
def bdQ (B : Nat) (x : Rat) : Prop := -((B : Int) : Rat) ≤ x ∧ x ≤ ((B : Int) : Rat)
theorem bdQ_lo {B : Nat} {a b : Rat} (h1 : bdQ B a) (h2 : bdQ B b) : bdQ B (loQ a b) := by unfold loQ; split <;> assumption
theorem bdQ_hi {B : Nat} {a b : Rat} (h1 : bdQ B a) (h2 : bdQ B b) : bdQ B (hiQ a b) := by unfold hiQ; split <;> assumption
theorem bdQ_down {B k : Nat} {a : Rat} (h : bdQ B a) : bdQ B (downQ a k) :=
 ⟨by have := down_int (n := -(B : Int)) (x := a) (by rw [Rat.intCast_neg]; exact h.1) k; rw [Rat.intCast_neg] at this; exact this, Rat.le_trans (down_le a k) h.2⟩
theorem bdQ_up {B k : Nat} {a : Rat} (h : bdQ B a) : bdQ B (upQ a k) := ⟨Rat.le_trans h.1 (up_ge a k), up_int h.2 k⟩
def towQ (t l a : Rat) : Rat := t + l * (a - t)
theorem bdQ_tow {B : Nat} {t l a : Rat} (ht : bdQ B t) (ha : bdQ B a) (h0 : 0 ≤ l) (h1 : l ≤ 1) : bdQ B (towQ t l a) := by
 obtain ⟨t0, t1⟩ := ht
 obtain ⟨a0, a1⟩ := ha
 unfold towQ bdQ
 generalize ((B : Int) : Rat) = M at *
 have g1 : 0 ≤ l * (M - a) := Rat.mul_nonneg h0 (by grind)
 have g2 : 0 ≤ (1 - l) * (M - t) := Rat.mul_nonneg (by grind) (by grind)
 have g3 : 0 ≤ l * (M + a) := Rat.mul_nonneg h0 (by grind)
 have g4 : 0 ≤ (1 - l) * (M + t) := Rat.mul_nonneg (by grind) (by grind)
 constructor <;> grind
def flLo (t0 t1 l0 l1 a : Rat) : Rat := loQ (loQ (towQ t0 l0 a) (towQ t0 l1 a)) (loQ (towQ t1 l0 a) (towQ t1 l1 a))
def flHi (t0 t1 l0 l1 a : Rat) : Rat := hiQ (hiQ (towQ t0 l0 a) (towQ t0 l1 a)) (hiQ (towQ t1 l0 a) (towQ t1 l1 a))
def flUp (S l0 l1 : Rat) (k : Nat) (aq : List Rat) : Nat → Rat × Rat
 | 0 => (S, S)
 | n + 1 => (downQ (flLo (flUp S l0 l1 k aq n).1 (flUp S l0 l1 k aq n).2 l0 l1 (aq.getD n 0)) k, upQ (flHi (flUp S l0 l1 k aq n).1 (flUp S l0 l1 k aq n).2 l0 l1 (aq.getD n 0)) k)
def flR (S l0 l1 : Rat) (k : Nat) (aq : List Rat) (n : Nat) : List (List Rat) := (List.range n).map fun i => [(flUp S l0 l1 k aq (i + 1)).1, (flUp S l0 l1 k aq (i + 1)).2]
theorem flR_succ (S l0 l1 : Rat) (k : Nat) (aq : List Rat) (n : Nat) : flR S l0 l1 k aq (n + 1) = flR S l0 l1 k aq n ++ [[(flUp S l0 l1 k aq (n + 1)).1, (flUp S l0 l1 k aq (n + 1)).2]] := by
 unfold flR
 rw [List.range_succ, List.map_append]
 rfl
theorem flR_len (S l0 l1 : Rat) (k : Nat) (aq : List Rat) (n : Nat) : (flR S l0 l1 k aq n).length = n := by simp [flR]
theorem flR_at (S l0 l1 : Rat) (k : Nat) (aq : List Rat) {n i : Nat} (h : i < n) : (flR S l0 l1 k aq n).getD i [] = [(flUp S l0 l1 k aq (i + 1)).1, (flUp S l0 l1 k aq (i + 1)).2] := by
 unfold flR
 simp [List.getD, h]
theorem fl_ok {S l0 l1 : Rat} {k B : Nat} {aq : List Rat} (hk : k ≤ 256) (hB : B ≤ 18446744073709551616) (hS : bdQ B S) (hs : szR S 30) (h0 : 0 ≤ l0) (h01 : l0 ≤ 1) (h1 : 0 ≤ l1) (h11 : l1 ≤ 1) (ha : ∀ i, bdQ B (aq.getD i 0)) : ∀ n,
  bdQ B (flUp S l0 l1 k aq n).1 ∧ bdQ B (flUp S l0 l1 k aq n).2 ∧ szR (flUp S l0 l1 k aq n).1 30 ∧ szR (flUp S l0 l1 k aq n).2 30
 | 0 => ⟨hS, hS, hs, hs⟩
 | n + 1 => by
  obtain ⟨i1, i2, _, _⟩ := fl_ok hk hB hS hs h0 h01 h1 h11 ha n
  have b1 : bdQ B (flLo (flUp S l0 l1 k aq n).1 (flUp S l0 l1 k aq n).2 l0 l1 (aq.getD n 0)) := bdQ_lo (bdQ_lo (bdQ_tow i1 (ha n) h0 h01) (bdQ_tow i1 (ha n) h1 h11)) (bdQ_lo (bdQ_tow i2 (ha n) h0 h01) (bdQ_tow i2 (ha n) h1 h11))
  have b2 : bdQ B (flHi (flUp S l0 l1 k aq n).1 (flUp S l0 l1 k aq n).2 l0 l1 (aq.getD n 0)) := bdQ_hi (bdQ_hi (bdQ_tow i1 (ha n) h0 h01) (bdQ_tow i1 (ha n) h1 h11)) (bdQ_hi (bdQ_tow i2 (ha n) h0 h01) (bdQ_tow i2 (ha n) h1 h11))
  exact ⟨bdQ_down b1, bdQ_up b2, down_bd_sz hk hB b1.1 b1.2, up_bd_sz hk hB b2.1 b2.2⟩
def mtNow (least : Rat) (ts : List (List Rat)) : Nat → Nat
 | 0 => 0
 | n + 1 => if cmpR ((ts.getD n []).getD 0 0) least < 0 then 0 else mtNow least ts n + 1
def mtBest (least : Rat) (ts : List (List Rat)) : Nat → Nat
 | 0 => 0
 | n + 1 => max (mtBest least ts n) (mtNow least ts (n + 1))
def mtPre (S : Rat) (ts : List (List Rat)) : Nat → Rat
 | 0 => S
 | n + 1 => (ts.getD n []).getD 0 0
def mtBad (S most rise : Rat) (ts : List (List Rat)) (n : Nat) : Bool := decide (cmpR ((ts.getD n []).getD 1 0) most > 0) || decide (cmpR ((ts.getD n []).getD 1 0 - mtPre S ts n) rise > 0)
def mtOk (S most rise : Rat) (ts : List (List Rat)) : Nat → Bool
 | 0 => true
 | n + 1 => mtOk S most rise ts n && !mtBad S most rise ts n
def mtOf (S least most rise : Rat) (m : Int) (ts : List (List Rat)) : Bool := mtOk S most rise ts ts.length && decide (m ≤ (mtBest least ts ts.length : Int))
theorem mtOk_no {S most rise : Rat} {ts : List (List Rat)} {i n : Nat} (h : mtBad S most rise ts i = true) (hi : i < n) : mtOk S most rise ts n = false := by
 induction n with
 | zero => omega
 | succ n ih =>
  unfold mtOk
  rcases Nat.lt_or_ge i n with h1 | h1
  ·
   rw [ih h1]; rfl
  ·
   obtain rfl : i = n := by omega
   rw [h]; simp
theorem mtNow_le (least : Rat) (ts : List (List Rat)) : ∀ n, mtNow least ts n ≤ n
 | 0 => Nat.le_refl _
 | n + 1 => by
  have := mtNow_le least ts n
  unfold mtNow
  split <;> omega
theorem mtBest_le (least : Rat) (ts : List (List Rat)) : ∀ n, mtBest least ts n ≤ n
 | 0 => Nat.le_refl _
 | n + 1 => by
  have := mtBest_le least ts n
  have := mtNow_le least ts (n + 1)
  unfold mtBest
  omega
def ndErr (least most rise : Rat) (m : Int) : Int := if m < 1 ∨ 256 < m ∨ sgnI (decide (rise.num < 0)) rise.num.natAbs < 0 ∨ cmpR least most > 0 then 1 else 0
def flErr (l0 l1 : Rat) (n : Nat) : Int := if partB l0 l1 = false then 1 else if 256 < n then 4 else 0
def nxE (t0 t1 l0 l1 a : Rat) : Nat → Rat
 | 0 => towQ t0 l0 a
 | 1 => towQ t0 l1 a
 | 2 => towQ t1 l0 a
 | _ => towQ t1 l1 a
def nxL (t0 t1 l0 l1 a : Rat) : Nat → Rat
 | 0 => 0
 | 1 => loQ (towQ t0 l0 a) (towQ t0 l0 a)
 | n + 2 => loQ (nxL t0 t1 l0 l1 a (n + 1)) (nxE t0 t1 l0 l1 a (n + 1))
def nxH (t0 t1 l0 l1 a : Rat) : Nat → Rat
 | 0 => 0
 | 1 => hiQ (towQ t0 l0 a) (towQ t0 l0 a)
 | n + 2 => hiQ (nxH t0 t1 l0 l1 a (n + 1)) (nxE t0 t1 l0 l1 a (n + 1))
theorem nx_lo (t0 t1 l0 l1 a : Rat) : nxL t0 t1 l0 l1 a 4 = flLo t0 t1 l0 l1 a := lo_assoc _ _ _ _
theorem nx_hi (t0 t1 l0 l1 a : Rat) : nxH t0 t1 l0 l1 a 4 = flHi t0 t1 l0 l1 a := hi_assoc _ _ _ _
theorem nx_le (t0 t1 l0 l1 a : Rat) : ∀ n, nxL t0 t1 l0 l1 a n ≤ nxH t0 t1 l0 l1 a n
 | 0 => Rat.le_refl
 | 1 => lo_hi _ _
 | n + 2 => Rat.le_trans (lo_le_r _ _) (hi_ge_r _ _)
theorem towQ_sz {t l a : Rat} {i j k : Nat} (h1 : szR t i) (h2 : szR l j) (h3 : szR a k) : szR (towQ t l a) (i + (j + (k + i + 1)) + 1) := szR_add h1 (szR_mul h2 (szR_sub h3 h1))
theorem nx_sz {t0 t1 l0 l1 a : Rat} (h0 : szR t0 1000) (h1 : szR t1 1000) (h2 : szR l0 1000) (h3 : szR l1 1000) (h4 : szR a 1000) : ∀ n, szR (nxL t0 t1 l0 l1 a n) 10000 ∧ szR (nxH t0 t1 l0 l1 a n) 10000 := by
 have e : ∀ n, szR (nxE t0 t1 l0 l1 a n) 10000 := fun n => by
  match n with
  | 0 => exact szR_mono (towQ_sz h0 h2 h4) (by omega)
  | 1 => exact szR_mono (towQ_sz h0 h3 h4) (by omega)
  | 2 => exact szR_mono (towQ_sz h1 h2 h4) (by omega)
  | n + 3 => exact szR_mono (towQ_sz h1 h3 h4) (by omega)
 intro n
 induction n with
 | zero => exact ⟨szR_zero _ (by omega), szR_zero _ (by omega)⟩
 | succ n ih =>
  match n with
  | 0 => exact ⟨loN_sz (e 0) (e 0), hiN_sz (e 0) (e 0)⟩
  | n + 1 => exact ⟨loN_sz ih.1 (e (n + 1)), hiN_sz ih.2 (e (n + 1))⟩
def pk2 (x y : R3) : Nat → R3
 | 0 => x
 | _ => y
def nxStep (t0 t1 l0 l1 a tq lq : Rat) (j : Nat) : Prop :=
 (j = 0 → nxL t0 t1 l0 l1 a (j + 1) = loQ (tq + (lq * (a - tq))) (tq + (lq * (a - tq))) ∧ nxH t0 t1 l0 l1 a (j + 1) = hiQ (tq + (lq * (a - tq))) (tq + (lq * (a - tq)))) ∧
 (j ≠ 0 → nxL t0 t1 l0 l1 a (j + 1) = loQ (nxL t0 t1 l0 l1 a j) (tq + (lq * (a - tq))) ∧ nxH t0 t1 l0 l1 a (j + 1) = hiQ (nxH t0 t1 l0 l1 a j) (tq + (lq * (a - tq))))
theorem FrcAt.r3 {w : World} {b o : Nat} {q : Rat} (h : FrcAt IsRat w b o q) : ∃ x : R3, w.cell? ⟨b, o, none⟩ = some (.bool x.b) ∧ w.cell? ⟨b, o + 1, none⟩ = some (.slice x.a x.n x.c) ∧ w.cell? ⟨b, o + 2, none⟩ = some (.slice x.d x.m x.e) ∧ IsRat w x.val q := by
 obtain ⟨v0, vn, vd, h0, h1, h2, h3⟩ := h
 obtain ⟨x, hx⟩ := h3.open3
 injection hx with hx
 injection hx with hx
 simp only [List.cons.injEq, and_true] at hx
 obtain ⟨rfl, rfl, rfl⟩ := hx
 exact ⟨x, h0, h1, h2, h3⟩
end Go.Proofs.YthhnkobkdhjfgaaGreat

namespace Go.Proofs.YthhnkobkdhjfgaaGreat
open Go.RowKit

def RowOf (p : Bool) (k : Nat) (w : World) (xs : List Value) (qs : List (List Rat)) : Prop :=
 xs.length = qs.length * (3 * k) ∧ ∀ i, i < qs.length → ∀ j, j < k → ∃ x : R3, xs[i * (3 * k) + j * 3]? = some (.bool x.b) ∧ xs[i * (3 * k) + j * 3 + 1]? = some (.slice x.a x.n x.c) ∧ xs[i * (3 * k) + j * 3 + 2]? = some (.slice x.d x.m x.e) ∧ Fr p w x.val ((qs.getD i []).getD j 0)
def RecsOf (p : Bool) (k : Nat) (w : World) (v : Value) (qs : List (List Rat)) : Prop :=
 ∃ ao cap, v = .slice ao qs.length cap ∧ (0 < qs.length → ∃ b off, ao = some ⟨b, off, none⟩ ∧ b < w.heap.size ∧ ∀ i, i < qs.length → ∀ j, j < k →
  ∃ x : R3, w.cell? ⟨b, off + i * (3 * k) + j * 3, none⟩ = some (.bool x.b) ∧ w.cell? ⟨b, off + i * (3 * k) + j * 3 + 1, none⟩ = some (.slice x.a x.n x.c) ∧ w.cell? ⟨b, off + i * (3 * k) + j * 3 + 2, none⟩ = some (.slice x.d x.m x.e) ∧ Fr p w x.val ((qs.getD i []).getD j 0))
theorem RecsOf.below {p : Bool} {k : Nat} {w w' : World} {v : Value} {qs : List (List Rat)} (h : RecsOf p k w v qs) (hb : Below w.heap.size w w') : RecsOf p k w' v qs := by
 obtain ⟨ao, cap, rfl, h⟩ := h
 refine ⟨ao, cap, rfl, fun hl => ?_⟩
 obtain ⟨b, off, rfl, hlt, h⟩ := h hl
 have c : ∀ o v, w.cell? ⟨b, o, none⟩ = some v → w'.cell? ⟨b, o, none⟩ = some v := fun o v h => (hb.cell (p := ⟨b, o, none⟩) hlt).trans h
 refine ⟨b, off, rfl, Nat.lt_of_lt_of_le hlt hb.size, fun i hi j hj => ?_⟩
 obtain ⟨x, h1, h2, h3, h4⟩ := h i hi j hj
 exact ⟨x, c _ _ h1, c _ _ h2, c _ _ h3, h4.below hb⟩
theorem RowOf.mono {p : Bool} {k : Nat} {w w' : World} {xs : List Value} {qs : List (List Rat)} (h : RowOf p k w xs qs) (hf : ∀ v q, Fr p w v q → Fr p w' v q) : RowOf p k w' xs qs :=
 ⟨h.1, fun i hi j hj => by obtain ⟨x, h1, h2, h3, h4⟩ := h.2 i hi j hj; exact ⟨x, h1, h2, h3, hf _ _ h4⟩⟩
theorem RowOf.nil (p : Bool) (k : Nat) (w : World) : RowOf p k w [] [] := ⟨by simp, fun i hi => absurd hi (by simp)⟩
def cellsR (l : List R3) : List Value := l.flatMap fun x => [.bool x.b, .slice x.a x.n x.c, .slice x.d x.m x.e]
theorem cellsR_length (l : List R3) : (cellsR l).length = l.length * 3 := by
 induction l with
 | nil => rfl
 | cons x l ih => simp [cellsR] at ih ⊢; omega
theorem cellsR_at (l : List R3) (j : Nat) (hj : j < l.length) : ∃ x, l[j]? = some x ∧ (cellsR l)[j * 3]? = some (.bool x.b) ∧ (cellsR l)[j * 3 + 1]? = some (.slice x.a x.n x.c) ∧ (cellsR l)[j * 3 + 2]? = some (.slice x.d x.m x.e) := by
 induction l generalizing j with
 | nil => simp at hj
 | cons y l ih =>
  match j with
  | 0 => exact ⟨y, rfl, rfl, rfl, rfl⟩
  | j + 1 =>
   obtain ⟨x, h0, h1, h2, h3⟩ := ih j (by simpa using hj)
   have e : ∀ m, (cellsR (y :: l))[(j + 1) * 3 + m]? = (cellsR l)[j * 3 + m]? := fun m => by
    show (_ :: _ :: _ :: cellsR l)[(j + 1) * 3 + m]? = _
    rw [show (j + 1) * 3 + m = (j * 3 + m) + 1 + 1 + 1 by omega, List.getElem?_cons_succ, List.getElem?_cons_succ, List.getElem?_cons_succ]
   exact ⟨x, by simpa using h0, by rw [← h1]; exact e 0, by rw [← h2]; exact e 1, by rw [← h3]; exact e 2⟩
theorem RowOf.snoc {p : Bool} {k : Nat} {w : World} {xs : List Value} {qs : List (List Rat)} (h : RowOf p k w xs qs) (l : List R3) (rs : List Rat) (hl : l.length = k) (hr : ∀ j x, l[j]? = some x → Fr p w x.val (rs.getD j 0)) :
  RowOf p k w (xs ++ cellsR l) (qs ++ [rs]) := by
 obtain ⟨h0, h1⟩ := h
 refine ⟨by rw [List.length_append, List.length_append, cellsR_length, h0, hl, List.length_singleton, Nat.add_mul]; omega, fun i hi j hj => ?_⟩
 rw [List.length_append, List.length_singleton] at hi
 rcases Nat.lt_or_ge i qs.length with hi1 | hi1
 ·
  obtain ⟨x, g1, g2, g3, g4⟩ := h1 i hi1 j hj
  have hlt : i * (3 * k) + j * 3 + 2 < xs.length := by
   rw [h0]
   have : (i + 1) * (3 * k) ≤ qs.length * (3 * k) := Nat.mul_le_mul_right _ hi1
   rw [Nat.add_mul] at this
   omega
  have e2 : (qs ++ [rs]).getD i [] = qs.getD i [] := by simp [List.getD, List.getElem?_append_left hi1]
  rw [e2]
  exact ⟨x, by rw [List.getElem?_append_left (by omega)]; exact g1, by rw [List.getElem?_append_left (by omega)]; exact g2, by rw [List.getElem?_append_left (by omega)]; exact g3, g4⟩
 ·
  obtain rfl : i = qs.length := by omega
  obtain ⟨x, g0, g1, g2, g3⟩ := cellsR_at l j (by omega)
  have e : ∀ m, (xs ++ cellsR l)[qs.length * (3 * k) + j * 3 + m]? = (cellsR l)[j * 3 + m]? := fun m => by
   rw [List.getElem?_append_right (by omega), h0]
   congr 1
   omega
  have e2 : (qs ++ [rs]).getD qs.length [] = rs := by simp [List.getD]
  rw [e2]
  exact ⟨x, by rw [← g1]; exact e 0, by rw [← g2]; exact e 1, by rw [← g3]; exact e 2, hr j x g0⟩
theorem RecsOf.ofRow {p : Bool} {k : Nat} {w : World} {base : Nat} {e : TypeId} {v : Value} {xs : List Value} {qs : List (List Rat)} (h : LRow w base e (3 * k) v qs.length xs) (ht : RowOf p k w xs qs) : RecsOf p k w v qs := by
 rcases Nat.eq_zero_or_pos qs.length with h0 | hp
 ·
  rcases h.1.2 with ⟨rfl, _⟩ | ⟨g, cap, cur, rfl, _⟩
  ·
   exact ⟨none, 0, by rw [h0], fun h => absurd h (by omega)⟩
  ·
   exact ⟨_, _, rfl, fun h => absurd h (by omega)⟩
 ·
  obtain ⟨g, cap, rfl⟩ := ownsRow_some h.1 hp
  have hc : ∀ j u, xs[j]? = some u → w.cell? ((⟨g, 0, none⟩ : Addr).add j) = some u := h.1.cells (g := g) rfl
  have hlt : g < w.heap.size := (h.lt rfl).1
  refine ⟨_, _, rfl, fun _ => ⟨g, 0, rfl, hlt, fun i hi j hj => ?_⟩⟩
  obtain ⟨x, h1, h2, h3, h4⟩ := ht.2 i hi j hj
  have ea : ∀ j, (⟨g, 0, none⟩ : Addr).add j = ⟨g, 0 + j, none⟩ := fun j => by unfold Addr.add; split <;> simp_all
  have ec : ∀ o u, xs[o]? = some u → w.cell? ⟨g, 0 + o, none⟩ = some u := fun o u h => by rw [← ea]; exact hc _ _ h
  refine ⟨x, ?_, ?_, ?_, h4⟩
  ·
   have := ec _ _ h1; rw [show 0 + (i * (3 * k) + j * 3) = 0 + i * (3 * k) + j * 3 by omega] at this; exact this
  ·
   have := ec _ _ h2; rw [show 0 + (i * (3 * k) + j * 3 + 1) = 0 + i * (3 * k) + j * 3 + 1 by omega] at this; exact this
  ·
   have := ec _ _ h3; rw [show 0 + (i * (3 * k) + j * 3 + 2) = 0 + i * (3 * k) + j * 3 + 2 by omega] at this; exact this
structure GrR where
 e : TypeId
 p : Bool
 k : Nat
 v : Value
 xs : List Value
 qs : List (List Rat)
structure GsR (w0 w : World) (bs : List Bx) (gs : List GrR) : Prop where
 row : ∀ (i : Nat) (g : GrR), gs[i]? = some g → LRow w w0.heap.size g.e (3 * g.k) g.v g.qs.length g.xs
 mean : ∀ (i : Nat) (g : GrR), gs[i]? = some g → RowOf g.p g.k w g.xs g.qs
 sep : ∀ b, b ∈ bs → ∀ g, g ∈ gs → g.v.ownBlock ≠ some b.1
 apart : ∀ (i j : Nat) (g h : GrR), gs[i]? = some g → gs[j]? = some h → i ≠ j → ∀ c, g.v.ownBlock = some c → h.v.ownBlock ≠ some c
theorem GsR.nil (w0 w : World) (bs : List Bx) : GsR w0 w bs [] := ⟨fun i g h => by simp at h, fun i g h => by simp at h, fun b hb g hg => by simp at hg, fun i j g h hi => by simp at hi⟩
theorem GsR.add {w0 w : World} {bs : List Bx} {gs : List GrR} (h : GsR w0 w bs gs) (e : TypeId) (p : Bool) (k : Nat) : GsR w0 w bs (⟨e, p, k, .slice none 0 0, [], []⟩ :: gs) := by
 refine ⟨fun i g hi => ?_, fun i g hi => ?_, fun b hb g hg => ?_, fun i j g g' hi hj hij c hc => ?_⟩
 ·
  match i, hi with
  | 0, hi => simp at hi; subst hi; exact LRow.nil _ _ _ _
  | i + 1, hi => exact h.row i g (by simpa using hi)
 ·
  match i, hi with
  | 0, hi => simp at hi; subst hi; exact RowOf.nil _ _ _
  | i + 1, hi => exact h.mean i g (by simpa using hi)
 ·
  rcases List.mem_cons.1 hg with rfl | hg
  ·
   exact fun hc => by cases hc
  ·
   exact h.sep b hb g hg
 ·
  match i, j, hi, hj with
  | 0, _, hi, _ => simp at hi; subst hi; cases hc
  | i + 1, 0, _, hj => simp at hj; subst hj; exact fun hc => by cases hc
  | i + 1, j + 1, hi, hj => exact h.apart i j g g' (by simpa using hi) (by simpa using hj) (by omega) c hc
theorem GsR.below {w0 w w' : World} {bs : List Bx} {gs : List GrR} (h : GsR w0 w bs gs) (hb : Below w.heap.size w w') : GsR w0 w' bs gs :=
 ⟨fun i g hi => (h.row i g hi).below hb, fun i g hi => (h.mean i g hi).mono fun _ _ hf => hf.below hb, h.sep, h.apart⟩
theorem GsR.alloc {w0 w : World} {bs : List Bx} {gs : List GrR} (h : GsR w0 w bs gs) {B T : Nat} {cs : Array Value} (hB : w.heap.size = B) : GsR w0 (w.alloc (.cells cs T)) ((B, cs, T) :: bs) gs := by
 have h' := h.below ((Below.refl w.heap.size w).alloc (Nat.le_refl _) (.cells cs T))
 refine ⟨h'.row, h'.mean, fun b hb g hg => ?_, h'.apart⟩
 rcases List.mem_cons.1 hb with rfl | hb
 ·
  intro hc
  obtain ⟨i, hi⟩ := List.mem_iff_getElem?.1 hg
  have := ((h.row i g hi).lt hc).1
  dsimp only at this
  omega
 ·
  exact h.sep b hb g hg
theorem GsR.box {w0 w : World} {bs : List Bx} {gs : List GrR} (h : GsR w0 w bs gs) {B T : Nat} {cs : Array Value} (hne : ∀ g, g ∈ gs → g.v.ownBlock ≠ some B) : GsR w0 w ((B, cs, T) :: bs) gs :=
 ⟨h.row, h.mean, fun b hb g hg => by rcases List.mem_cons.1 hb with rfl | hb; exact hne g hg; exact h.sep b hb g hg, h.apart⟩
theorem GsR.mono {w0 w : World} {bs bs' : List Bx} {gs : List GrR} (h : GsR w0 w bs gs) (hm : ∀ b, b ∈ bs' → ∃ b2, b2 ∈ bs ∧ b2.1 = b.1) : GsR w0 w bs' gs :=
 ⟨h.row, h.mean, fun b hb g hg => by obtain ⟨b2, h1, h2⟩ := hm b hb; rw [← h2]; exact h.sep b2 h1 g hg, h.apart⟩
theorem GsR.set {w0 w : World} {bs : List Bx} {gs : List GrR} {fs : List Fx} (h : GsR w0 w bs gs) (hs : Sx w0 w bs fs) (i : Nat) {B T : Nat} {cs : Array Value} (hi : bs[i]? = some (B, cs, T)) (j : Nat) (v : Value) : GsR w0 (w.setCell ⟨B, j, none⟩ v) bs gs := by
 obtain ⟨h1, h2, h3⟩ := hs.box i _ hi
 have hm : (B, cs, T) ∈ bs := List.mem_iff_getElem?.2 ⟨i, hi⟩
 exact ⟨fun k g hg => (h.row k g hg).keep fun c hc => heap_setCell_other w ⟨B, j, none⟩ c v (fun e => h.sep _ hm g (List.mem_iff_getElem?.2 ⟨k, hg⟩) (by rw [hc, e])), fun k g hg => (h.mean k g hg).mono fun _ _ hf => hf.set h1 h3 j v, h.sep, h.apart⟩
theorem GsR.set2 {w0 w : World} {bs : List Bx} {gs : List GrR} {fs : List Fx} (h : GsR w0 w bs gs) (hs : Sx w0 w bs fs) (i : Nat) {B T : Nat} {cs : Array Value} (hi : bs[i]? = some (B, cs, T)) (j : Nat) (v : Value) : GsR w0 (w.setCell ⟨B, j, none⟩ v) (bs.set i (B, cs.setIfInBounds j v, T)) gs :=
 (h.set hs i hi j v).mono fun b hb => by
  rcases List.mem_or_eq_of_mem_set hb with hb | rfl
  ·
   exact ⟨b, hb, rfl⟩
  ·
   exact ⟨(B, cs, T), List.mem_iff_getElem?.2 ⟨i, hi⟩, rfl⟩
theorem GsR.st_R {w0 w : World} {bs : List Bx} {gs : List GrR} {fs : List Fx} (h : GsR w0 w bs gs) (hs : Sx w0 w bs fs) (i : Nat) (o0 : R3) (n0 : R3) {B T : Nat} (hi : bs[i]? = some (B, #[.bool o0.b, .slice o0.a o0.n o0.c, .slice o0.d o0.m o0.e], T)) :
  GsR w0 ((((w).setCell ⟨B, 0, none⟩ (.bool n0.b)).setCell ⟨B, 1, none⟩ (.slice n0.a n0.n n0.c)).setCell ⟨B, 2, none⟩ (.slice n0.d n0.m n0.e)) (bs.set i (B, #[.bool n0.b, .slice n0.a n0.n n0.c, .slice n0.d n0.m n0.e], T)) gs := by
 have hl := (List.getElem?_eq_some_iff.1 hi).1
 have g := (((h).set2 (hs) i hi 0 (.bool n0.b)).set2 ((hs).set i hi 0 (v := .bool n0.b) rfl) i (by rw [List.getElem?_set, if_pos rfl, if_pos (by simpa using hl)]) 1 (.slice n0.a n0.n n0.c)).set2 (((hs).set i hi 0 (v := .bool n0.b) rfl).set i (by rw [List.getElem?_set, if_pos rfl, if_pos (by simpa using hl)]) 1 (v := .slice n0.a n0.n n0.c) rfl) i (by rw [List.getElem?_set, if_pos rfl, if_pos (by simpa using hl)]) 2 (.slice n0.d n0.m n0.e)
 simpa using g
theorem GsR.st_RR {w0 w : World} {bs : List Bx} {gs : List GrR} {fs : List Fx} (h : GsR w0 w bs gs) (hs : Sx w0 w bs fs) (i : Nat) (o0 : R3) (o1 : R3) (n0 : R3) (n1 : R3) {B T : Nat} (hi : bs[i]? = some (B, #[.bool o0.b, .slice o0.a o0.n o0.c, .slice o0.d o0.m o0.e, .bool o1.b, .slice o1.a o1.n o1.c, .slice o1.d o1.m o1.e], T)) :
  GsR w0 (((((((w).setCell ⟨B, 0, none⟩ (.bool n0.b)).setCell ⟨B, 1, none⟩ (.slice n0.a n0.n n0.c)).setCell ⟨B, 2, none⟩ (.slice n0.d n0.m n0.e)).setCell ⟨B, 3, none⟩ (.bool n1.b)).setCell ⟨B, 4, none⟩ (.slice n1.a n1.n n1.c)).setCell ⟨B, 5, none⟩ (.slice n1.d n1.m n1.e)) (bs.set i (B, #[.bool n0.b, .slice n0.a n0.n n0.c, .slice n0.d n0.m n0.e, .bool n1.b, .slice n1.a n1.n n1.c, .slice n1.d n1.m n1.e], T)) gs := by
 have hl := (List.getElem?_eq_some_iff.1 hi).1
 have g := ((((((h).set2 (hs) i hi 0 (.bool n0.b)).set2 ((hs).set i hi 0 (v := .bool n0.b) rfl) i (by rw [List.getElem?_set, if_pos rfl, if_pos (by simpa using hl)]) 1 (.slice n0.a n0.n n0.c)).set2 (((hs).set i hi 0 (v := .bool n0.b) rfl).set i (by rw [List.getElem?_set, if_pos rfl, if_pos (by simpa using hl)]) 1 (v := .slice n0.a n0.n n0.c) rfl) i (by rw [List.getElem?_set, if_pos rfl, if_pos (by simpa using hl)]) 2 (.slice n0.d n0.m n0.e)).set2 ((((hs).set i hi 0 (v := .bool n0.b) rfl).set i (by rw [List.getElem?_set, if_pos rfl, if_pos (by simpa using hl)]) 1 (v := .slice n0.a n0.n n0.c) rfl).set i (by rw [List.getElem?_set, if_pos rfl, if_pos (by simpa using hl)]) 2 (v := .slice n0.d n0.m n0.e) rfl) i (by rw [List.getElem?_set, if_pos rfl, if_pos (by simpa using hl)]) 3 (.bool n1.b)).set2 (((((hs).set i hi 0 (v := .bool n0.b) rfl).set i (by rw [List.getElem?_set, if_pos rfl, if_pos (by simpa using hl)]) 1 (v := .slice n0.a n0.n n0.c) rfl).set i (by rw [List.getElem?_set, if_pos rfl, if_pos (by simpa using hl)]) 2 (v := .slice n0.d n0.m n0.e) rfl).set i (by rw [List.getElem?_set, if_pos rfl, if_pos (by simpa using hl)]) 3 (v := .bool n1.b) rfl) i (by rw [List.getElem?_set, if_pos rfl, if_pos (by simpa using hl)]) 4 (.slice n1.a n1.n n1.c)).set2 ((((((hs).set i hi 0 (v := .bool n0.b) rfl).set i (by rw [List.getElem?_set, if_pos rfl, if_pos (by simpa using hl)]) 1 (v := .slice n0.a n0.n n0.c) rfl).set i (by rw [List.getElem?_set, if_pos rfl, if_pos (by simpa using hl)]) 2 (v := .slice n0.d n0.m n0.e) rfl).set i (by rw [List.getElem?_set, if_pos rfl, if_pos (by simpa using hl)]) 3 (v := .bool n1.b) rfl).set i (by rw [List.getElem?_set, if_pos rfl, if_pos (by simpa using hl)]) 4 (v := .slice n1.a n1.n n1.c) rfl) i (by rw [List.getElem?_set, if_pos rfl, if_pos (by simpa using hl)]) 5 (.slice n1.d n1.m n1.e)
 simpa using g
theorem Fr.grown {p : Bool} {w w' : World} {v : Value} {q : Rat} {row : Option Nat} (h : Fr p w v q) (hg : w.grownBy w' row) (hr : ∀ g, row = some g → NoDig w g) : Fr p w' v q := by
 cases p with
 | true => exact IsRat.grown3 (h : IsRat w v q) hg hr
 | false => exact IsR.grown3 (h : IsR w v q) hg hr
theorem cells_blk {w : World} {B T : Nat} {cs : Array Value} (h : w.heap[B]? = some (.cells cs T (0, 0))) : ∀ j u, cs.toList[j]? = some u → w.cell? ((⟨B, 0, none⟩ : Addr).add j) = some u := by
 intro j u hu
 have ea : (⟨B, 0, none⟩ : Addr).add j = ⟨B, 0 + j, none⟩ := by unfold Addr.add; split <;> simp_all
 rw [ea]
 exact blk_cell h (0 + j) u (by rw [Nat.zero_add]; simpa using hu)
theorem Sx.append {w0 w w' : World} {bs : List Bx} {fs : List Fx} {gs : List GrR} (h : Sx w0 w bs fs) (hg : GsR w0 w bs gs) (i : Nat) {g : GrR} (hi : gs[i]? = some g) (l : List R3) (rs : List Rat) {v' : Value} (hl : l.length = g.k) (hr : ∀ j x, l[j]? = some x → Fr g.p w x.val (rs.getD j 0))
  (hL : LRow w' w0.heap.size g.e (3 * g.k) v' (g.qs.length + 1) (g.xs ++ cellsR l)) (hgr : w.grownBy w' g.v.ownBlock) (hat : ∀ c, v'.ownBlock = some c → g.v.ownBlock = some c ∨ c = w.heap.size) :
  Sx w0 w' bs fs ∧ GsR w0 w' bs (gs.set i ⟨g.e, g.p, g.k, v', g.xs ++ cellsR l, g.qs ++ [rs]⟩) := by
 have hm : g ∈ gs := List.mem_iff_getElem?.2 ⟨i, hi⟩
 have hnd : ∀ c, g.v.ownBlock = some c → NoDig w c := (hg.row i g hi).2
 have hfr : ∀ p v q, Fr p w v q → Fr p w' v q := fun p v q hf => hf.grown hgr hnd
 have hblt : ∀ b, b ∈ bs → b.1 < w.heap.size := fun b hb => by
  obtain ⟨j, hj⟩ := List.mem_iff_getElem?.1 hb
  exact blk_lt (h.box j b hj).1
 refine ⟨⟨h.bel.grown hgr h.bel.size (ownBlock_base3 (hg.row i g hi).1), fun j b hj => ?_, h.nod, fun j f hf => hfr _ _ _ (h.fra j f hf)⟩, fun j g' hj => ?_, fun j g' hj => ?_, fun b hb g' hg' => ?_, fun j k g1 g2 hj hk hjk c hc => ?_⟩
 ·
  obtain ⟨h1, h2⟩ := h.box j b hj
  exact ⟨(hgr.block b.1 (blk_lt h1) (fun e => hg.sep b (List.mem_iff_getElem?.2 ⟨j, hj⟩) g hm e.symm)).trans h1, h2⟩
 ·
  rw [List.getElem?_set] at hj
  by_cases hij : i = j
  ·
   subst hij
   rw [if_pos rfl] at hj
   split at hj
   ·
    injection hj with hj
    subst hj
    show LRow w' w0.heap.size g.e (3 * g.k) v' (g.qs ++ [rs]).length (g.xs ++ cellsR l)
    rw [List.length_append]
    exact hL
   ·
    exact absurd hj (by simp)
  ·
   rw [if_neg hij] at hj
   exact (hg.row j g' hj).grown hgr fun c hc e => hg.apart j i g' g hj hi (fun e => hij e.symm) c hc e.symm
 ·
  rw [List.getElem?_set] at hj
  by_cases hij : i = j
  ·
   subst hij
   rw [if_pos rfl] at hj
   split at hj
   ·
    injection hj with hj
    subst hj
    exact ((hg.mean i g hi).mono fun _ _ hf => hfr _ _ _ hf).snoc l rs hl (fun j x hx => hfr _ _ _ (hr j x hx))
   ·
    exact absurd hj (by simp)
  ·
   rw [if_neg hij] at hj
   exact (hg.mean j g' hj).mono fun _ _ hf => hfr _ _ _ hf
 ·
  rcases List.mem_or_eq_of_mem_set hg' with hg' | rfl
  ·
   exact hg.sep b hb g' hg'
  ·
   intro hc
   rcases hat _ hc with h1 | h1
   ·
    exact hg.sep b hb g hm h1
   ·
    have := hblt b hb; omega
 ·
  have hlt : ∀ (n : Nat) (g' : GrR), gs[n]? = some g' → ∀ c, g'.v.ownBlock = some c → c < w.heap.size := fun n g' hn c hc => ((hg.row n g' hn).lt hc).1
  rw [List.getElem?_set] at hj hk
  by_cases hij : i = j
  ·
   subst hij
   rw [if_pos rfl] at hj
   rw [if_neg hjk] at hk
   split at hj
   ·
    injection hj with hj
    subst hj
    intro hc2
    rcases hat _ hc with h1 | h1
    ·
     exact hg.apart i k g g2 hi hk hjk c h1 hc2
    ·
     have := hlt k g2 hk c hc2; omega
   ·
    exact absurd hj (by simp)
  ·
   rw [if_neg hij] at hj
   by_cases hik : i = k
   ·
    subst hik
    rw [if_pos rfl] at hk
    split at hk
    ·
     injection hk with hk
     subst hk
     intro hc2
     rcases hat _ hc2 with h1 | h1
     ·
      exact hg.apart j i g1 g hj hi hjk c hc h1
     ·
      have := hlt j g1 hj c hc; omega
    ·
     exact absurd hk (by simp)
   ·
    rw [if_neg hik] at hk
    exact hg.apart j k g1 g2 hj hk hjk c hc
end Go.Proofs.YthhnkobkdhjfgaaGreat
