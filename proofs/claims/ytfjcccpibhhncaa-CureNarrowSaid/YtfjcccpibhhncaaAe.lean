/- Part e of the lemmas and walks. -/
import Derived.Test.YtfjcccpibhhncaaAd

namespace Go.Proofs.Ytfjcccpibhhncaa
open Go.RowKit

theorem IsRat.neg3 {w : World} {x : R3} {q : Rat} (h : IsRat w x.val q) : x.b = decide (q.num < 0) := by
 obtain ⟨vn, vd, hxe, _, _⟩ := h
 injection hxe with hxe
 simp only [Array.mk.injEq, List.cons.injEq] at hxe
 have := hxe.1
 injection this
theorem down_any (q : Rat) (k : Nat) (hk : k ≤ 256) (z : Int) (hz : min (max z 0) 256 = (k : Int)) (v : Value) (w : World) (h : IsRat w v q) (hs : szR q 68719476736) : Calls Try.prog 16 #[v, .int .i64 z] w (RetRat (downQ q k) w) := by
 obtain ⟨x, rfl⟩ := h.open3
 have hb := h.neg3
 obtain ⟨b, xa, xn, xc, xd, xm, xe⟩ := x
 cases b with
 | false =>
  have hn : decide (q.num < 0) = false := hb.symm
  refine down_f q k hk z hz xa xn xc xd xm xe w h hs _ ?_
  unfold downQ downN
  rw [hn, if_neg (fun h => by rw [decide_eq_false_iff_not] at hn; exact hn h.1)]
 | true =>
  have hn : decide (q.num < 0) = true := hb.symm
  by_cases hr : q.num.natAbs * 2 ^ k % q.den = 0
  ·
   refine down_z q k hk z hz xa xn xc xd xm xe w h hs hr _ ?_
   unfold downQ downN
   rw [hn, if_neg (fun h => h.2 hr)]
  ·
   have hl : 0 < (dig b64 (q.num.natAbs * 2 ^ k % q.den)).length := by
    rcases Nat.eq_zero_or_pos (dig b64 (q.num.natAbs * 2 ^ k % q.den)).length with h0 | h0
    ·
     exfalso
     have e := List.eq_nil_of_length_eq_zero h0
     have := lv_dig b64_two (q.num.natAbs * 2 ^ k % q.den)
     rw [e] at this
     exact hr this.symm
    ·
     exact h0
   refine down_1 q k hk z hz xa xn xc xd xm xe w h hs hl _ ?_
   unfold downQ downN
   rw [hn, if_pos ⟨of_decide_eq_true hn, hr⟩]
set_option maxRecDepth 100000 in
set_option maxHeartbeats 2000000 in
theorem up_any (q : Rat) (k : Nat) (hk : k ≤ 256) (z : Int) (hz : min (max z 0) 256 = (k : Int)) (v : Value) (w : World) (h : IsRat w v q) (hs : szR (-q) 68719476736) : Calls Try.prog 61 #[v, .int .i64 z] w (RetRat (upQ q k) w) := by
 obtain ⟨x, rfl⟩ := h.open3
 have HX := Lib.hid h
 have HS := Lib.hid hs
 have HK := Lib.hid hk
 have HZK := Lib.hid hz
 clear hz
 clear h hs hk
 go_enter Try.func61, Try.ntmps61
 go_wp2_with fail
 generalize hW0 : (w.alloc (.cells x.arr 27)).alloc (.cells _ _) = W at *
 obtain ⟨hal, hB1, hB2⟩ := boxesD w _ _ _ W hW0.symm
 have HB2 := Lib.hid hB2
 have HAL := Lib.hid hal
 clear hW0 hal hB1 hB2
 refine (negRat_any q _ _ (HX.out.below HAL.out)).mono ?_
 rintro e wA ⟨vA, rfl, hvA, hbA⟩
 have EA := Lib.hid (blk_keep HB2.out hbA (blk_lt HB2.out))
 have BA := Lib.hid (bt HAL.out hbA)
 go_wp2_with fail
 refine (down_any (-q) k HK.out z HZK.out _ _ hvA HS.out).mono ?_
 rintro e wB ⟨vB, rfl, hvB, hbB⟩
 have EB := Lib.hid (blk_keep EA.out hbB (blk_lt EA.out))
 have BB := Lib.hid (bt BA.out hbB)
 go_wp2_with fail
 refine (negRat_any (downQ (-q) k) _ _ hvB).mono ?_
 rintro e wC ⟨vC, rfl, hvC, hbC⟩
 have E : Hid (wC.heap[w.heap.size + 1]? = some (.cells r30.arr 27 (0, 0))) := blk_keep EB.out hbC (blk_lt EB.out)
 have BC := Lib.hid (bt BB.out hbC)
 obtain ⟨z, rfl⟩ := hvC.open3
 have HV : Hid (IsRat wC z.val (upQ q k)) := hvC
 clear hvA hvB hvC hbA hbB hbC
 obtain ⟨g0, g1, g2, f0, f1, f2⟩ := fac3 (x := r30) E.out
 go_wp2_with fail
 obtain ⟨h0, h1, h2, _, _, _⟩ := fac3 (x := z) (set3r (x := z) E.out)
 refine bodyPost_ret (v := z.val) (by simp [results, Try.results61, go_sem, h0, h1, h2]) rfl ⟨_, rfl, IsRat.set3r HV.out E.out, below3r BC.out (by omega)⟩
theorem boxesR (w : World) (x y : R3) (cs : Array Value) (T : Nat) (W : World) (hW : W = (w.alloc (.cells (arr6 x y) 29)).alloc (.cells cs T)) :
  Below w.heap.size w W ∧ W.heap[w.heap.size]? = some (.cells (arr6 x y) 29 (0, 0)) ∧ W.heap[w.heap.size + 1]? = some (.cells cs T (0, 0)) := by
 subst hW
 have e1 : (w.alloc (.cells (arr6 x y) 29)).heap.size = w.heap.size + 1 := World.size_alloc ..
 have a1 := blk_new w (arr6 x y) 29
 have a2 := blk_new (w.alloc (.cells (arr6 x y) 29)) cs T
 rw [e1] at a2
 exact ⟨below2 _ _ _, (heap_alloc_old _ _ (blk_lt a1)).trans a1, a2⟩
set_option maxRecDepth 100000 in
set_option maxHeartbeats 2000000 in
theorem rround_any (lo hi : Rat) (k : Nat) (hk : k ≤ 256) (z : Int) (hz : min (max z 0) 256 = (k : Int)) (v : Value) (w : World) (h : IsRng w v lo hi) (s1 : szR lo 68719476736) (s2 : szR (-hi) 68719476736) : Calls Try.prog 48 #[v, .int .i64 z] w (RetRng (downQ lo k) (upQ hi k) w) := by
 obtain ⟨x, y, rfl, h1, h2⟩ := h
 have HX := Lib.hid h1
 have HY := Lib.hid h2
 have S1 := Lib.hid s1
 have S2 := Lib.hid s2
 have HK := Lib.hid hk
 have HZK := Lib.hid hz
 clear hz
 clear h1 h2 s1 s2 hk
 go_enter Try.func48, Try.ntmps48
 go_wp2_with fail
 generalize hW0 : (w.alloc (.cells (arr6 x y) 29)).alloc (.cells _ _) = W at *
 obtain ⟨hal, hB1, hB2⟩ := boxesR w _ _ _ _ W hW0.symm
 obtain ⟨x0, x1, x2, y0, y1, y2, _, _, _, _, _, _⟩ := fac6 (x := x) (y := y) hB1
 have HB2 := Lib.hid hB2
 have HAD := Lib.hid hal.drew
 have N3 : Hid (w.heap.size + 1 ≤ W.heap.size) := by
  show _ ≤ _
  have := blk_lt hB2
  omega
 have N0 : Hid (w.heap.size < w.heap.size + 1) := by show _ < _; omega
 clear hW0 hal hB1 hB2
 refine wp_region_held_drew (S := (fun w' => Below (w.heap.size + 1) W w' ∧ w'.cell? ⟨w.heap.size, 0, none⟩ = some (.bool x.b) ∧ w'.cell? ⟨w.heap.size, 1, none⟩ = some (.slice x.a x.n x.c) ∧ w'.cell? ⟨w.heap.size, 2, none⟩ = some (.slice x.d x.m x.e) ∧ w'.cell? ⟨w.heap.size, 3, none⟩ = some (.bool y.b) ∧ w'.cell? ⟨w.heap.size, 4, none⟩ = some (.slice y.a y.n y.c) ∧ w'.cell? ⟨w.heap.size, 5, none⟩ = some (.slice y.d y.m y.e))) (by kernel_rfl) ⟨(Below.refl _ _).drew, x0, x1, x2, y0, y1, y2⟩ (fun hh => ?_)
 clear x0 x1 x2 y0 y1 y2
 refine tk0 (i := 0) (v := ?vp0) rfl (Or.inl ⟨by rfl, ?hyp0⟩) (by assumption) ?rep0
 case hyp0 => intro w hSw; (try dsimp only at hSw); (go_simp <;> with_reducible rfl)
 try simp only [na1, na2, na3, Act.put, na4, na5, na6]
 refine tk0 (i := 1) (v := ?vp1) rfl (Or.inl ⟨by rfl, ?hyp1⟩) (by assumption) ?rep1
 case hyp1 => intro w hSw; (try dsimp only at hSw); (go_simp <;> with_reducible rfl)
 try simp only [na1, na2, na3, Act.put, na4, na5, na6]
 refine tk0 (i := 2) (v := ?vp2) rfl (Or.inl ⟨by rfl, ?hyp2⟩) (by assumption) ?rep2
 case hyp2 => intro w hSw; (try dsimp only at hSw); (go_simp <;> with_reducible rfl)
 try simp only [na1, na2, na3, Act.put, na4, na5, na6]
 refine tk0 (i := 4) (v := ?vp4) rfl (Or.inl ⟨by rfl, ?hyp4⟩) (by assumption) ?rep4
 case hyp4 => intro w hSw; (try dsimp only at hSw); (go_simp <;> with_reducible rfl)
 try simp only [na1, na2, na3, Act.put, na4, na5, na6]
 refine tk0 (i := 5) (v := ?vp5) rfl (Or.inl ⟨by rfl, ?hyp5⟩) (by assumption) ?rep5
 case hyp5 => intro w hSw; (try dsimp only at hSw); (go_simp <;> with_reducible rfl)
 try simp only [na1, na2, na3, Act.put, na4, na5, na6]
 refine tk0 (i := 6) (v := ?vp6) rfl (Or.inl ⟨by rfl, ?hyp6⟩) (by assumption) ?rep6
 case hyp6 => intro w hSw; (try dsimp only at hSw); (go_simp <;> with_reducible rfl)
 try simp only [na1, na2, na3, Act.put, na4, na5, na6]
 refine rd1 (i := 3) rfl (fun K hK => ?_)
 go_simp
 go_wp2_with (go_at_call 16; (with_reducible refine (down_any lo k HK.out z HZK.out _ _ (HX.out.below HAD.out) S1.out).mono ?_); rintro e wA ⟨vA, rfl, hvA, hbA⟩)
 refine hK.out _ _ (kd6 N3.out hbA hh) (fun hh => ?_)
 clear hK K
 try simp only [na1, na2, na3, Act.put, na4, na5, na6]
 have BA := Lib.hid (bt HAD.out hbA)
 refine rd1 (i := 7) rfl (fun K hK => ?_)
 go_simp
 go_wp2_with (go_at_call 61; (with_reducible refine (up_any hi k HK.out z HZK.out _ _ (HY.out.below BA.out) S2.out).mono ?_); rintro e wB ⟨vB, rfl, hvB, hbB⟩; obtain ⟨za, rfl⟩ := hvA.open3; obtain ⟨zb, rfl⟩ := hvB.open3)
 refine hK.out _ _ (kd6 N3.out hbB hh) (fun hh => ?_)
 clear hK K
 try simp only [na1, na2, na3, Act.put, na4, na5, na6]
 have BB := Lib.hid (bt BA.out hbB)
 refine tk0 (i := 8) (v := ?vp8) rfl (Or.inl ⟨by rfl, ?hyp8⟩) (by assumption) ?rep8
 case hyp8 => intro w hSw; (try dsimp only at hSw); (go_simp <;> with_reducible rfl)
 try simp only [na1, na2, na3, Act.put, na4, na5, na6]
 have e0 : W.drew.heap[w.heap.size + 1]? = _ := HB2.out
 have eA := blk_keep e0 hbA (blk_lt e0)
 have E : Hid (wB.heap[w.heap.size + 1]? = some (.cells (arr6 r30 r30) 29 (0, 0))) := blk_keep eA hbB (blk_lt eA)
 have HV1 := Lib.hid (hvA.below hbB)
 have HV2 := Lib.hid hvB
 obtain ⟨g0, g1, g2, g3, g4, g5, f0, f1, f2, f3, f4, f5⟩ := fac6 (x := r30) (y := r30) E.out
 clear e0 eA hvA hvB hbA hbB
 refine rd1 (i := 9) rfl (fun K hK => ?_)
 go_simp
 refine hK.out _ _ (ks6 (Nat.le_refl _) N0.out N0.out N0.out N0.out N0.out N0.out (below6r (Below.refl _ _) (Nat.le_refl _)) hh) (fun hh => ?_)
 clear hK K
 try simp only [na1, na2, na3, Act.put, na4, na5, na6]
 refine wpAnyH_done (by kernel_rfl) ?_ _
 obtain ⟨h0, h1, h2, h3, h4, h5, _, _, _, _, _, _⟩ := fac6 (x := za) (y := zb) (set6r (x := za) (y := zb) E.out)
 go_wp2_with fail
 refine bodyPost_ret (v := rngV za zb) (by simp [results, Try.results48, go_sem, h0, h1, h2, h3, h4, h5]) rfl ⟨_, rfl, ⟨za, zb, rfl, IsRat.set6r HV1.out E.out, IsRat.set6r HV2.out E.out⟩, below6r BB.out (by omega)⟩
theorem boxesS (w : World) (x y x2 y2 : R3) (cs : Array Value) (T : Nat) (W : World) (hW : W = ((w.alloc (.cells (arr6 x y) 29)).alloc (.cells (arr6 x2 y2) 29)).alloc (.cells cs T)) :
  Below w.heap.size w W ∧ W.heap[w.heap.size]? = some (.cells (arr6 x y) 29 (0, 0)) ∧ W.heap[w.heap.size + 1]? = some (.cells (arr6 x2 y2) 29 (0, 0)) ∧ W.heap[w.heap.size + 1 + 1]? = some (.cells cs T (0, 0)) ∧ W.heap.size = w.heap.size + 3 := by
 subst hW
 have e1 : (w.alloc (.cells (arr6 x y) 29)).heap.size = w.heap.size + 1 := World.size_alloc ..
 have e2 : ((w.alloc (.cells (arr6 x y) 29)).alloc (.cells (arr6 x2 y2) 29)).heap.size = w.heap.size + 1 + 1 := by rw [World.size_alloc, e1]
 have a1 := blk_new w (arr6 x y) 29
 have a2 := blk_new (w.alloc (.cells (arr6 x y) 29)) (arr6 x2 y2) 29
 have a3 := blk_new ((w.alloc (.cells (arr6 x y) 29)).alloc (.cells (arr6 x2 y2) 29)) cs T
 rw [e1] at a2
 rw [e2] at a3
 have a1' := (heap_alloc_old _ (.cells (arr6 x2 y2) 29) (blk_lt a1)).trans a1
 exact ⟨ba (below2 _ _ _), (heap_alloc_old _ _ (blk_lt a1')).trans a1', (heap_alloc_old _ _ (blk_lt a2)).trans a2, a3, by rw [World.size_alloc, e2]⟩
set_option maxRecDepth 100000 in
set_option maxHeartbeats 2000000 in
theorem step_any (a0 a1 p0 p1 : Rat) (k : Nat) (hk : k ≤ 256) (z : Int) (hz : min (max z 0) 256 = (k : Int)) (vc vr : Value) (w : World) (hc : IsRng w vc a0 a1) (hr : IsRng w vr p0 p1) (q0 q1 : Rat) (hq0 : a0 + p0 * (1 - a0) = q0) (hq1 : a1 + p1 * (1 - a1) = q1)
  (s1 : szR a0 68719476736) (s2 : szR p0 68719476736) (s3 : szR (1 - a0) 68719476736) (s4 : szR (p0 * (1 - a0)) 68719476736) (s5 : szR a1 68719476736) (s6 : szR p1 68719476736) (s7 : szR (1 - a1) 68719476736) (s8 : szR (p1 * (1 - a1)) 68719476736) (s9 : szR q0 68719476736) (s10 : szR q1 68719476736) (s11 : szR (-q1) 68719476736) (hcm : cmpR q0 q1 ≤ 0) :
  Calls Try.prog 28 #[vc, vr, .int .i64 z] w (RetRng (downQ q0 k) (upQ q1 k) w) := by
 obtain ⟨x, y, rfl, h1, h2⟩ := hc
 obtain ⟨x', y', rfl, h3, h4⟩ := hr
 have HX := Lib.hid (show IsRng w (rngV x y) a0 a1 from ⟨x, y, rfl, h1, h2⟩)
 have HY := Lib.hid (show IsRng w (rngV x' y') p0 p1 from ⟨x', y', rfl, h3, h4⟩)
 clear h1 h2 h3 h4
 have S1 := Lib.hid s1
 have S2 := Lib.hid s2
 have S3 := Lib.hid s3
 have S4 := Lib.hid s4
 have S5 := Lib.hid s5
 have S6 := Lib.hid s6
 have S7 := Lib.hid s7
 have S8 := Lib.hid s8
 have S9 := Lib.hid s9
 have S10 := Lib.hid s10
 have S11 := Lib.hid s11
 have HK := Lib.hid hk
 have HZK := Lib.hid hz
 clear hz
 have HCM := Lib.hid hcm
 have HQ0 := Lib.hid hq0
 have HQ1 := Lib.hid hq1
 clear s1 s2 s3 s4 s5 s6 s7 s8 s9 s10 s11 hk hcm hq0 hq1
 have S12 : Hid (szR q0 274877906944) := ⟨Nat.le_trans S9.out.1 (by omega), Nat.le_trans S9.out.2 (by omega)⟩
 have S13 : Hid (szR q1 274877906944) := ⟨Nat.le_trans S10.out.1 (by omega), Nat.le_trans S10.out.2 (by omega)⟩
 go_enter Try.func28, Try.ntmps28
 go_wp2_with fail
 generalize hW0 : ((w.alloc (.cells (arr6 x y) 29)).alloc (.cells (arr6 x' y') 29)).alloc (.cells _ _) = W at *
 obtain ⟨hal, hB1, hB2, hB3, hWs⟩ := boxesS w _ _ _ _ _ _ W hW0.symm
 obtain ⟨x0, x1, x2, x3, x4, x5, _, _, _, _, _, _⟩ := fac6 (x := x) (y := y) hB1
 obtain ⟨y0, y1, y2, y3, y4, y5, _, _, _, _, _, _⟩ := fac6 (x := x') (y := y') hB2
 have HB3 := Lib.hid hB3
 have HAD := Lib.hid hal.drew
 have N3 : Hid (w.heap.size + 1 + 1 ≤ W.heap.size) := by show _ ≤ _; omega
 have N0 : Hid (w.heap.size < w.heap.size + 1 + 1) := by show _ < _; omega
 have N1 : Hid (w.heap.size + 1 < w.heap.size + 1 + 1) := by show _ < _; omega
 clear hW0 hal hB1 hB2 hB3 hWs
 refine wp_region_held_drew (S := (fun w' => Below (w.heap.size + 1 + 1) W w' ∧ w'.cell? ⟨w.heap.size, 0, none⟩ = some (.bool x.b) ∧ w'.cell? ⟨w.heap.size, 1, none⟩ = some (.slice x.a x.n x.c) ∧ w'.cell? ⟨w.heap.size, 2, none⟩ = some (.slice x.d x.m x.e) ∧ w'.cell? ⟨w.heap.size, 3, none⟩ = some (.bool y.b) ∧ w'.cell? ⟨w.heap.size, 4, none⟩ = some (.slice y.a y.n y.c) ∧ w'.cell? ⟨w.heap.size, 5, none⟩ = some (.slice y.d y.m y.e) ∧ w'.cell? ⟨w.heap.size + 1, 0, none⟩ = some (.bool x'.b) ∧ w'.cell? ⟨w.heap.size + 1, 1, none⟩ = some (.slice x'.a x'.n x'.c) ∧ w'.cell? ⟨w.heap.size + 1, 2, none⟩ = some (.slice x'.d x'.m x'.e) ∧ w'.cell? ⟨w.heap.size + 1, 3, none⟩ = some (.bool y'.b) ∧ w'.cell? ⟨w.heap.size + 1, 4, none⟩ = some (.slice y'.a y'.n y'.c) ∧ w'.cell? ⟨w.heap.size + 1, 5, none⟩ = some (.slice y'.d y'.m y'.e))) (by kernel_rfl) ⟨(Below.refl _ _).drew, x0, x1, x2, x3, x4, x5, y0, y1, y2, y3, y4, y5⟩ (fun hh => ?_)
 clear x0 x1 x2 x3 x4 x5 y0 y1 y2 y3 y4 y5
 refine tk0 (i := 0) (v := ?vp0) rfl (Or.inl ⟨by rfl, ?hyp0⟩) (by assumption) ?rep0
 case hyp0 => intro w hSw; (try dsimp only at hSw); (go_simp <;> with_reducible rfl)
 try simp only [na1, na2, na3, Act.put, na4, na5, na6]
 refine tk0 (i := 1) (v := ?vp1) rfl (Or.inl ⟨by rfl, ?hyp1⟩) (by assumption) ?rep1
 case hyp1 => intro w hSw; (try dsimp only at hSw); (go_simp <;> with_reducible rfl)
 try simp only [na1, na2, na3, Act.put, na4, na5, na6]
 refine tk0 (i := 3) (v := ?vp3) rfl (Or.inl ⟨by rfl, ?hyp3⟩) (by assumption) ?rep3
 case hyp3 => intro w hSw; (try dsimp only at hSw); (go_simp <;> with_reducible rfl)
 try simp only [na1, na2, na3, Act.put, na4, na5, na6]
 refine tk0 (i := 6) (v := ?vp6) rfl (Or.inl ⟨by rfl, ?hyp6⟩) (by assumption) ?rep6
 case hyp6 => intro w hSw; (try dsimp only at hSw); (go_simp <;> with_reducible rfl)
 try simp only [na1, na2, na3, Act.put, na4, na5, na6]
 refine tk0 (i := 7) (v := ?vp7) rfl (Or.inl ⟨by rfl, ?hyp7⟩) (by assumption) ?rep7
 case hyp7 => intro w hSw; (try dsimp only at hSw); (go_simp <;> with_reducible rfl)
 try simp only [na1, na2, na3, Act.put, na4, na5, na6]
 refine tk0 (i := 9) (v := ?vp9) rfl (Or.inl ⟨by rfl, ?hyp9⟩) (by assumption) ?rep9
 case hyp9 => intro w hSw; (try dsimp only at hSw); (go_simp <;> with_reducible rfl)
 try simp only [na1, na2, na3, Act.put, na4, na5, na6]
 refine tk0 (i := 13) (v := ?vp13) rfl (Or.inl ⟨by rfl, ?hyp13⟩) (by assumption) ?rep13
 case hyp13 => intro w hSw; (try dsimp only at hSw); (go_simp <;> with_reducible rfl)
 try simp only [na1, na2, na3, Act.put, na4, na5, na6]
 refine rd1 (i := 2) rfl (fun K hK => ?_)
 go_simp
 go_wp2_with (go_at_call 14; (with_reducible refine (rlo_any a0 a1 _ _ (HX.out.below HAD.out)).mono ?_); rintro e wA ⟨vA, rfl, hvA, hbA⟩)
 refine hK.out _ _ (kd12 N3.out hbA hh) (fun hh => ?_)
 clear hK K
 try simp only [na1, na2, na3, Act.put, na4, na5, na6]
 have BA := Lib.hid (bt HAD.out hbA)
 refine rd1 (i := 4) rfl (fun K hK => ?_)
 go_simp
 go_wp2_with (go_at_call 14; (with_reducible refine (rlo_any p0 p1 _ _ (HY.out.below BA.out)).mono ?_); rintro e wB ⟨vB, rfl, hvB, hbB⟩)
 refine hK.out _ _ (kd12 N3.out hbB hh) (fun hh => ?_)
 clear hK K
 try simp only [na1, na2, na3, Act.put, na4, na5, na6]
 have BB := Lib.hid (bt BA.out hbB)
 refine rd1 (i := 5) rfl (fun K hK => ?_)
 go_simp
 go_wp2_with (go_at_call 46; (with_reducible refine (stepf_any a0 p0 _ _ _ (hvA.below hbB) hvB S1.out S2.out S3.out S4.out).mono ?_); rintro e wC ⟨vC, rfl, hvC, hbC⟩)
 refine hK.out _ _ (kd12 N3.out hbC hh) (fun hh => ?_)
 clear hK K
 try simp only [na1, na2, na3, Act.put, na4, na5, na6]
 have BC := Lib.hid (bt BB.out hbC)
 rw [HQ0.out] at hvC
 refine rd1 (i := 8) rfl (fun K hK => ?_)
 go_simp
 go_wp2_with (go_at_call 9; (with_reducible refine (rhi_any a0 a1 _ _ (HX.out.below BC.out)).mono ?_); rintro e wD ⟨vD, rfl, hvD, hbD⟩)
 refine hK.out _ _ (kd12 N3.out hbD hh) (fun hh => ?_)
 clear hK K
 try simp only [na1, na2, na3, Act.put, na4, na5, na6]
 have BD := Lib.hid (bt BC.out hbD)
 refine rd1 (i := 10) rfl (fun K hK => ?_)
 go_simp
 go_wp2_with (go_at_call 9; (with_reducible refine (rhi_any p0 p1 _ _ (HY.out.below BD.out)).mono ?_); rintro e wF ⟨vF, rfl, hvF, hbF⟩)
 refine hK.out _ _ (kd12 N3.out hbF hh) (fun hh => ?_)
 clear hK K
 try simp only [na1, na2, na3, Act.put, na4, na5, na6]
 have BF := Lib.hid (bt BD.out hbF)
 refine rd1 (i := 11) rfl (fun K hK => ?_)
 go_simp
 go_wp2_with (go_at_call 46; (with_reducible refine (stepf_any a1 p1 _ _ _ (hvD.below hbF) hvF S5.out S6.out S7.out S8.out).mono ?_); rintro e wG ⟨vG, rfl, hvG, hbG⟩)
 refine hK.out _ _ (kd12 N3.out hbG hh) (fun hh => ?_)
 clear hK K
 try simp only [na1, na2, na3, Act.put, na4, na5, na6]
 have BG := Lib.hid (bt BF.out hbG)
 rw [HQ1.out] at hvG
 refine rd1 (i := 12) rfl (fun K hK => ?_)
 go_simp
 go_wp2_with (go_at_call 47; (with_reducible refine (span_any q0 q1 _ _ _ (hvC.below (bt (bt hbD hbF) hbG)) hvG S12.out S13.out HCM.out).mono ?_); rintro e wI ⟨vI, rfl, hvI, hbI⟩)
 refine hK.out _ _ (kd12 N3.out hbI hh) (fun hh => ?_)
 clear hK K
 try simp only [na1, na2, na3, Act.put, na4, na5, na6]
 have BI := Lib.hid (bt BG.out hbI)
 refine rd1 (i := 14) rfl (fun K hK => ?_)
 go_simp
 go_wp2_with (go_at_call 48; (with_reducible refine (rround_any q0 q1 k HK.out z HZK.out _ _ hvI S9.out S11.out).mono ?_); rintro e wJ ⟨vJ, rfl, hvJ, hbJ⟩)
 refine hK.out _ _ (kd12 N3.out hbJ hh) (fun hh => ?_)
 clear hK K
 try simp only [na1, na2, na3, Act.put, na4, na5, na6]
 have BJ := Lib.hid (bt BI.out hbJ)
 obtain ⟨za, zb, rfl, hz1, hz2⟩ := hvJ
 have e0 : W.drew.heap[w.heap.size + 1 + 1]? = _ := HB3.out
 have eA := blk_keep e0 hbA (blk_lt e0)
 have eB := blk_keep eA hbB (blk_lt eA)
 have eC := blk_keep eB hbC (blk_lt eB)
 have eD := blk_keep eC hbD (blk_lt eC)
 have eF := blk_keep eD hbF (blk_lt eD)
 have eG := blk_keep eF hbG (blk_lt eF)
 have eI := blk_keep eG hbI (blk_lt eG)
 have eJ := blk_keep eI hbJ (blk_lt eI)
 have E : Hid (wJ.heap[w.heap.size + 1 + 1]? = some (.cells (arr6 r30 r30) 29 (0, 0))) := eJ
 have HV1 := Lib.hid hz1
 have HV2 := Lib.hid hz2
 obtain ⟨g0, g1, g2, g3, g4, g5, f0, f1, f2, f3, f4, f5⟩ := fac6 (x := r30) (y := r30) E.out
 clear e0 eA eB eC eD eF eG eI eJ hz1 hz2
 refine rd1 (i := 15) rfl (fun K hK => ?_)
 go_simp
 refine hK.out _ _ (ks12 (Nat.le_refl _) N0.out N0.out N0.out N0.out N0.out N0.out N1.out N1.out N1.out N1.out N1.out N1.out (below6r (Below.refl _ _) (Nat.le_refl _)) hh) (fun hh => ?_)
 clear hK K
 try simp only [na1, na2, na3, Act.put, na4, na5, na6]
 refine wpAnyH_done (by kernel_rfl) ?_ _
 obtain ⟨h0, h1, h2, h3, h4, h5, _, _, _, _, _, _⟩ := fac6 (x := za) (y := zb) (set6r (x := za) (y := zb) E.out)
 go_wp2_with fail
 refine bodyPost_ret (v := rngV za zb) (by simp [results, Try.results28, go_sem, h0, h1, h2, h3, h4, h5]) rfl ⟨_, rfl, ⟨za, zb, rfl, IsRat.set6r HV1.out E.out, IsRat.set6r HV2.out E.out⟩, below6r BJ.out (by omega)⟩
end Go.Proofs.Ytfjcccpibhhncaa

namespace Go.Proofs.Ytfjcccpibhhncaa
open Go.RowKit

set_option maxRecDepth 100000 in
set_option maxHeartbeats 2000000 in
theorem part_ok (lo hi : Rat) (v : Value) (w : World) (h : IsRng w v lo hi) (h0 : 0 ≤ sgnI (decide (lo.num < 0)) lo.num.natAbs) (h1 : cmpR hi 1 ≤ 0) (s1 : szR hi 274877906944) : Calls Try.prog 27 #[v] w (RetBool true w) := by
 have HR := Lib.hid h
 obtain ⟨x, y, rfl, _, _⟩ := h
 have c0 : decide (sgnI (decide (lo.num < 0)) lo.num.natAbs ≥ 0) = true := decide_eq_true h0
 have c1 : decide (cmpR hi 1 ≤ 0) = true := decide_eq_true h1
 have S1 := Lib.hid s1
 have H0 := Lib.hid h0
 have H1 := Lib.hid h1
 clear s1 h0 h1
 have S2 : Hid (szR 1 274877906944) := one_szR _ (by omega)
 go_enter Try.func27, Try.ntmps27
 go_wp2_with fail
 have hal := below1 w (.cells (arr6 x y) 29)
 generalize hW0 : w.alloc (.cells (arr6 x y) 29) = W at *
 have hB : W.heap[w.heap.size]? = some (.cells (arr6 x y) 29 (0, 0)) := by rw [← hW0]; exact blk_new _ _ _
 have HAL := Lib.hid hal
 clear hW0 hal
 refine (rlo_any lo hi _ _ (HR.out.below HAL.out)).mono ?_
 rintro e wA ⟨vA, rfl, hvA, hbA⟩
 have BA := Lib.hid (bt HAL.out hbA)
 have eA := blk_keep hB hbA (blk_lt hB)
 obtain ⟨a1, c1', a2, c2', rfl, _, _⟩ := hvA.opened
 clear hB hvA hbA
 go_wp2_with fail
 refine (sign_any _ _ lo.num.natAbs _ _ _ _ _).mono ?_
 rintro e wB ⟨rfl, hbB⟩
 have BB := Lib.hid (bt BA.out hbB)
 have eB := blk_keep eA hbB (blk_lt eA)
 obtain ⟨x0, x1, x2, x3, x4, x5, _, _, _, _, _, _⟩ := fac6 (x := x) (y := y) eB
 clear eA hbB
 go_wp2_with fail
 refine (rhi_any lo hi _ _ (HR.out.below BB.out)).mono ?_
 rintro e wC ⟨vC, rfl, hvC, hbC⟩
 have BC := Lib.hid (bt BB.out hbC)
 clear x0 x1 x2 x3 x4 x5 eB
 go_wp2_with fail
 refine (one_any _).mono ?_
 rintro e wD ⟨vD, rfl, hvD, hbD⟩
 have BD := Lib.hid (bt BC.out hbD)
 go_wp2_with fail
 refine (cmpRat_any hi 1 _ _ _ (hvC.below hbD) hvD S1.out S2.out).mono ?_
 rintro e wE ⟨rfl, hbE⟩
 have BE := Lib.hid (bt BD.out hbE)
 clear hvC hvD hbC hbD hbE
 go_wp2_with fail
 go_ret
 exact ⟨by simp [c1], BE.out⟩
set_option maxRecDepth 100000 in
set_option maxHeartbeats 2000000 in
theorem Step_ok (a0 a1 p0 p1 : Rat) (k : Nat) (vc vr : Value) (w : World) (hc : IsRng w vc a0 a1) (hr : IsRng w vr p0 p1) (q0 q1 : Rat)
  (P1 : Hid (∀ W v, IsRng W v a0 a1 → Calls Try.prog 27 #[v] W (RetBool true W))) (P2 : Hid (∀ W v, IsRng W v p0 p1 → Calls Try.prog 27 #[v] W (RetBool true W)))
  (HS : Hid (∀ W v u, IsRng W v a0 a1 → IsRng W u p0 p1 → Calls Try.prog 28 #[v, u, .int .i64 k] W (RetRng q0 q1 W))) :
  Calls Try.prog 12 #[vc, vr, .int .i64 k] w (RetRngE q0 q1 0 w) := by
 have HX := Lib.hid hc
 have HY := Lib.hid hr
 obtain ⟨x, y, rfl, _, _⟩ := hc
 obtain ⟨x', y', rfl, _, _⟩ := hr
 go_enter Try.func12, Try.ntmps12
 go_wp2_with fail
 generalize hW0 : ((w.alloc (.cells (arr6 x y) 29)).alloc (.cells (arr6 x' y') 29)).alloc (.cells _ _) = W at *
 obtain ⟨hal, hB1, hB2, hB3, hWs⟩ := boxesS w _ _ _ _ _ _ W hW0.symm
 have HAL := Lib.hid hal
 clear hW0 hal hWs
 refine (P1.out _ _ (HX.out.below HAL.out)).mono ?_
 rintro e wA ⟨rfl, hb⟩
 have e1 := blk_keep hB1 hb (blk_lt hB1)
 have e2 := blk_keep hB2 hb (blk_lt hB2)
 have e3 := blk_keep hB3 hb (blk_lt hB3)
 have BA := Lib.hid (bt HAL.out hb)
 obtain ⟨y0, y1, y2, y3, y4, y5, _, _, _, _, _, _⟩ := fac6 (x := x') (y := y') e2
 clear hB1 hB2 hB3 hb
 go_wp2_with fail
 refine (P2.out _ _ (HY.out.below BA.out)).mono ?_
 rintro e wB ⟨rfl, hb⟩
 have f1 := blk_keep e1 hb (blk_lt e1)
 have f2 := blk_keep e2 hb (blk_lt e2)
 have f3 := blk_keep e3 hb (blk_lt e3)
 have BB := Lib.hid (bt BA.out hb)
 clear e1 e2 e3 hb y0 y1 y2 y3 y4 y5
 obtain ⟨x0, x1, x2, x3, x4, x5, _, _, _, _, _, _⟩ := fac6 (x := x) (y := y) f1
 obtain ⟨y0, y1, y2, y3, y4, y5, _, _, _, _, _, _⟩ := fac6 (x := x') (y := y') f2
 go_wp2_with fail
 refine (HS.out _ _ _ (HX.out.below BB.out) (HY.out.below BB.out)).mono ?_
 rintro e wC ⟨v, rfl, ⟨za, zb, rfl, hz1, hz2⟩, hb⟩
 have E : Hid (wC.heap[w.heap.size + 1 + 1]? = some (.cells (arr6 r30 r30) 29 (0, 0))) := blk_keep f3 hb (blk_lt f3)
 have BC := Lib.hid (bt BB.out hb)
 have HV1 := Lib.hid hz1
 have HV2 := Lib.hid hz2
 clear x0 x1 x2 x3 x4 x5 y0 y1 y2 y3 y4 y5 f1 f2 f3 hz1 hz2 hb
 obtain ⟨g0, g1, g2, g3, g4, g5, f0, f1, f2, f3, f4, f5⟩ := fac6 (x := r30) (y := r30) E.out
 go_wp2_with fail
 obtain ⟨h0, h1, h2, h3, h4, h5, _, _, _, _, _, _⟩ := fac6 (x := za) (y := zb) (set6r (x := za) (y := zb) E.out)
 refine bodyPost_ret (v := .tuple #[rngV za zb, .int .i64 0]) (by simp [results, Try.results12, go_sem, h0, h1, h2, h3, h4, h5]) rfl ⟨_, rfl, ⟨za, zb, rfl, IsRat.set6r HV1.out E.out, IsRat.set6r HV2.out E.out⟩, below6r BC.out (by omega)⟩
theorem txt_half : strB (txtQ (1 / 2)) = { data := #[49, 47, 50] } := by decide +kernel
set_option maxRecDepth 100000 in
set_option maxHeartbeats 2000000 in
theorem rtext_half (v : Value) (w : World) (h : IsRng w v (1 / 2) (1 / 2)) : Calls Try.prog 35 #[v] w (fun e w' => e = .returned (.string { data := #[91, 49, 47, 50, 44, 49, 47, 50, 93] }) ∧ Below w.heap.size w w') := by
 have HT : Hid (∀ W v, IsRat W v (1 / 2) → Calls Try.prog 57 #[v] W (fun e w' => e = .returned (.string { data := #[49, 47, 50] }) ∧ Below W.heap.size W w')) := fun W v h => by
  have := textRat_any (1 / 2) v W h ⟨by decide +kernel, by decide +kernel⟩
  unfold RetStr at this
  rw [txt_half] at this
  exact this
 obtain ⟨x, y, rfl, h1, h2⟩ := h
 have HX := Lib.hid h1
 have HY := Lib.hid h2
 clear h1 h2
 go_enter Try.func35, Try.ntmps35
 go_wp2_with fail
 have hal := below1 w (.cells (arr6 x y) 29)
 generalize hW0 : w.alloc (.cells (arr6 x y) 29) = W at *
 have hB : W.heap[w.heap.size]? = some (.cells (arr6 x y) 29 (0, 0)) := by rw [← hW0]; exact blk_new _ _ _
 obtain ⟨x0, x1, x2, y0, y1, y2, _, _, _, _, _, _⟩ := fac6 (x := x) (y := y) hB
 have HAD := Lib.hid hal.drew
 have N3 : Hid (w.heap.size ≤ W.heap.size) := hal.size
 clear hW0 hal hB
 refine wp_region_held_drew (S := (fun w' => Below (w.heap.size) W w' ∧ w'.cell? ⟨w.heap.size, 0, none⟩ = some (.bool x.b) ∧ w'.cell? ⟨w.heap.size, 1, none⟩ = some (.slice x.a x.n x.c) ∧ w'.cell? ⟨w.heap.size, 2, none⟩ = some (.slice x.d x.m x.e) ∧ w'.cell? ⟨w.heap.size, 3, none⟩ = some (.bool y.b) ∧ w'.cell? ⟨w.heap.size, 4, none⟩ = some (.slice y.a y.n y.c) ∧ w'.cell? ⟨w.heap.size, 5, none⟩ = some (.slice y.d y.m y.e))) (by kernel_rfl) ⟨(Below.refl _ _).drew, x0, x1, x2, y0, y1, y2⟩ (fun hh => ?_)
 clear x0 x1 x2 y0 y1 y2
 refine tk0 (i := 0) (v := ?vp0) rfl (Or.inl ⟨by rfl, ?hyp0⟩) (by assumption) ?rep0
 case hyp0 => intro w hSw; (try dsimp only at hSw); (go_simp <;> with_reducible rfl)
 try simp only [na1, na2, na3, Act.put, na4, na5, na6]
 refine tk0 (i := 1) (v := ?vp1) rfl (Or.inl ⟨by rfl, ?hyp1⟩) (by assumption) ?rep1
 case hyp1 => intro w hSw; (try dsimp only at hSw); (go_simp <;> with_reducible rfl)
 try simp only [na1, na2, na3, Act.put, na4, na5, na6]
 refine tk0 (i := 5) (v := ?vp5) rfl (Or.inl ⟨by rfl, ?hyp5⟩) (by assumption) ?rep5
 case hyp5 => intro w hSw; (try dsimp only at hSw); (go_simp <;> with_reducible rfl)
 try simp only [na1, na2, na3, Act.put, na4, na5, na6]
 refine tk0 (i := 6) (v := ?vp6) rfl (Or.inl ⟨by rfl, ?hyp6⟩) (by assumption) ?rep6
 case hyp6 => intro w hSw; (try dsimp only at hSw); (go_simp <;> with_reducible rfl)
 try simp only [na1, na2, na3, Act.put, na4, na5, na6]
 refine rd1 (i := 2) rfl (fun K hK => ?_)
 go_simp
 go_wp2_with (go_at_call 57; (with_reducible refine (HT.out _ _ (HX.out.below HAD.out)).mono ?_); rintro e wA ⟨rfl, hbA⟩)
 refine hK.out _ _ (kd6 N3.out hbA hh) (fun hh => ?_)
 clear hK K
 try simp only [na1, na2, na3, Act.put, na4, na5, na6]
 have BA := Lib.hid (bt HAD.out hbA)
 refine tk0 (i := 3) (v := ?vp3) rfl (Or.inl ⟨by rfl, ?hyp3⟩) (by assumption) ?rep3
 case hyp3 => intro w hSw; (try dsimp only at hSw); (go_simp <;> with_reducible rfl)
 try simp only [na1, na2, na3, Act.put, na4, na5, na6]
 refine tk0 (i := 4) (v := ?vp4) rfl (Or.inl ⟨by rfl, ?hyp4⟩) (by assumption) ?rep4
 case hyp4 => intro w hSw; (try dsimp only at hSw); (go_simp <;> with_reducible rfl)
 try simp only [na1, na2, na3, Act.put, na4, na5, na6]
 refine rd1 (i := 7) rfl (fun K hK => ?_)
 go_simp
 go_wp2_with (go_at_call 57; (with_reducible refine (HT.out _ _ (HY.out.below BA.out)).mono ?_); rintro e wB ⟨rfl, hbB⟩)
 refine hK.out _ _ (kd6 N3.out hbB hh) (fun hh => ?_)
 clear hK K
 try simp only [na1, na2, na3, Act.put, na4, na5, na6]
 have BB := Lib.hid (bt BA.out hbB)
 refine tk0 (i := 8) (v := ?vp8) rfl (Or.inl ⟨by rfl, ?hyp8⟩) (by assumption) ?rep8
 case hyp8 => intro w hSw; (try dsimp only at hSw); (go_simp <;> with_reducible rfl)
 try simp only [na1, na2, na3, Act.put, na4, na5, na6]
 refine tk0 (i := 9) (v := ?vp9) rfl (Or.inl ⟨by rfl, ?hyp9⟩) (by assumption) ?rep9
 case hyp9 => intro w hSw; (try dsimp only at hSw); (go_simp <;> with_reducible rfl)
 try simp only [na1, na2, na3, Act.put, na4, na5, na6]
 refine tk0 (i := 10) (v := ?vp10) rfl (Or.inl ⟨by rfl, ?hyp10⟩) (by assumption) ?rep10
 case hyp10 => intro w hSw; (try dsimp only at hSw); (go_simp <;> with_reducible rfl)
 try simp only [na1, na2, na3, Act.put, na4, na5, na6]
 refine wpAnyH_done (by kernel_rfl) ?_ _
 have hst : (({ data := #[91] } ++ { data := #[49, 47, 50] } ++ { data := #[44] } ++ { data := #[49, 47, 50] } ++ { data := #[93] } : ByteArray)) = { data := #[91, 49, 47, 50, 44, 49, 47, 50, 93] } := by decide +kernel
 go_wp2_with fail
 go_ret
 exact ⟨by rw [hst]; rfl, BB.out⟩
def ruA5 : Ru := ⟨1, 2, 1, 1, 0, 0, 0, 2, 0, 0, 0, 0, 0⟩
theorem play_A : playE ruA5 [1, 0, 2, 0, 3, 0, 0, 0] = (⟨5, 0, 0, 0, false, false, false, false⟩, 8, 0) := by kernel_rfl
theorem down_half : downQ (1 / 2) 4 = 1 / 2 := by decide +kernel
theorem up_half : upQ (1 / 2) 4 = 1 / 2 := by decide +kernel
theorem ints_new8 (w : World) (a b c d e f g h : Int) (t : TypeId) : IntsOf (w.alloc (.cells #[.int .i64 a, .int .i64 b, .int .i64 c, .int .i64 d, .int .i64 e, .int .i64 f, .int .i64 g, .int .i64 h] t)) (.slice (some ⟨w.heap.size, 0, none⟩) 8 8) [a, b, c, d, e, f, g, h] := by
 have hB := blk_new w #[.int .i64 a, .int .i64 b, .int .i64 c, .int .i64 d, .int .i64 e, .int .i64 f, .int .i64 g, .int .i64 h] t
 refine ⟨_, 8, rfl, fun _ => ⟨w.heap.size, 0, rfl, blk_lt hB, fun i hi => ?_⟩⟩
 match i, hi with
 | 0, _ => exact blk_cell hB 0 _ rfl
 | 1, _ => exact blk_cell hB 1 _ rfl
 | 2, _ => exact blk_cell hB 2 _ rfl
 | 3, _ => exact blk_cell hB 3 _ rfl
 | 4, _ => exact blk_cell hB 4 _ rfl
 | 5, _ => exact blk_cell hB 5 _ rfl
 | 6, _ => exact blk_cell hB 6 _ rfl
 | 7, _ => exact blk_cell hB 7 _ rfl
 | i + 8, hi => simp at hi; omega
set_option maxRecDepth 100000 in
set_option maxHeartbeats 2000000 in
theorem awake05_any (w : World) : Calls Try.prog 17 #[] w (RetBool true w) := by
 have HP : Hid (∀ W v, IsRng W v 0 0 → Calls Try.prog 27 #[v] W (RetBool true W)) := fun W v h => part_ok 0 0 v W h (by decide +kernel) (by decide +kernel) ⟨by decide +kernel, by decide +kernel⟩
 have HP2 : Hid (∀ W v, IsRng W v (1 / 2) (1 / 2) → Calls Try.prog 27 #[v] W (RetBool true W)) := fun W v h => part_ok _ _ v W h (by decide +kernel) (by decide +kernel) ⟨by decide +kernel, by decide +kernel⟩
 have HS : Hid (∀ W v u, IsRng W v 0 0 → IsRng W u (1 / 2) (1 / 2) → Calls Try.prog 28 #[v, u, .int .i64 (4 : Nat)] W (RetRng (1 / 2) (1 / 2) W)) := fun W v u h1 h2 => by
  have := step_any 0 0 (1 / 2) (1 / 2) 4 (by omega) 4 (by decide) v u W h1 h2 (1 / 2) (1 / 2) (by decide +kernel) (by decide +kernel) ⟨by decide +kernel, by decide +kernel⟩ ⟨by decide +kernel, by decide +kernel⟩ ⟨by decide +kernel, by decide +kernel⟩ ⟨by decide +kernel, by decide +kernel⟩ ⟨by decide +kernel, by decide +kernel⟩ ⟨by decide +kernel, by decide +kernel⟩ ⟨by decide +kernel, by decide +kernel⟩ ⟨by decide +kernel, by decide +kernel⟩ ⟨by decide +kernel, by decide +kernel⟩ ⟨by decide +kernel, by decide +kernel⟩ ⟨by decide +kernel, by decide +kernel⟩ (by decide +kernel)
  rw [down_half, up_half] at this
  exact this
 have HST : Hid (∀ W v u, IsRng W v 0 0 → IsRng W u (1 / 2) (1 / 2) → Calls Try.prog 12 #[v, u, .int .i64 4] W (RetRngE (1 / 2) (1 / 2) 0 W)) := fun W v u h1 h2 => Step_ok 0 0 (1 / 2) (1 / 2) 4 v u W h1 h2 _ _ HP HP2 HS
 have HPL : Hid (∀ W v, IntsOf W v [1, 0, 2, 0, 3, 0, 0, 0] → Calls Try.prog 34 #[ruV ruA5, v] W (RetPl (⟨5, 0, 0, 0, false, false, false, false⟩, 8, 0) W)) := fun W v h => by
  rw [← play_A]
  exact Play_any ruA5 _ v W h
 go_enter Try.func17, Try.ntmps17
 go_wp2_with fail
 refine (new_any 1 2 _ (by omega) (by omega) (by omega) (by omega) (by omega)).mono ?_
 rintro e w1 h1
 have h1' : ∃ v, e = .returned (.tuple #[v, .int .i64 0]) ∧ IsRat w1 v (1 / 2) ∧ Below w.heap.size w w1 := h1
 obtain ⟨v, rfl, hv, hb1⟩ := h1'
 obtain ⟨x, rfl⟩ := hv.open3
 have HV := Lib.hid (hv.below (below1 w1 (.cells x.arr 27)))
 have B1 := Lib.hid (ba (o := .cells x.arr 27) hb1)
 clear h1 hv hb1
 go_wp2_with fail
 refine (only_any (1 / 2) _ _ HV.out).mono ?_
 rintro e w2 ⟨v, rfl, hv, hb2⟩
 have B2 := Lib.hid (bt B1.out hb2)
 clear hb2
 go_wp2_with fail
 refine (HST.out _ _ _ ⟨r30, r30, rfl, IsRat.zero _, IsRat.zero _⟩ hv).mono ?_
 rintro e w3 ⟨v3, rfl, ⟨za, zb, rfl, hz1, hz2⟩, hb3⟩
 have B3 := Lib.hid (ba (o := .cells (arr6 za zb) 29) (bt B2.out hb3))
 have HZ : Hid (IsRng (w3.alloc (.cells (arr6 za zb) 29)) (rngV za zb) (1 / 2) (1 / 2)) := ⟨za, zb, rfl, hz1.below (below1 _ _), hz2.below (below1 _ _)⟩
 have E3 := Lib.hid (blk_new w3 (arr6 za zb) 29)
 clear hv hb3 hz1 hz2
 go_wp2_with fail
 have HI := ints_new8 ((w3.alloc (.cells (arr6 za zb) 29)).alloc (.cells (ruA ruA5) 63)) 1 0 2 0 3 0 0 0 3
 rw [World.size_alloc, World.size_alloc] at HI
 refine (HPL.out _ _ HI).mono ?_
 rintro e w4 ⟨rfl, hb4⟩
 have h5 : Below (w3.alloc (.cells (arr6 za zb) 29)).heap.size (w3.alloc (.cells (arr6 za zb) 29)) (w4.alloc (.cells (rnA ⟨5, 0, 0, 0, false, false, false, false⟩) 66)) := ba (bt (below2 _ _ _) hb4)
 have E5 := blk_keep E3.out h5 (blk_lt E3.out)
 have HZ5 := Lib.hid (HZ.out.below h5)
 have B5 := Lib.hid (bt B3.out h5)
 obtain ⟨x0, x1, x2, x3, x4, x5, _, _, _, _, _, _⟩ := fac6 (x := za) (y := zb) E5
 clear HI h5 E5 hb4
 go_wp2_with fail
 refine (rtext_half _ _ HZ5.out).mono ?_
 rintro e w6 ⟨rfl, hb6⟩
 have E6 := blk_keep (blk_new w4 (rnA ⟨5, 0, 0, 0, false, false, false, false⟩) 66) hb6 (by rw [World.size_alloc]; omega)
 have B6 := Lib.hid (bt B5.out hb6)
 obtain ⟨g0, _, _, _, _, _, _, _⟩ := rn8 E6
 clear x0 x1 x2 x3 x4 x5 hb6 E6
 go_wp2_with fail
 go_ret
 exact ⟨rfl, B6.out⟩
end Go.Proofs.Ytfjcccpibhhncaa

namespace Go.Proofs.Ytfjcccpibhhncaa
open Go.RowKit

def partB (lo hi : Rat) : Bool := decide (0 ≤ sgnI (decide (lo.num < 0)) lo.num.natAbs) && decide (cmpR hi 1 ≤ 0)
def inB (lo hi : Rat) : Bool := hasB 0 1 lo && hasB 0 1 hi
theorem sgn_ge (q : Rat) : decide (0 ≤ sgnI (decide (q.num < 0)) q.num.natAbs) = decide (0 ≤ q) := by
 have h := sgnI_neg q
 have e : (q.num < 0) ↔ q < 0 := by rw [Rat.lt_iff]; simp
 rw [decide_eq_decide] at h ⊢
 constructor
 ·
  intro h1
  have : ¬ q < 0 := fun h2 => by have := h.2 (e.2 h2); omega
  grind
 ·
  intro h1
  have : ¬ q.num < 0 := fun h2 => by have := e.1 h2; grind
  have h3 := fun h4 => this (h.1 h4)
  omega
theorem part_in {lo hi : Rat} (h : lo ≤ hi) : partB lo hi = inB lo hi := by
 unfold partB inB hasB
 rw [sgn_ge, Bool.eq_iff_iff]
 simp only [Bool.and_eq_true, decide_eq_true_eq]
 unfold cmpR
 constructor
 ·
  rintro ⟨h1, h2⟩
  refine ⟨⟨?_, ?_⟩, ?_, ?_⟩ <;> grind
 ·
  rintro ⟨⟨h1, h2⟩, h3, h4⟩
  refine ⟨?_, ?_⟩ <;> grind
set_option maxRecDepth 100000 in
set_option maxHeartbeats 2000000 in
theorem part_any (lo hi : Rat) (v : Value) (w : World) (h : IsRng w v lo hi) (s1 : szR hi 274877906944) : Calls Try.prog 27 #[v] w (RetBool (partB lo hi) w) := by
 have HR := Lib.hid h
 obtain ⟨x, y, rfl, _, _⟩ := h
 have S1 := Lib.hid s1
 have HF : Hid (partB lo hi = (decide (0 ≤ sgnI (decide (lo.num < 0)) lo.num.natAbs) && decide (cmpR hi 1 ≤ 0))) := rfl
 clear s1
 have S2 : Hid (szR 1 274877906944) := one_szR _ (by omega)
 go_enter Try.func27, Try.ntmps27
 go_wp2_with fail
 have hal := below1 w (.cells (arr6 x y) 29)
 generalize hW0 : w.alloc (.cells (arr6 x y) 29) = W at *
 have hB : W.heap[w.heap.size]? = some (.cells (arr6 x y) 29 (0, 0)) := by rw [← hW0]; exact blk_new _ _ _
 have HAL := Lib.hid hal
 clear hW0 hal
 refine (rlo_any lo hi _ _ (HR.out.below HAL.out)).mono ?_
 rintro e wA ⟨vA, rfl, hvA, hbA⟩
 have BA := Lib.hid (bt HAL.out hbA)
 have eA := blk_keep hB hbA (blk_lt hB)
 have HVA := Lib.hid hvA
 obtain ⟨zA, rfl⟩ := hvA.open3
 clear hB hvA hbA
 go_wp2_with fail
 refine (signR_any lo _ _ HVA.out).mono ?_
 rintro e wB ⟨rfl, hbB⟩
 have BB := Lib.hid (bt BA.out hbB)
 have eB := blk_keep eA hbB (blk_lt eA)
 obtain ⟨x0, x1, x2, x3, x4, x5, _, _, _, _, _, _⟩ := fac6 (x := x) (y := y) eB
 clear eA hbB eB HVA
 generalize sgnI (decide (lo.num < 0)) lo.num.natAbs = sg at *
 by_cases c0 : 0 ≤ sg
 ·
  have t0 : decide (sg ≥ 0) = true := decide_eq_true c0
  have HF2 : Hid (partB lo hi = decide (cmpR hi 1 ≤ 0)) := by show _ = _; rw [HF.out, decide_eq_true c0]; rfl
  clear c0 HF
  go_wp2_with fail
  refine (rhi_any lo hi _ _ (HR.out.below BB.out)).mono ?_
  rintro e wC ⟨vC, rfl, hvC, hbC⟩
  have BC := Lib.hid (bt BB.out hbC)
  have HVC := Lib.hid hvC
  clear x0 x1 x2 x3 x4 x5 hvC hbC
  go_wp2_with fail
  refine (one_any _).mono ?_
  rintro e wD ⟨vD, rfl, hvD, hbD⟩
  have BD := Lib.hid (bt BC.out hbD)
  replace HVC := Lib.hid (HVC.out.below hbD)
  have HVD := Lib.hid hvD
  clear hvD hbD
  go_wp2_with fail
  refine (cmpRat_any hi 1 _ _ _ HVC.out HVD.out S1.out S2.out).mono ?_
  rintro e wE ⟨rfl, hbE⟩
  have BE := Lib.hid (bt BD.out hbE)
  clear hbE
  go_wp2_with fail
  go_ret
  exact ⟨by rw [HF2.out]; simp, BE.out⟩
 ·
  have t0 : decide (sg ≥ 0) = false := decide_eq_false c0
  have HF2 : Hid (partB lo hi = false) := by show _ = _; rw [HF.out, decide_eq_false c0]; rfl
  clear c0 HF
  go_wp2_with fail
  go_ret
  exact ⟨by rw [HF2.out]; rfl, BB.out⟩
def stepQ (a b p q : Rat) (k : Nat) : Rat × Rat × Int := if inB a b && inB p q then (downQ (a + p * (1 - a)) k, upQ (b + q * (1 - b)) k, 0) else (0, 0, 1)
theorem more_sz {a r : Rat} (h1 : szR a 10000) (h2 : szR r 10000) : szR (a + r * (1 - a)) 1000000 := szR_mono (szR_add h1 (szR_mul h2 (szR_sub (one_szR 1 (by omega)) h1))) (by omega)
end Go.Proofs.Ytfjcccpibhhncaa

namespace Go.Proofs.Ytfjcccpibhhncaa
open Go.RowKit

abbrev Ent := Int × Rat × Rat
def Ent7 (R : World → Value → Rat → Prop) (w : World) (b o : Nat) (e : Ent) : Prop :=
 ∃ x y : R3, w.cell? ⟨b, o, none⟩ = some (.int .i64 e.1) ∧ w.cell? ⟨b, o + 1, none⟩ = some (.bool x.b) ∧ w.cell? ⟨b, o + 2, none⟩ = some (.slice x.a x.n x.c) ∧ w.cell? ⟨b, o + 3, none⟩ = some (.slice x.d x.m x.e) ∧ w.cell? ⟨b, o + 4, none⟩ = some (.bool y.b) ∧ w.cell? ⟨b, o + 5, none⟩ = some (.slice y.a y.n y.c) ∧ w.cell? ⟨b, o + 6, none⟩ = some (.slice y.d y.m y.e) ∧ R w x.val e.2.1 ∧ R w y.val e.2.2
def TabOf (R : World → Value → Rat → Prop) (w : World) (v : Value) (es : List Ent) : Prop :=
 ∃ ao cap, v = .slice ao es.length cap ∧ (0 < es.length → ∃ b off, ao = some ⟨b, off, none⟩ ∧ b < w.heap.size ∧ ∀ i, i < es.length → Ent7 R w b (off + i * 7) (es.getD i (0, 0, 0)))
theorem Ent7.below {R : World → Value → Rat → Prop} (hR : ∀ w w' v q, R w v q → Below w.heap.size w w' → R w' v q) {w w' : World} {b o : Nat} {e : Ent} (h : Ent7 R w b o e) (hb : Below w.heap.size w w') (hl : b < w.heap.size) : Ent7 R w' b o e := by
 obtain ⟨x, y, h0, h1, h2, h3, h4, h5, h6, h7, h8⟩ := h
 have c : ∀ j v, w.cell? ⟨b, j, none⟩ = some v → w'.cell? ⟨b, j, none⟩ = some v := fun j v h => (hb.cell (p := ⟨b, j, none⟩) hl).trans h
 exact ⟨x, y, c _ _ h0, c _ _ h1, c _ _ h2, c _ _ h3, c _ _ h4, c _ _ h5, c _ _ h6, hR _ _ _ _ h7 hb, hR _ _ _ _ h8 hb⟩
theorem TabOf.below {R : World → Value → Rat → Prop} (hR : ∀ w w' v q, R w v q → Below w.heap.size w w' → R w' v q) {w w' : World} {v : Value} {es : List Ent} (h : TabOf R w v es) (hb : Below w.heap.size w w') : TabOf R w' v es := by
 obtain ⟨ao, cap, rfl, h⟩ := h
 refine ⟨ao, cap, rfl, fun hl => ?_⟩
 obtain ⟨b, off, rfl, hlt, h⟩ := h hl
 exact ⟨b, off, rfl, Nat.lt_of_lt_of_le hlt hb.size, fun i hi => (h i hi).below hR hb hlt⟩
def EntRow (R : World → Value → Rat → Prop) (w : World) (xs : List Value) (es : List Ent) : Prop :=
 xs.length = es.length * 7 ∧ ∀ j, j < es.length → ∃ x y : R3, xs[j * 7]? = some (.int .i64 (es.getD j (0, 0, 0)).1) ∧ xs[j * 7 + 1]? = some (.bool x.b) ∧ xs[j * 7 + 2]? = some (.slice x.a x.n x.c) ∧ xs[j * 7 + 3]? = some (.slice x.d x.m x.e) ∧ xs[j * 7 + 4]? = some (.bool y.b) ∧ xs[j * 7 + 5]? = some (.slice y.a y.n y.c) ∧ xs[j * 7 + 6]? = some (.slice y.d y.m y.e) ∧ R w x.val (es.getD j (0, 0, 0)).2.1 ∧ R w y.val (es.getD j (0, 0, 0)).2.2
theorem EntRow.mono {R : World → Value → Rat → Prop} {w w' : World} {xs : List Value} {es : List Ent} (h : EntRow R w xs es) (hr : ∀ v q, R w v q → R w' v q) : EntRow R w' xs es :=
 ⟨h.1, fun j hj => by obtain ⟨x, y, h0, h1, h2, h3, h4, h5, h6, h7, h8⟩ := h.2 j hj; exact ⟨x, y, h0, h1, h2, h3, h4, h5, h6, hr _ _ h7, hr _ _ h8⟩⟩
theorem EntRow.nil (R : World → Value → Rat → Prop) (w : World) : EntRow R w [] [] := ⟨rfl, fun j hj => absurd hj (by simp)⟩
abbrev RawE := Int × (Int × Int) × (Int × Int)
def RawAt (w : World) (b o : Nat) (r : RawE) : Prop :=
 w.cell? ⟨b, o, none⟩ = some (.int .i64 r.1) ∧ w.cell? ⟨b, o + 1, none⟩ = some (.int .i64 r.2.1.1) ∧ w.cell? ⟨b, o + 2, none⟩ = some (.int .i64 r.2.1.2) ∧ w.cell? ⟨b, o + 3, none⟩ = some (.int .i64 r.2.2.1) ∧ w.cell? ⟨b, o + 4, none⟩ = some (.int .i64 r.2.2.2)
def RawsOf (w : World) (v : Value) (rs : List RawE) : Prop :=
 ∃ ao cap, v = .slice ao rs.length cap ∧ (0 < rs.length → ∃ b off, ao = some ⟨b, off, none⟩ ∧ b < w.heap.size ∧ ∀ i, i < rs.length → RawAt w b (off + i * 5) (rs.getD i (0, (0, 0), (0, 0))))
theorem RawAt.below {w w' : World} {b o : Nat} {r : RawE} {n : Nat} (h : RawAt w b o r) (hb : Below n w w') (hl : b < n) : RawAt w' b o r := by
 obtain ⟨h0, h1, h2, h3, h4⟩ := h
 have c : ∀ j v, w.cell? ⟨b, j, none⟩ = some v → w'.cell? ⟨b, j, none⟩ = some v := fun j v h => (hb.cell (p := ⟨b, j, none⟩) hl).trans h
 exact ⟨c _ _ h0, c _ _ h1, c _ _ h2, c _ _ h3, c _ _ h4⟩
theorem RawsOf.below {w w' : World} {v : Value} {rs : List RawE} (h : RawsOf w v rs) (hb : Below w.heap.size w w') : RawsOf w' v rs := by
 obtain ⟨ao, cap, rfl, h⟩ := h
 refine ⟨ao, cap, rfl, fun hl => ?_⟩
 obtain ⟨b, off, rfl, hlt, h⟩ := h hl
 exact ⟨b, off, rfl, Nat.lt_of_lt_of_le hlt hb.size, fun i hi => (h i hi).below hb hlt⟩
def hiE (r : RawE) : Rat := hiQ (fracQ r.2.1.1 r.2.1.2) (fracQ r.2.2.1 r.2.2.2)
end Go.Proofs.Ytfjcccpibhhncaa

namespace Go.Proofs.Ytfjcccpibhhncaa
open Go.RowKit

theorem cmp_le0 {x y : Rat} : cmpR x y ≤ 0 ↔ x ≤ y := by
 unfold cmpR
 split
 ·
  constructor
  ·
   intro _; grind
  ·
   intro _; omega
 ·
  split
  ·
   constructor
   ·
    intro h; omega
   ·
    intro h; grind
  ·
   constructor
   ·
    intro _; grind
   ·
    intro _; omega
theorem cmp_lt0 {x y : Rat} : cmpR x y < 0 ↔ x < y := by
 unfold cmpR
 split
 ·
  constructor
  ·
   intro _; assumption
  ·
   intro _; omega
 ·
  split
  ·
   constructor
   ·
    intro h; omega
   ·
    intro h; grind
  ·
   constructor
   ·
    intro h; omega
   ·
    intro h; grind
theorem partB_iff {lo hi : Rat} : partB lo hi = true ↔ 0 ≤ lo ∧ hi ≤ 1 := by
 unfold partB
 rw [Bool.and_eq_true, sgn_ge, decide_eq_true_iff, decide_eq_true_iff, cmp_le0]
theorem rat_mul_mono {a b c d : Rat} (h0 : 0 ≤ c) (h1 : a ≤ b) (h2 : c ≤ d) (h3 : 0 ≤ b) : a * c ≤ b * d := by
 have e1 : a * c ≤ b * c := Rat.mul_le_mul_of_nonneg_right h1 h0
 have e2 : b * c ≤ b * d := Rat.mul_le_mul_of_nonneg_left h2 h3
 grind
theorem step_mono {a b p q : Rat} (h1 : partB a b = true) (h2 : partB p q = true) (hab : a ≤ b) (hpq : p ≤ q) : cmpR (a + p * (1 - a)) (b + q * (1 - b)) ≤ 0 := by
 rw [partB_iff] at h1 h2
 rw [cmp_le0]
 have := rat_mul_mono (a := 1 - b) (b := 1 - a) (c := 1 - q) (d := 1 - p) (by grind) (by grind) (by grind) (by grind)
 grind
set_option maxHeartbeats 1000000 in
theorem stepM_any (a b p q : Rat) (k : Nat) (hk : k ≤ 256) (z : Int) (hz : min (max z 0) 256 = (k : Int)) (vc vr : Value) (w : World) (hc : IsRng w vc a b) (hr : IsRng w vr p q) (h1 : partB a b = true) (h2 : partB p q = true) (hab : a ≤ b) (hpq : p ≤ q)
  (s0 : szR a 10000) (s1 : szR b 10000) (s2 : szR p 10000) (s3 : szR q 10000) : Calls Try.prog 28 #[vc, vr, .int .i64 z] w (RetRng (downQ (a + p * (1 - a)) k) (upQ (b + q * (1 - b)) k) w) :=
 step_any a b p q k hk z hz vc vr w hc hr _ _ rfl rfl (szR_mono s0 (by omega)) (szR_mono s2 (by omega)) (szR_mono (szR_sub (one_szR 1 (by omega)) s0) (by omega)) (szR_mono (szR_mul s2 (szR_sub (one_szR 1 (by omega)) s0)) (by omega))
  (szR_mono s1 (by omega)) (szR_mono s3 (by omega)) (szR_mono (szR_sub (one_szR 1 (by omega)) s1) (by omega)) (szR_mono (szR_mul s3 (szR_sub (one_szR 1 (by omega)) s1)) (by omega)) (szR_mono (more_sz s0 s2) (by omega)) (szR_mono (more_sz s1 s3) (by omega)) (szR_neg (szR_mono (more_sz s1 s3) (by omega))) (step_mono h1 h2 hab hpq)
end Go.Proofs.Ytfjcccpibhhncaa

namespace Go.Proofs.Ytfjcccpibhhncaa
open Go.RowKit

theorem floorQ_eq (y : Rat) : floorQ y = (y.floor : Rat) := by
 unfold floorQ mkQ
 rw [Rat.mkRat_one, Rat.floor_def]
 congr 1
 unfold flN sg
 have hd : 0 < y.den := y.den_pos
 by_cases h : y.num < 0
 ·
  obtain ⟨m, hm⟩ : ∃ m : Nat, y.num = -(m : Int) := ⟨y.num.natAbs, by omega⟩
  rw [decide_eq_true h, if_pos rfl, hm, Int.natAbs_neg, Int.natAbs_natCast, Int.neg_ediv]
  have hb : (-(m : Int) < 0) := by rw [← hm]; exact h
  by_cases hr : m % y.den = 0
  ·
   have hdv : ((y.den : Int)) ∣ (m : Int) := Int.natCast_dvd_natCast.2 (Nat.dvd_of_mod_eq_zero hr)
   rw [if_neg (fun h => h.2 hr), if_pos hdv]
   simp
  ·
   have hdv : ¬ ((y.den : Int)) ∣ (m : Int) := fun h => hr (Nat.mod_eq_zero_of_dvd (Int.natCast_dvd_natCast.1 h))
   rw [if_pos ⟨hb, hr⟩, if_neg hdv]
   have : (y.den : Int).sign = 1 := Int.sign_eq_one_of_pos (by omega)
   rw [this]
   push_cast
   omega
 ·
  obtain ⟨m, hm⟩ : ∃ m : Nat, y.num = (m : Int) := ⟨y.num.natAbs, by omega⟩
  rw [decide_eq_false h, hm, Int.natAbs_natCast, if_neg (by simp), if_neg (fun h => absurd h.1 (by omega))]
  simp
theorem pw2_nat (k : Nat) : pw2 k 0 = (((2 ^ k : Nat) : Int) : Rat) := by
 unfold pw2 mkQ sg
 rw [Nat.pow_zero, Rat.mkRat_one]
 rfl
theorem pw2_mulinv (k : Nat) : pw2 k 0 * pw2 0 k = 1 := by
 unfold pw2 mkQ sg
 rw [Nat.pow_zero]
 simp only [Bool.false_eq_true, if_false]
 rw [Rat.mkRat_eq_div, Rat.mkRat_eq_div]
 have h : (((2 ^ k : Nat) : Int) : Rat) ≠ 0 := by
  have := Nat.two_pow_pos k
  intro h0
  have : ((2 ^ k : Nat) : Int) = 0 := by exact_mod_cast h0
  omega
 generalize 2 ^ k = m at *
 rw [show (((1 : Nat) : Int) : Rat) = 1 from rfl, show (((m : Nat) : Int) : Rat) = (m : Rat) from rfl] at *
 generalize (m : Rat) = a at *
 have e : ((1 : Nat) : Rat) = 1 := rfl
 rw [e]
 grind
theorem pw2_pos1 (k : Nat) : 0 < pw2 k 0 := by
 rw [pw2_nat]
 have := Nat.two_pow_pos k
 have h : (0 : Int) < ((2 ^ k : Nat) : Int) := by omega
 exact_mod_cast h
theorem pw2_pos2 (k : Nat) : 0 < pw2 0 k := by
 have h1 := pw2_mulinv k
 have h2 := pw2_pos1 k
 rcases Decidable.em (0 < pw2 0 k) with h | h
 ·
  exact h
 ·
  exfalso
  have h3 : pw2 0 k ≤ 0 := by grind
  have := Rat.mul_le_mul_of_nonneg_left h3 (Rat.le_of_lt h2)
  grind
theorem down_le (x : Rat) (k : Nat) : downQ x k ≤ x := by
 rw [← floor_down, floorQ_eq]
 have h := Rat.mul_le_mul_of_nonneg_right (Rat.floor_le (x * pw2 k 0)) (Rat.le_of_lt (pw2_pos2 k))
 rw [Rat.mul_assoc, pw2_mulinv, Rat.mul_one] at h
 exact h
theorem down_mono {x y : Rat} (h : x ≤ y) (k : Nat) : downQ x k ≤ downQ y k := by
 rw [← floor_down, ← floor_down, floorQ_eq, floorQ_eq]
 refine Rat.mul_le_mul_of_nonneg_right ?_ (Rat.le_of_lt (pw2_pos2 k))
 have h1 := Rat.mul_le_mul_of_nonneg_right h (Rat.le_of_lt (pw2_pos1 k))
 exact Rat.intCast_le_intCast.2 (Rat.le_floor_iff.2 (Rat.le_trans (Rat.floor_le _) h1))
theorem up_ge (x : Rat) (k : Nat) : x ≤ upQ x k := by
 unfold upQ
 have := down_le (-x) k
 grind
theorem up_mono {x y : Rat} (h : x ≤ y) (k : Nat) : upQ x k ≤ upQ y k := by
 unfold upQ
 have := down_mono (x := -y) (y := -x) (by grind) k
 grind
theorem down_unit_sz {x : Rat} {k : Nat} (hk : k ≤ 256) (h0 : -1 ≤ x) (h1 : x ≤ 1) : szR (downQ x k) 20 := by
 rw [← floor_down, floorQ_eq]
 refine szR_mono (szR_mul (j := 5) (szR_int ?_ (by omega)) (szR_pw2 (show 0 ≤ 256 by omega) hk)) (by omega)
 have e1 := Rat.mul_le_mul_of_nonneg_right h0 (Rat.le_of_lt (pw2_pos1 k))
 have e2 := Rat.mul_le_mul_of_nonneg_right h1 (Rat.le_of_lt (pw2_pos1 k))
 have f1 : (-((2 ^ k : Nat) : Int)) ≤ (x * pw2 k 0).floor := Rat.le_floor_iff.2 (by rw [Rat.intCast_neg, ← pw2_nat]; grind)
 have f2 : (x * pw2 k 0).floor ≤ ((2 ^ k : Nat) : Int) := Rat.intCast_le_intCast.1 (by rw [← pw2_nat]; have := Rat.floor_le (x * pw2 k 0); grind)
 have h2 : 2 ^ k ≤ 2 ^ 256 := Nat.pow_le_pow_right (by omega) hk
 have h3 : 2 ^ 256 < b64 ^ 5 := by unfold b64; decide +kernel
 omega
theorem up_unit_sz {x : Rat} {k : Nat} (hk : k ≤ 256) (h0 : -1 ≤ x) (h1 : x ≤ 1) : szR (upQ x k) 20 := by
 unfold upQ
 exact szR_neg (down_unit_sz hk (by grind) (by grind))
theorem stepQ_ok {a b p q : Rat} {k : Nat} (h1 : partB a b = true) (h2 : partB p q = true) (hab : a ≤ b) (hpq : p ≤ q) : stepQ a b p q k = (downQ (a + p * (1 - a)) k, upQ (b + q * (1 - b)) k, 0) := by
 unfold stepQ
 rw [← part_in hab, ← part_in hpq, h1, h2]
 rfl
end Go.Proofs.Ytfjcccpibhhncaa

namespace Go.Proofs.Ytfjcccpibhhncaa
open Go.RowKit

theorem pw2_more {k n : Nat} (h : k ≤ n) : pw2 n 0 = pw2 k 0 * (((2 ^ (n - k) : Nat) : Int) : Rat) := by
 rw [pw2_nat, pw2_nat, ← Rat.intCast_mul, ← Int.natCast_mul, ← Nat.pow_add]
 rw [show k + (n - k) = n by omega]
theorem down_bits {k n : Nat} (h : k ≤ n) (x : Rat) : downQ x k ≤ downQ x n := by
 have e : (((x * pw2 k 0).floor * ((2 ^ (n - k) : Nat) : Int) : Int) : Rat) ≤ x * pw2 n 0 := by
  rw [Rat.intCast_mul, pw2_more h, ← Rat.mul_assoc]
  refine Rat.mul_le_mul_of_nonneg_right (Rat.floor_le _) ?_
  have h0 : (0 : Int) ≤ ((2 ^ (n - k) : Nat) : Int) := Int.natCast_nonneg _
  exact_mod_cast h0
 have g := Rat.intCast_le_intCast.2 (Rat.le_floor_iff.2 e)
 rw [Rat.intCast_mul] at g
 rw [← floor_down, ← floor_down, floorQ_eq, floorQ_eq]
 have h1 := Rat.mul_le_mul_of_nonneg_right g (Rat.le_of_lt (pw2_pos2 n))
 refine Rat.le_trans ?_ h1
 have h2 := pw2_mulinv k
 have h3 := pw2_mulinv n
 rw [pw2_more h] at h3
 generalize ((x * pw2 k 0).floor : Rat) = m at *
 generalize (((2 ^ (n - k) : Nat) : Int) : Rat) = d at *
 generalize pw2 k 0 = a at *
 generalize pw2 0 k = b at *
 generalize pw2 0 n = c at *
 have e1 : b = d * c := by
  have : b * (a * d * c) = b := by rw [h3, Rat.mul_one]
  have h4 : b * (a * d * c) = (a * b) * (d * c) := by grind
  rw [h4, h2, Rat.one_mul] at this
  exact this.symm
 rw [e1, ← Rat.mul_assoc]
 exact Rat.le_refl
theorem up_bits {k n : Nat} (h : k ≤ n) (x : Rat) : upQ x n ≤ upQ x k := by
 unfold upQ
 have := down_bits h (-x)
 grind
theorem narrow_in {a b p q a' b' p' q' : Rat} {k n : Nat} (hk : k ≤ n) (h0 : 0 ≤ a) (h1 : b ≤ 1) (h2 : 0 ≤ p) (h3 : q ≤ 1) (ha : a ≤ a') (hab : a' ≤ b') (hb : b' ≤ b) (hp : p ≤ p') (hpq : p' ≤ q') (hq : q' ≤ q) :
  downQ (a + p * (1 - a)) k ≤ downQ (a' + p' * (1 - a')) n ∧ upQ (b' + q' * (1 - b')) n ≤ upQ (b + q * (1 - b)) k := by
 constructor
 ·
  refine Rat.le_trans (down_mono ?_ k) (down_bits hk _)
  have g1 := Rat.mul_nonneg (a := a' - a) (b := 1 - p) (by grind) (by grind)
  have g2 := Rat.mul_nonneg (a := p' - p) (b := 1 - a') (by grind) (by grind)
  grind
 ·
  refine Rat.le_trans (up_bits hk _) (up_mono ?_ k)
  have g1 := Rat.mul_nonneg (a := b - b') (b := 1 - q') (by grind) (by grind)
  have g2 := Rat.mul_nonneg (a := q - q') (b := 1 - b) (by grind) (by grind)
  grind
theorem keep_lo {a p : Rat} {k : Nat} (h1 : a ≤ 1) (h2 : 0 ≤ p) : downQ a k ≤ downQ (a + p * (1 - a)) k := by
 refine down_mono ?_ k
 have g1 := Rat.mul_nonneg (a := p) (b := 1 - a) h2 (by grind)
 grind
theorem keep_hi {b q : Rat} {k : Nat} (h1 : b ≤ 1) (h2 : 0 ≤ q) : b ≤ upQ (b + q * (1 - b)) k := by
 refine Rat.le_trans ?_ (up_ge _ k)
 have g1 := Rat.mul_nonneg (a := q) (b := 1 - b) h2 (by grind)
 grind
end Go.Proofs.Ytfjcccpibhhncaa

namespace Go.Proofs.Ytfjcccpibhhncaa
open Go.RowKit

def RetStP (r : Rat × Rat × Int) (w : World) (e : Ending) (w' : World) : Prop := RetRngE r.1 r.2.1 r.2.2 w e w'
set_option maxRecDepth 100000 in
set_option maxHeartbeats 4000000 in
theorem cStep_any (a b p q : Rat) (k : Nat) (vx vy : Value) (w : World) (hx : IsRng w vx a b) (hy : IsRng w vy p q) (hk : k ≤ 256) (z : Int) (hz : min (max z 0) 256 = (k : Int)) (hab : a ≤ b) (hpq : p ≤ q) (s0 : szR a 10000) (s1 : szR b 10000) (s2 : szR p 10000) (s3 : szR q 10000) :
  Calls Try.prog 12 #[vx, vy, .int .i64 z] w (RetStP (stepQ a b p q k) w) := by
 obtain ⟨x1, x2, rfl, h1, h2⟩ := hx
 obtain ⟨y1, y2, rfl, h3, h4⟩ := hy
 have HS := Lib.hid (((((Sx.init w).addP h1).addP h2).addP h3).addP h4)
 have HK := Lib.hid hk
 have HZK := Lib.hid hz
 have HAB := Lib.hid hab
 have HPQ := Lib.hid hpq
 have S0 := Lib.hid s0
 have S1 := Lib.hid s1
 have S2 := Lib.hid s2
 have S3 := Lib.hid s3
 clear h1 h2 h3 h4 hk hz hab hpq s0 s1 s2 s3
 go_enter Try.func12, Try.ntmps12
 go_wp2_with fail
 generalize hW1 : (((w).alloc (.cells _ _)).alloc (.cells _ _)).alloc (.cells _ _) = W1 at *
 replace HS : Hid (Sx w W1 [(w.heap.size + 2, #[.bool false, .slice none 0 0, .slice none 0 0, .bool false, .slice none 0 0, .slice none 0 0], 29), (w.heap.size + 1, arr6 y1 y2, 29), (w.heap.size, arr6 x1 x2, 29)] [(true, y2.val, q), (true, y1.val, p), (true, x2.val, b), (true, x1.val, a)]) := by subst hW1; exact (((HS.out).alloc (B := w.heap.size) rfl (by rfl)).alloc (B := w.heap.size + 1) (by simp) (by rfl)).alloc (B := w.heap.size + 2) (by simp) (by rfl)
 clear hW1
 cases t2 : partB a b with
 | true =>
  refine (part_any a b _ _ (rngP (HS.out.p 3 _ _ rfl) (HS.out.p 2 _ _ rfl)) (szR_mono S1.out (by omega))).mono ?_
  rw [t2]
  rintro e w3 ⟨rfl, hb3⟩
  replace HS := Lib.hid (HS.out.below hb3)
  clear hb3
  obtain ⟨b1c0, b1c1, b1c2, b1c3, b1c4, b1c5, b1f0, b1f1, b1f2, b1f3, b1f4, b1f5⟩ := fac6 (x := y1) (y := y2) (HS.out.at 1 _ _ _ rfl)
  have b1l := blk_lt (HS.out.at 1 _ _ _ rfl)
  go_wp2_with fail
  clear b1c0 b1c1 b1c2 b1c3 b1c4 b1c5 b1f0 b1f1 b1f2 b1f3 b1f4 b1f5 b1l
  cases t4 : partB p q with
  | true =>
   refine (part_any p q _ _ (rngP (HS.out.p 1 _ _ rfl) (HS.out.p 0 _ _ rfl)) (szR_mono S3.out (by omega))).mono ?_
   rw [t4]
   rintro e w5 ⟨rfl, hb5⟩
   replace HS := Lib.hid (HS.out.below hb5)
   clear hb5
   obtain ⟨b0c0, b0c1, b0c2, b0c3, b0c4, b0c5, b0f0, b0f1, b0f2, b0f3, b0f4, b0f5⟩ := fac6 (x := x1) (y := x2) (HS.out.at 2 _ _ _ rfl)
   have b0l := blk_lt (HS.out.at 2 _ _ _ rfl)
   obtain ⟨b1c0, b1c1, b1c2, b1c3, b1c4, b1c5, b1f0, b1f1, b1f2, b1f3, b1f4, b1f5⟩ := fac6 (x := y1) (y := y2) (HS.out.at 1 _ _ _ rfl)
   have b1l := blk_lt (HS.out.at 1 _ _ _ rfl)
   go_wp2_with fail
   clear b0c0 b0c1 b0c2 b0c3 b0c4 b0c5 b0f0 b0f1 b0f2 b0f3 b0f4 b0f5 b0l b1c0 b1c1 b1c2 b1c3 b1c4 b1c5 b1f0 b1f1 b1f2 b1f3 b1f4 b1f5 b1l
   refine (stepM_any a b p q k HK.out z HZK.out _ _ _ (rngP (HS.out.p 3 _ _ rfl) (HS.out.p 2 _ _ rfl)) (rngP (HS.out.p 1 _ _ rfl) (HS.out.p 0 _ _ rfl)) t2 t4 HAB.out HPQ.out S0.out S1.out S2.out S3.out).mono ?_
   rintro e w6 ⟨v6, rfl, ⟨z6a, z6b, rfl, hv6, hw6⟩, hb6⟩
   replace HS := Lib.hid (HS.out.below hb6)
   clear hb6
   replace HS := Lib.hid (HS.out.addP hv6)
   clear hv6
   replace HS := Lib.hid (HS.out.addP hw6)
   clear hw6
   have b2e := (HS.out.at 0 _ _ _ rfl)
   have b2c0 := blk_cell b2e 0 (.bool false) rfl
   have b2c1 := blk_cell b2e 1 (.slice none 0 0) rfl
   have b2c2 := blk_cell b2e 2 (.slice none 0 0) rfl
   have b2c3 := blk_cell b2e 3 (.bool false) rfl
   have b2c4 := blk_cell b2e 4 (.slice none 0 0) rfl
   have b2c5 := blk_cell b2e 5 (.slice none 0 0) rfl
   have b2f0 := blk_frozen b2e 0
   have b2f1 := blk_frozen b2e 1
   have b2f2 := blk_frozen b2e 2
   have b2f3 := blk_frozen b2e 3
   have b2f4 := blk_frozen b2e 4
   have b2f5 := blk_frozen b2e 5
   have b2l := blk_lt b2e
   clear b2e
   go_wp2_with fail
   clear b2c0 b2c1 b2c2 b2c3 b2c4 b2c5 b2f0 b2f1 b2f2 b2f3 b2f4 b2f5 b2l
   generalize hW7 : ((((((w6).setCell _ _).setCell _ _).setCell _ _).setCell _ _).setCell _ _).setCell _ _ = W7 at *
   replace HS : Hid (Sx w W7 [(w.heap.size + 2, arr6 z6a z6b, 29), (w.heap.size + 1, arr6 y1 y2, 29), (w.heap.size, arr6 x1 x2, 29)] [(true, z6b.val, (upQ (b + q * (1 - b)) k)), (true, z6a.val, (downQ (a + p * (1 - a)) k)), (true, y2.val, q), (true, y1.val, p), (true, x2.val, b), (true, x1.val, a)]) := by subst hW7; exact (HS.out).st_RR 0 r30 r30 z6a z6b rfl
   clear hW7
   have HR : Hid (stepQ a b p q k = ((downQ (a + p * (1 - a)) k), (upQ (b + q * (1 - b)) k), 0)) := by show _ = _; unfold stepQ; rw [← part_in HAB.out, ← part_in HPQ.out, t2, t4]; rfl
   obtain ⟨b2c0, b2c1, b2c2, b2c3, b2c4, b2c5, _⟩ := fac6 (x := z6a) (y := z6b) (HS.out.at 0 _ _ _ rfl)
   refine bodyPost_ret (v := .tuple #[.agg #[.bool z6a.b, .slice z6a.a z6a.n z6a.c, .slice z6a.d z6a.m z6a.e, .bool z6b.b, .slice z6b.a z6b.n z6b.c, .slice z6b.d z6b.m z6b.e], .int .i64 0]) (by simp [results, Try.results12, go_sem, b2c0, b2c1, b2c2, b2c3, b2c4, b2c5]) rfl (by rw [HR.out]; exact ⟨_, rfl, (rngP (HS.out.p 1 _ _ rfl) (HS.out.p 0 _ _ rfl)), HS.out.bel⟩)
  | false =>
   refine (part_any p q _ _ (rngP (HS.out.p 1 _ _ rfl) (HS.out.p 0 _ _ rfl)) (szR_mono S3.out (by omega))).mono ?_
   rw [t4]
   rintro e w8 ⟨rfl, hb8⟩
   replace HS := Lib.hid (HS.out.below hb8)
   clear hb8
   have b2e := (HS.out.at 0 _ _ _ rfl)
   have b2c0 := blk_cell b2e 0 (.bool false) rfl
   have b2c1 := blk_cell b2e 1 (.slice none 0 0) rfl
   have b2c2 := blk_cell b2e 2 (.slice none 0 0) rfl
   have b2c3 := blk_cell b2e 3 (.bool false) rfl
   have b2c4 := blk_cell b2e 4 (.slice none 0 0) rfl
   have b2c5 := blk_cell b2e 5 (.slice none 0 0) rfl
   have b2f0 := blk_frozen b2e 0
   have b2f1 := blk_frozen b2e 1
   have b2f2 := blk_frozen b2e 2
   have b2f3 := blk_frozen b2e 3
   have b2f4 := blk_frozen b2e 4
   have b2f5 := blk_frozen b2e 5
   have b2l := blk_lt b2e
   clear b2e
   go_wp2_with fail
   clear b2c0 b2c1 b2c2 b2c3 b2c4 b2c5 b2f0 b2f1 b2f2 b2f3 b2f4 b2f5 b2l
   generalize hW9 : ((((((w8).setCell _ _).setCell _ _).setCell _ _).setCell _ _).setCell _ _).setCell _ _ = W9 at *
   replace HS : Hid (Sx w W9 [(w.heap.size + 2, #[.bool false, .slice none 0 0, .slice none 0 0, .bool false, .slice none 0 0, .slice none 0 0], 29), (w.heap.size + 1, arr6 y1 y2, 29), (w.heap.size, arr6 x1 x2, 29)] [(true, y2.val, q), (true, y1.val, p), (true, x2.val, b), (true, x1.val, a)]) := by subst hW9; exact (HS.out).st_RR 0 r30 r30 r30 r30 rfl
   clear hW9
   have HR : Hid (stepQ a b p q k = (0, 0, 1)) := by show _ = _; unfold stepQ; rw [← part_in HAB.out, ← part_in HPQ.out, t2, t4]; rfl
   have b2e := (HS.out.at 0 _ _ _ rfl)
   have b2c0 := blk_cell b2e 0 (.bool false) rfl
   have b2c1 := blk_cell b2e 1 (.slice none 0 0) rfl
   have b2c2 := blk_cell b2e 2 (.slice none 0 0) rfl
   have b2c3 := blk_cell b2e 3 (.bool false) rfl
   have b2c4 := blk_cell b2e 4 (.slice none 0 0) rfl
   have b2c5 := blk_cell b2e 5 (.slice none 0 0) rfl
   clear b2e
   refine bodyPost_ret (v := .tuple #[.agg #[.bool false, .slice none 0 0, .slice none 0 0, .bool false, .slice none 0 0, .slice none 0 0], .int .i64 1]) (by simp [results, Try.results12, go_sem, b2c0, b2c1, b2c2, b2c3, b2c4, b2c5]) rfl (by rw [HR.out]; exact ⟨_, rfl, (rngP (isRat_r30 _) (isRat_r30 _)), HS.out.bel⟩)
 | false =>
  refine (part_any a b _ _ (rngP (HS.out.p 3 _ _ rfl) (HS.out.p 2 _ _ rfl)) (szR_mono S1.out (by omega))).mono ?_
  rw [t2]
  rintro e w10 ⟨rfl, hb10⟩
  replace HS := Lib.hid (HS.out.below hb10)
  clear hb10
  have b2e := (HS.out.at 0 _ _ _ rfl)
  have b2c0 := blk_cell b2e 0 (.bool false) rfl
  have b2c1 := blk_cell b2e 1 (.slice none 0 0) rfl
  have b2c2 := blk_cell b2e 2 (.slice none 0 0) rfl
  have b2c3 := blk_cell b2e 3 (.bool false) rfl
  have b2c4 := blk_cell b2e 4 (.slice none 0 0) rfl
  have b2c5 := blk_cell b2e 5 (.slice none 0 0) rfl
  have b2f0 := blk_frozen b2e 0
  have b2f1 := blk_frozen b2e 1
  have b2f2 := blk_frozen b2e 2
  have b2f3 := blk_frozen b2e 3
  have b2f4 := blk_frozen b2e 4
  have b2f5 := blk_frozen b2e 5
  have b2l := blk_lt b2e
  clear b2e
  go_wp2_with fail
  clear b2c0 b2c1 b2c2 b2c3 b2c4 b2c5 b2f0 b2f1 b2f2 b2f3 b2f4 b2f5 b2l
  generalize hW11 : ((((((w10).setCell _ _).setCell _ _).setCell _ _).setCell _ _).setCell _ _).setCell _ _ = W11 at *
  replace HS : Hid (Sx w W11 [(w.heap.size + 2, #[.bool false, .slice none 0 0, .slice none 0 0, .bool false, .slice none 0 0, .slice none 0 0], 29), (w.heap.size + 1, arr6 y1 y2, 29), (w.heap.size, arr6 x1 x2, 29)] [(true, y2.val, q), (true, y1.val, p), (true, x2.val, b), (true, x1.val, a)]) := by subst hW11; exact (HS.out).st_RR 0 r30 r30 r30 r30 rfl
  clear hW11
  have HR : Hid (stepQ a b p q k = (0, 0, 1)) := by show _ = _; unfold stepQ; rw [← part_in HAB.out, ← part_in HPQ.out, t2]; rfl
  have b2e := (HS.out.at 0 _ _ _ rfl)
  have b2c0 := blk_cell b2e 0 (.bool false) rfl
  have b2c1 := blk_cell b2e 1 (.slice none 0 0) rfl
  have b2c2 := blk_cell b2e 2 (.slice none 0 0) rfl
  have b2c3 := blk_cell b2e 3 (.bool false) rfl
  have b2c4 := blk_cell b2e 4 (.slice none 0 0) rfl
  have b2c5 := blk_cell b2e 5 (.slice none 0 0) rfl
  clear b2e
  refine bodyPost_ret (v := .tuple #[.agg #[.bool false, .slice none 0 0, .slice none 0 0, .bool false, .slice none 0 0, .slice none 0 0], .int .i64 1]) (by simp [results, Try.results12, go_sem, b2c0, b2c1, b2c2, b2c3, b2c4, b2c5]) rfl (by rw [HR.out]; exact ⟨_, rfl, (rngP (isRat_r30 _) (isRat_r30 _)), HS.out.bel⟩)
end Go.Proofs.Ytfjcccpibhhncaa

namespace Go.Proofs.Ytfjcccpibhhncaa
open Go.RowKit

def fillT (t : Array Value) (ds : List Nat) (f : Nat → Value) : Array Value := ds.foldl (fun t d => t.setIfInBounds d (f d)) t
def fillA (a : Act) (ds : List Nat) (f : Nat → Value) : Act := { a with tmps := fillT a.tmps ds f }
theorem fillT_get (f : Nat → Value) (j : Nat) : ∀ (ds : List Nat) (t : Array Value), (fillT t ds f)[j]? = if j ∈ ds ∧ j < t.size then some (f j) else t[j]?
 | [], t => by simp [fillT]
 | d :: ds, t => by
  have ih := fillT_get f j ds (t.setIfInBounds d (f d))
  show (fillT (t.setIfInBounds d (f d)) ds f)[j]? = _
  rw [ih, Array.size_setIfInBounds]
  by_cases h1 : j ∈ ds ∧ j < t.size
  ·
   rw [if_pos h1, if_pos ⟨List.mem_cons_of_mem _ h1.1, h1.2⟩]
  ·
   rw [if_neg h1, Array.getElem?_setIfInBounds]
   by_cases h2 : d = j
   ·
    subst h2
    rw [if_pos rfl]
    by_cases h3 : d < t.size
    ·
     rw [if_pos h3, if_pos ⟨List.mem_cons_self, h3⟩]
    ·
     rw [if_neg h3, if_neg (fun h => h3 h.2), Array.getElem?_eq_none (by omega)]
   ·
    rw [if_neg h2, if_neg (fun h => h1 ⟨by rcases List.mem_cons.1 h.1 with h | h; exact absurd h.symm h2; exact h, h.2⟩)]
theorem fillT_size (f : Nat → Value) : ∀ (ds : List Nat) (t : Array Value), (fillT t ds f).size = t.size
 | [], t => rfl
 | d :: ds, t => by
  show (fillT (t.setIfInBounds d (f d)) ds f).size = _
  rw [fillT_size, Array.size_setIfInBounds]
theorem fillA_put {a : Act} {ds : List Nat} {f : Nat → Value} {d : Nat} {v : Value} (hd : d ∈ ds) : (fillA a ds f).put (some d) v = fillA a ds (fun e => if e = d then v else f e) := by
 have e : (fillT a.tmps ds f).setIfInBounds d v = fillT a.tmps ds (fun e => if e = d then v else f e) := by
  apply Array.ext_getElem?
  intro j
  rw [Array.getElem?_setIfInBounds, fillT_get, fillT_get, fillT_size]
  by_cases h : d = j
  ·
   subst h
   rw [if_pos rfl]
   by_cases h3 : d < a.tmps.size
   ·
    rw [if_pos h3, if_pos ⟨hd, h3⟩]; simp
   ·
    rw [if_neg h3, if_neg (fun h => h3 h.2), Array.getElem?_eq_none (by omega)]
  ·
   rw [if_neg h]
   have h' : ¬ j = d := fun e => h e.symm
   simp [h']
 unfold fillA
 show ({ a with tmps := fillT a.tmps ds f } : Act).put (some d) v = _
 unfold Act.put
 simp [e]
theorem fillA_id (a : Act) (ds : List Nat) : fillA a ds (fun d => a.tmps.getD d undef) = a := by
 unfold fillA
 have e : fillT a.tmps ds (fun d => a.tmps.getD d undef) = a.tmps := by
  apply Array.ext_getElem?
  intro j
  rw [fillT_get]
  split
  ·
   rename_i h
   rw [Array.getElem?_eq_getElem h.2, Array.getD_eq_getD_getElem?, Array.getElem?_eq_getElem h.2]
   rfl
  ·
   rfl
 rw [e]
def AllM (p : Nat → Prop) : List Nat → Prop
 | [] => True
 | i :: l => p i ∧ AllM p l
theorem AllM.at {p : Nat → Prop} {i : Nat} : ∀ {l : List Nat}, AllM p l → i ∈ l → p i
 | j :: l, h, hi => by
  rcases List.mem_cons.1 hi with rfl | hi
  ·
   exact h.1
  ·
   exact h.2.at hi
def modOk (ops : Array Oper) (l0 lM : Array Bool) (M N E : List Nat) (dst : Nat → Nat) (preds : Nat → List Nat) (ds : List Nat) : Bool :=
 l0.size == ops.size && lM.size == ops.size &&
 (List.range ops.size).all (fun i => lM.getD i true == (l0.getD i true || M.contains i)) &&
 M.all (fun i => l0.getD i true == false && (match ops[i]? with
  | some o => o.dst == some (dst i) && ds.contains (dst i) && (preds i).all (fun j => M.contains j && o.after.any (fun e => Region.binds .any e && e.on == j)) &&
    o.after.all (fun e => !Region.binds .any e || l0.getD e.on false || (M.contains e.on && Nat.blt e.on i))
  | none => false)) &&
 (List.range ops.size).all (fun i => l0.getD i true || M.contains i || (match ops[i]? with
  | some o => M.all (fun j => o.after.any (fun e => Region.binds .any e && e.on == j) || M.any (fun l => Nat.blt j l && (match ops[l]? with
    | some o' => o'.after.any (fun e => Region.binds .any e && e.on == j)
    | none => false)) || (E.contains j && (match ops[j]? with
    | some oj => oj.after.all (fun e => !Region.binds .any e || l0.getD e.on false || o.after.any (fun e' => Region.binds .any e' && e'.on == e.on))
    | none => false)))
  | none => false)) &&
 M.all (fun i => M.all (fun j => i == j || dst i != dst j)) && M.all (fun i => N.contains i || E.contains i) && Region.noSelect ops &&
 E.all (fun i => M.contains i && (match ops[i]? with
  | some oi => (List.range ops.size).all (fun j => j == i || oi.after.any (fun e => Region.binds .any e && e.on == j) || (match ops[j]? with
   | some oj => oj.after.any (fun e => Region.binds .any e && e.on == i) || oi.apart ops oj
   | none => true))
  | none => false))
section
variable {P : Program} {ops : Array Oper} {Q : Exit → Act → World → Prop}
def StepM (P : Program) (ops : Array Oper) (Q : Exit → Act → World → Prop) (a0 : Act) (ds : List Nat) (W0 : World) (PV : Nat → Value → World → Prop) (dst : Nat → Nat) (preds : Nat → List Nat) (al : List Nat) (i : Nat) : Prop :=
 ∀ o, ops[i]? = some o → ∀ f w, Below W0.heap.size W0 w → (∀ j, j ∈ preds i → PV j (f (dst j)) w) →
  ∀ K' : Act → World → Prop, Shut (∀ a' w'' v, a' = (fillA a0 ds f).put o.dst v → PV i v w'' → (i ∈ al → v = .pointer (some ⟨w.heap.size, 0, none⟩)) → Below w.heap.size w w'' → K' a' w'') →
   if Region.wanted o (yielded ops (fillA a0 ds f).tmps) = true then Oper.wp P o (fillA a0 ds f) w K' Q else K' ((fillA a0 ds f).put o.dst undef) w
theorem StepM.of {a0 : Act} {ds : List Nat} {W0 : World} {PV : Nat → Value → World → Prop} {dst : Nat → Nat} {preds : Nat → List Nat} {al : List Nat} {i : Nat} {o : Oper} (ho : ops[i]? = some o)
  (h : ∀ f w, Below W0.heap.size W0 w → (∀ j, j ∈ preds i → PV j (f (dst j)) w) →
   ∀ K' : Act → World → Prop, Shut (∀ a' w'' v, a' = (fillA a0 ds f).put o.dst v → PV i v w'' → (i ∈ al → v = .pointer (some ⟨w.heap.size, 0, none⟩)) → Below w.heap.size w w'' → K' a' w'') →
   if Region.wanted o (yielded ops (fillA a0 ds f).tmps) = true then Oper.wp P o (fillA a0 ds f) w K' Q else K' ((fillA a0 ds f).put o.dst undef) w) : StepM P ops Q a0 ds W0 PV dst preds al i :=
 fun o' ho' => by rw [ho] at ho'; cases ho'; exact h
def EagerM (P : Program) (ops : Array Oper) (a0 : Act) (ds : List Nat) (W0 : World) (PV : Nat → Value → World → Prop) (dst : Nat → Nat) (preds : Nat → List Nat) (i : Nat) : Prop :=
 ∀ o, ops[i]? = some o → ∀ f w, Below W0.heap.size W0 w → (∀ j, j ∈ preds i → PV j (f (dst j)) w) →
  ∃ v, PV i v w ∧ Region.wanted o (yielded ops (fillA a0 ds f).tmps) = true ∧ ∀ u, (execOp (fillA a0 ds f).eval o).run P u = .ok (.value v) u
theorem EagerM.of {a0 : Act} {ds : List Nat} {W0 : World} {PV : Nat → Value → World → Prop} {dst : Nat → Nat} {preds : Nat → List Nat} {i : Nat} {o : Oper} (ho : ops[i]? = some o)
  (h : ∀ f w, Below W0.heap.size W0 w → (∀ j, j ∈ preds i → PV j (f (dst j)) w) →
   ∃ v, PV i v w ∧ Region.wanted o (yielded ops (fillA a0 ds f).tmps) = true ∧ ∀ u, (execOp (fillA a0 ds f).eval o).run P u = .ok (.value v) u) : EagerM P ops a0 ds W0 PV dst preds i :=
 fun o' ho' => by rw [ho] at ho'; cases ho'; exact h
theorem wpAnyH_mod {S : World → Prop} {a0 : Act} {ds : List Nat} {l0 lM : Array Bool} {M N E : List Nat} {F : Nat} {W0 : World} {PV : Nat → Value → World → Prop} {dst : Nat → Nat} {preds : Nat → List Nat} {al : List Nat}
  (hchk : modOk ops l0 lM M N E dst preds ds = true) (hQ : ∀ c a (d : Nat) v w, Q (.panic c) (Act.put a (some d) v) w → Q (.panic c) a w)
  (hst : ∀ i v w w', Below w.heap.size w w' → PV i v w → PV i v w')
  (hal : ∀ i v w, i ∈ al → PV i v w → ∃ B, v = .pointer (some ⟨B, 0, none⟩) ∧ B < w.heap.size)
  (hS : ∀ w, Below W0.heap.size W0 w → S w)
  (hstep : AllM (StepM P ops Q a0 ds W0 PV dst preds al) N) (heag : AllM (EagerM P ops a0 ds W0 PV dst preds) E) (hEal : ∀ i, i ∈ E → i ∉ al)
  (hend : ∀ f w, Below W0.heap.size W0 w → (∀ i, i ∈ M → PV i (f (dst i)) w) → (∀ i j, i ∈ M → j ∈ M → i ∈ al → j ∈ al → i ≠ j → f (dst i) ≠ f (dst j)) → wpAnyH P .any ops Q S F lM (fillA a0 ds f) w) :
  ∀ (n : Nat) (U : List Nat) (listed : Array Bool) (f : Nat → Value) (w : World), U.length = n → listed.size = ops.size →
   (∀ i, i ∉ M → listed.getD i true = l0.getD i true) → (∀ i, i ∈ M → (listed.getD i true = false ↔ i ∈ U)) → (∀ i, i ∈ U → i ∈ M) → U.Nodup → Below W0.heap.size W0 w →
   (∀ i, i ∈ M → i ∉ U → PV i (f (dst i)) w) → (∀ i j, i ∈ M → j ∈ M → i ∉ U → j ∉ U → i ∈ al → j ∈ al → i ≠ j → f (dst i) ≠ f (dst j)) →
   (∀ i, i ∈ M → i ∉ U → ∀ o, ops[i]? = some o → ∀ e, e ∈ o.after → Region.binds .any e = true → e.on ∈ U → False) →
   wpAnyH P .any ops Q S (F + n) listed (fillA a0 ds f) w := by
 unfold modOk at hchk
 simp only [Bool.and_eq_true, beq_iff_eq, List.all_eq_true, List.mem_range] at hchk
 obtain ⟨⟨⟨⟨⟨⟨⟨⟨k1, k2⟩, k3⟩, k4⟩, k5⟩, k6⟩, k7⟩, k8⟩, k9⟩ := hchk
 intro n
 induction n with
 | zero =>
  intro U listed f w hU hsz hout hin hsub hnd hb hp hdist hdc
  obtain rfl : U = [] := List.eq_nil_of_length_eq_zero hU
  have e : listed = lM := by
   apply Array.ext (by omega)
   intro i h1 h2
   have hi : i < ops.size := by omega
   have g1 : listed.getD i true = listed[i] := by simp [Array.getD_eq_getD_getElem?, h1]
   have g2 : lM.getD i true = lM[i] := by simp [Array.getD_eq_getD_getElem?, h2]
   rw [← g1, ← g2, k3 i hi]
   by_cases hm : i ∈ M
   ·
    have := hin i hm
    have h3 : M.contains i = true := by simpa using hm
    rw [h3, Bool.or_true]
    cases h4 : listed.getD i true with
    | true => rfl
    | false => exact absurd (this.1 h4) (by simp)
   ·
    have h3 : M.contains i = false := by simpa using hm
    rw [h3, Bool.or_false, hout i hm]
  rw [e]
  exact hend f w hb (fun i hi => hp i hi (by simp)) (fun i j h1 h2 => hdist i j h1 h2 (by simp) (by simp))
 | succ n ih =>
  intro U listed f w hU hsz hout hin hsub hnd hb hp hdist hdc
  have hpre : ∀ i, i ∈ U → i ∈ Region.ready .any ops listed → ∀ o, ops[i]? = some o → ∀ j, j ∈ preds i → PV j (f (dst j)) w := by
   intro i hiU hi o ho j hj
   have hm := hsub i hiU
   have h4 := k4 i hm
   rw [ho] at h4
   simp only [Bool.and_eq_true, beq_iff_eq] at h4
   obtain ⟨_, ⟨⟨hdst, hds⟩, hpr⟩, _⟩ := h4
   rw [List.all_eq_true] at hpr
   have h6 := hpr j hj
   simp only [Bool.and_eq_true] at h6
   obtain ⟨hjM, hja⟩ := h6
   have hjM : j ∈ M := by simpa using hjM
   refine hp j hjM (fun hjU => ?_)
   obtain ⟨_, o', ho', hall⟩ := mem_ready.1 hi
   rw [ho] at ho'
   cases ho'
   rw [Array.any_eq_true'] at hja
   obtain ⟨e, he, hbe⟩ := hja
   simp only [Bool.and_eq_true, beq_iff_eq] at hbe
   have h7 := hall e he hbe.1
   rw [hbe.2] at h7
   have h8 := (hin j hjM).2 hjU
   rw [Array.getD_eq_getD_getElem?] at h7 h8
   cases hx : listed[j]? with
   | none => rw [hx] at h7; simp at h7
   | some b => rw [hx] at h7 h8; simp at h7 h8; rw [h7] at h8; cases h8
  -- behind an operation of U that was ready
  have hgo : ∀ i, i ∈ U → i ∈ Region.ready .any ops listed → ∀ o, ops[i]? = some o → ∀ w'' v, PV i v w'' → (i ∈ al → v = .pointer (some ⟨w.heap.size, 0, none⟩)) → Below w.heap.size w w'' →
    wpAnyH P .any ops Q S (F + n) (listed.setIfInBounds i true) (fillA a0 ds (fun e => if e = dst i then v else f e)) w'' := by
   intro i hiU hi o ho w'' v hv hfresh hb'
   have hm := hsub i hiU
   have hdd : ∀ j, j ∈ M → j ≠ i → dst j ≠ dst i := fun j hj hne h => by
    have := k6 j hj i hm
    simp only [Bool.or_eq_true, beq_iff_eq, bne_iff_ne] at this
    rcases this with h1 | h1
    ·
     exact hne h1
    ·
     exact h1 h
   refine ih (U.erase i) _ _ _ (by rw [List.length_erase_of_mem hiU]; omega) (by rw [Array.size_setIfInBounds]; exact hsz) (fun j hj => ?_) (fun j hj => ?_) (fun j hj => hsub j (List.mem_of_mem_erase hj)) (hnd.erase i) (hb.trans (hb'.mono hb.size)) (fun j hj hju => ?_) (fun j l hj hl hju hlu hja hla hjl => ?_) (fun j hj hju o' ho' e he hbe heU => ?_)
   ·
    have hne : i ≠ j := fun h => hj (h ▸ hm)
    rw [getD_set_ne true hne]
    exact hout j hj
   ·
    by_cases hij : i = j
    ·
     subst hij
     have hlt : i < listed.size := by rw [hsz]; exact (Array.getElem?_eq_some_iff.1 ho).1
     constructor
     ·
      intro h
      rw [Array.getD_eq_getD_getElem?, Array.getElem?_setIfInBounds] at h
      simp [hlt] at h
     ·
      intro h
      exact absurd h (List.Nodup.not_mem_erase hnd)
    ·
     rw [getD_set_ne true hij, hin j hj, List.Nodup.mem_erase_iff hnd]
     constructor
     ·
      intro h; exact ⟨fun e => hij e.symm, h⟩
     ·
      intro h; exact h.2
   ·
    by_cases hij : j = i
    ·
     subst hij
     simpa using hv
    ·
     have := hp j hj (fun h => hju ((List.Nodup.mem_erase_iff hnd).2 ⟨hij, h⟩))
     show PV j (if dst j = dst i then v else f (dst j)) w''
     rw [if_neg (hdd j hj hij)]
     exact hst j _ _ _ hb' this
   ·
    show (if dst j = dst i then v else f (dst j)) ≠ (if dst l = dst i then v else f (dst l))
    have hnew : ∀ k, k ∈ M → k ≠ i → k ∉ U.erase i → k ∈ al → i ∈ al → f (dst k) ≠ v := fun k hk hki hku hka hia => by
     have h1 := hp k hk (fun h => hku ((List.Nodup.mem_erase_iff hnd).2 ⟨hki, h⟩))
     obtain ⟨B, hB, hlt⟩ := hal k _ _ hka h1
     rw [hB, hfresh hia]
     intro h
     have h2 := congrArg (fun v => match v with | Value.pointer (some a) => a.block | _ => 0) h
     dsimp only at h2
     omega
    by_cases h1 : j = i
    ·
     subst h1
     rw [if_pos rfl, if_neg (hdd l hl (fun h => hjl h.symm))]
     exact fun h => hnew l hl (fun h => hjl h.symm) hlu hla hja h.symm
    ·
     rw [if_neg (hdd j hj h1)]
     by_cases h2 : l = i
     ·
      subst h2
      rw [if_pos rfl]
      exact hnew j hj h1 hju hja hla
     ·
      rw [if_neg (hdd l hl h2)]
      exact hdist j l hj hl (fun h => hju ((List.Nodup.mem_erase_iff hnd).2 ⟨h1, h⟩)) (fun h => hlu ((List.Nodup.mem_erase_iff hnd).2 ⟨h2, h⟩)) hja hla hjl
   ·
    have heU2 : e.on ∈ U := List.mem_of_mem_erase heU
    by_cases hij : j = i
    ·
     subst hij
     obtain ⟨_, o2, ho2, hall⟩ := mem_ready.1 hi
     rw [ho'] at ho2
     cases ho2
     have h7 := hall e he hbe
     have h8 := (hin e.on (hsub _ heU2)).2 heU2
     rw [Array.getD_eq_getD_getElem?] at h7 h8
     cases hx : listed[e.on]? with
     | none => rw [hx] at h7; simp at h7
     | some b => rw [hx] at h7 h8; simp at h7 h8; rw [h7] at h8; cases h8
    ·
     exact hdc j hj (fun h => hju ((List.Nodup.mem_erase_iff hnd).2 ⟨hij, h⟩)) o' ho' e he hbe heU2
  have hdstd : ∀ i, i ∈ M → ∀ o, ops[i]? = some o → o.dst = some (dst i) ∧ dst i ∈ ds := by
   intro i hm o ho
   have h4 := k4 i hm
   rw [ho] at h4
   simp only [Bool.and_eq_true, beq_iff_eq] at h4
   obtain ⟨_, ⟨⟨hdst, hds⟩, hpr⟩, _⟩ := h4
   exact ⟨hdst, by simpa using hds⟩
  by_cases hE : ∃ i, i ∈ E ∧ i ∈ U ∧ i ∈ Region.ready .any ops listed
  ·
   obtain ⟨i, hiE, hiU, hi⟩ := hE
   obtain ⟨_, o, ho, _⟩ := mem_ready.1 hi
   obtain ⟨hdst, hds⟩ := hdstd i (hsub i hiU) o ho
   obtain ⟨v, hv, hw, hrun⟩ := heag.at hiE o ho f w hb (hpre i hiU hi o ho)
   refine wpAnyH_first (v := v) ho (Region.noSelect_spec k8) (fun c a w h => hQ c a (dst i) v w (by rw [hdst] at h; exact h)) (F + n) listed _ w ?_ hi (.inl ⟨hw, fun u _ => hrun u⟩) (hS _ hb) ?_
   ·
    intro j oj hoj hne hun hno
    have h9 := (k9 i hiE).2
    rw [ho] at h9
    simp only [List.all_eq_true, List.mem_range] at h9
    have h10 := h9 j (Array.getElem?_eq_some_iff.1 hoj).1
    rw [hoj] at h10
    simp only [Bool.or_eq_true, beq_iff_eq, hne, false_or] at h10
    rcases h10 with h10 | h10 | h10
    ·
     exfalso
     rw [Array.any_eq_true'] at h10
     obtain ⟨e, he, hbe⟩ := h10
     simp only [Bool.and_eq_true, beq_iff_eq] at hbe
     obtain ⟨_, o2, ho2, hall⟩ := mem_ready.1 hi
     rw [ho] at ho2
     cases ho2
     have h11 := hall e he hbe.1
     rw [hbe.2] at h11
     rw [Array.getD_eq_getD_getElem?] at h11 hun
     cases hx : listed[j]? with
     | none => rw [hx] at h11; simp at h11
     | some b => rw [hx] at h11 hun; simp at h11 hun; rw [h11] at hun; cases hun
    ·
     exfalso
     rw [Array.any_eq_true'] at h10
     obtain ⟨e, he, hbe⟩ := h10
     simp only [Bool.and_eq_true, beq_iff_eq] at hbe
     exact hno e he hbe.1 hbe.2
    ·
     exact h10
   ·
    rw [hdst, fillA_put hds]
    exact hgo i hiU hi o ho w v hv (fun h => absurd h (hEal i hiE)) (Below.refl _ _)
  ·
   -- what is ready lies in U
   have hready : ∀ i, i ∈ Region.ready .any ops listed → i ∈ U := by
    intro i hi
    obtain ⟨g1, o, ho, hall⟩ := mem_ready.1 hi
    by_cases hm : i ∈ M
    ·
     exact (hin i hm).1 g1
    ·
     exfalso
     have hlt : i < ops.size := (Array.getElem?_eq_some_iff.1 ho).1
     have h5 := k5 i hlt
     rw [hout i hm] at g1
     have h3 : M.contains i = false := by simpa using hm
     rw [g1, h3, ho] at h5
     simp only [Bool.false_or, List.all_eq_true] at h5
     have hne : U ≠ [] := by intro h; rw [h] at hU; simp at hU
     have hu : U.max hne ∈ U := List.max_mem hne
     have hmax : ∀ j, j ∈ U → j ≤ U.max hne := fun j hj => List.le_max_of_mem hj
     generalize U.max hne = u at hu hmax
     have h6 := h5 u (hsub u hu)
     rw [Bool.or_eq_true, Bool.or_eq_true] at h6
     rcases h6 with (h6 | h6) | h6
     ·
      rw [Array.any_eq_true'] at h6
      obtain ⟨e, he, hbe⟩ := h6
      simp only [Bool.and_eq_true, beq_iff_eq] at hbe
      have h7 := hall e he hbe.1
      rw [hbe.2] at h7
      have h8 := (hin u (hsub u hu)).2 hu
      rw [Array.getD_eq_getD_getElem?] at h7 h8
      cases hx : listed[u]? with
      | none => rw [hx] at h7; simp at h7
      | some b => rw [hx] at h7 h8; simp at h7 h8; rw [h7] at h8; cases h8
     ·
      rw [List.any_eq_true] at h6
      obtain ⟨l, hl, h6⟩ := h6
      rw [Bool.and_eq_true] at h6
      obtain ⟨h6a, h6b⟩ := h6
      have hlt2 : u < l := by simpa using h6a
      have hlu : l ∉ U := fun h => by have := hmax l h; omega
      cases hol : ops[l]? with
      | none => rw [hol] at h6b; simp at h6b
      | some o' =>
       rw [hol] at h6b
       simp only [Array.any_eq_true'] at h6b
       obtain ⟨e, he, hbe⟩ := h6b
       simp only [Bool.and_eq_true, beq_iff_eq] at hbe
       exact hdc l hl hlu o' hol e he hbe.1 (hbe.2 ▸ hu)
     ·
      rw [Bool.and_eq_true] at h6
      obtain ⟨h6a, h6b⟩ := h6
      cases hou : ops[u]? with
      | none => rw [hou] at h6b; simp at h6b
      | some ou =>
       rw [hou] at h6b
       simp only [Array.all_eq_true_iff_forall_mem] at h6b
       refine hE ⟨u, by simpa using h6a, hu, mem_ready.2 ⟨(hin u (hsub u hu)).2 hu, ou, hou, fun e he hbe => ?_⟩⟩
       have h7 := h6b e he
       rw [hbe] at h7
       simp only [Bool.not_true, Bool.false_or, Bool.or_eq_true] at h7
       rcases h7 with h7 | h7
       ·
        by_cases hem : e.on ∈ M
        ·
         exfalso
         have h9 := (k4 e.on hem).1
         rw [Array.getD_eq_getD_getElem?] at h7 h9
         cases hx : l0[e.on]? with
         | none => rw [hx] at h7; simp at h7
         | some b => rw [hx] at h7 h9; simp at h7 h9; rw [h7] at h9; cases h9
        ·
         have h13 : l0.getD e.on true = true ∧ e.on < l0.size := by
          rw [Array.getD_eq_getD_getElem?] at h7 ⊢
          cases hx : l0[e.on]? with
          | none => rw [hx] at h7; simp at h7
          | some b => rw [hx] at h7; exact ⟨by simpa using h7, (Array.getElem?_eq_some_iff.1 hx).1⟩
         have h14 := hout e.on hem
         rw [h13.1] at h14
         rw [Array.getD_eq_getD_getElem?] at h14 ⊢
         have h15 : e.on < listed.size := by omega
         rw [Array.getElem?_eq_getElem h15] at h14 ⊢
         simpa using h14
       ·
        rw [Array.any_eq_true'] at h7
        obtain ⟨e', he', hbe'⟩ := h7
        simp only [Bool.and_eq_true, beq_iff_eq] at hbe'
        have h8 := hall e' he' hbe'.1
        rw [hbe'.2] at h8
        exact h8
   -- something is ready: the least of U
   have hmin : ∃ i, i ∈ U ∧ ∀ j, j ∈ U → i ≤ j := by
    have hne : U ≠ [] := by intro h; rw [h] at hU; simp at hU
    refine ⟨U.min hne, List.min_mem hne, fun j hj => List.min_le_of_mem hj⟩
   have hsome : Region.ready .any ops listed ≠ [] := by
    obtain ⟨i, hi, hle⟩ := hmin
    have hm := hsub i hi
    have h4 := k4 i hm
    cases ho : ops[i]? with
    | none => rw [ho] at h4; simp at h4
    | some o =>
     rw [ho] at h4
     simp only [Bool.and_eq_true, beq_iff_eq] at h4
     obtain ⟨_, ⟨⟨_, _⟩, _⟩, h7⟩ := h4
     have : i ∈ Region.ready .any ops listed := by
      rw [mem_ready]
      refine ⟨(hin i hm).2 hi, o, ho, fun e he hbe => ?_⟩
      rw [Array.all_eq_true_iff_forall_mem] at h7
      have h8 := h7 e he
      rw [hbe] at h8
      simp only [Bool.not_true, Bool.false_or, Bool.or_eq_true, Bool.and_eq_true] at h8
      have hgd : listed.getD e.on true = true → listed.getD e.on false = true ∨ ops.size ≤ e.on := fun h => by
       rw [Array.getD_eq_getD_getElem?] at h ⊢
       cases hx : listed[e.on]? with
       | none => right; have := Array.getElem?_eq_none_iff.1 hx; omega
       | some b => left; rw [hx] at h; simpa using h
      by_cases hem : e.on ∈ M
      ·
       have hlt : e.on < i := by
        rcases h8 with h8 | h8
        ·
         exfalso
         have h9 := k4 e.on hem
         have h10 := h9.1
         rw [Array.getD_eq_getD_getElem?] at h8 h10
         cases hx : l0[e.on]? with
         | none => rw [hx] at h8; simp at h8
         | some b => rw [hx] at h8 h10; simp at h8 h10; rw [h8] at h10; cases h10
        ·
         simpa using h8.2
       have hnu : e.on ∉ U := fun h => by have := hle _ h; omega
       have h11 : listed.getD e.on true = true := by
        cases h12 : listed.getD e.on true with
        | true => rfl
        | false => exact absurd ((hin e.on hem).1 h12) hnu
       rcases hgd h11 with h | h
       ·
        exact h
       ·
        exfalso
        have := k4 e.on hem
        rw [Array.getElem?_eq_none h] at this
        simp at this
      ·
       rcases h8 with h8 | h8
       ·
        have h13 : l0.getD e.on true = true := by
         rw [Array.getD_eq_getD_getElem?] at h8 ⊢
         cases hx : l0[e.on]? with
         | none => rfl
         | some b => rw [hx] at h8; simpa using h8
        have h14 := hout e.on hem
        rw [h13] at h14
        rcases hgd h14 with h | h
        ·
         exact h
        ·
         exfalso
         rw [Array.getD_eq_getD_getElem?, Array.getElem?_eq_none (by omega)] at h8
         simp at h8
       ·
        exact absurd (by simpa using h8.1) hem
     intro h
     rw [h] at this
     cases this
   refine ⟨fun h => absurd h hsome, fun i hi => ?_⟩
   have hiU := hready i hi
   have hm := hsub i hiU
   obtain ⟨_, o, ho, _⟩ := mem_ready.1 hi
   obtain ⟨hdst, hds⟩ := hdstd i hm o ho
   refine wpOp_step ho (fun K' hK => ?_)
   have hiN : i ∈ N := by
    have := k7 i hm
    rw [Bool.or_eq_true] at this
    rcases this with h | h
    ·
     simpa using h
    ·
     exact absurd ⟨i, by simpa using h, hiU, hi⟩ hE
   refine hstep.at hiN o ho f w hb (hpre i hiU hi o ho) K' ?_
   intro a' w'' v ha' hv hfresh hb'
   refine hK _ _ ⟨hS _ (hb.trans (hb'.mono hb.size)), ?_⟩
   rw [ha', hdst, fillA_put hds]
   exact hgo i hiU hi o ho w'' v hv hfresh hb'
end
section
variable {P : Program} {ops : Array Oper} {Q : Exit → Act → World → Prop}
def pickV : List (Nat × (Value → World → Prop)) → Nat → Value → World → Prop
 | [], _ => fun _ _ => True
 | (j, p) :: l, i => if i = j then p else pickV l i
def StV : List (Nat × (Value → World → Prop)) → Prop
 | [] => True
 | (_, p) :: l => (∀ v w w', Below w.heap.size w w' → p v w → p v w') ∧ StV l
theorem StV.st : ∀ {l : List (Nat × (Value → World → Prop))}, StV l → ∀ i v w w', Below w.heap.size w w' → pickV l i v w → pickV l i v w'
 | [], _, _, _, _, _, _, _ => trivial
 | (j, p) :: l, h, i, v, w, w', hb, hp => by
  unfold pickV at hp ⊢
  split
  ·
   rename_i he; rw [if_pos he] at hp; exact h.1 v w w' hb hp
  ·
   rename_i he; rw [if_neg he] at hp; exact h.2.st i v w w' hb hp
def lookN : List (Nat × Nat) → Nat → Nat
 | [], _ => 0
 | (j, d) :: l, i => if i = j then d else lookN l i
def lookL : List (Nat × List Nat) → Nat → List Nat
 | [], _ => []
 | (j, d) :: l, i => if i = j then d else lookL l i
theorem wpAnyH_modular {S : World → Prop} {a : Act} {w : World} {fuel : Nat} {l0 : Array Bool} (M N E ds : List Nat) (lM : Array Bool) (F : Nat) (dst : List (Nat × Nat)) (preds : List (Nat × List Nat)) (al : List Nat) (pv : List (Nat × (Value → World → Prop)))
  (hf : fuel = F + M.length) (hchk : modOk ops l0 lM M N E (lookN dst) (lookL preds) ds = true) (hnd : M.Nodup) (hsz : l0.size = ops.size) (hst : StV pv)
  (hal : AllM (fun i => ∀ v w, pickV pv i v w → ∃ B, v = .pointer (some ⟨B, 0, none⟩) ∧ B < w.heap.size) al)
  (hS : ∀ w', Below w.heap.size w w' → S w')
  (hstep : AllM (StepM P ops Q a ds w (pickV pv) (lookN dst) (lookL preds) al) N) (heag : AllM (EagerM P ops a ds w (pickV pv) (lookN dst) (lookL preds)) E) (hEal : ∀ i, i ∈ E → i ∉ al)
  (hend : ∀ f w', Below w.heap.size w w' → (∀ i, i ∈ M → pickV pv i (f (lookN dst i)) w') → (∀ i j, i ∈ M → j ∈ M → i ∈ al → j ∈ al → i ≠ j → f (lookN dst i) ≠ f (lookN dst j)) → wpAnyH P .any ops Q S F lM (fillA a ds f) w') (hQ : ∀ c a (d : Nat) v w, Q (.panic c) (Act.put a (some d) v) w → Q (.panic c) a w := by exact fun _ _ _ _ _ h => h) :
  wpAnyH P .any ops Q S fuel l0 a w := by
 have k4 : ∀ i, i ∈ M → l0.getD i true = false := fun i hi => by
  have h := hchk
  unfold modOk at h
  simp only [Bool.and_eq_true, beq_iff_eq, List.all_eq_true] at h
  exact (h.1.1.1.1.1.2 i hi).1
 have h := wpAnyH_mod hchk hQ hst.st (fun i v w hi h => hal.at hi v w h) hS hstep heag hEal hend M.length M l0 (fun d => a.tmps.getD d undef) w rfl hsz (fun _ _ => rfl) (fun i hi => ⟨fun _ => hi, fun _ => k4 i hi⟩) (fun _ h => h) hnd (Below.refl _ _) (fun i hi hn => absurd hi hn) (fun i j hi _ hn => absurd hi hn) (fun i hi hn => absurd hi hn)
 rw [fillA_id] at h
 rw [hf]
 exact h
end
theorem Sx.addBox {w0 w : World} {bs : List Bx} {fs : List Fx} (h : Sx w0 w bs fs) {B T : Nat} {cs : Array Value} (hB : w.heap[B]? = some (.cells cs T (0, 0))) (h1 : w0.heap.size ≤ B) (hp : cs.toList.all plainV = true) (hn : ∀ b, b ∈ bs → b.1 ≠ B) : Sx w0 w ((B, cs, T) :: bs) fs := by
 refine ⟨h.bel, fun i b hi => ?_, ?_, h.fra⟩
 ·
  match i, hi with
  | 0, hi => simp at hi; subst hi; exact ⟨hB, h1, hp⟩
  | i + 1, hi => exact h.box i b (by simpa using hi)
 ·
  rw [List.map_cons, List.nodup_cons]
  refine ⟨fun hm => ?_, h.nod⟩
  obtain ⟨b, hb1, hb2⟩ := List.mem_map.1 hm
  exact hn b hb1 hb2
theorem Sx.lt {w0 w : World} {bs : List Bx} {fs : List Fx} (h : Sx w0 w bs fs) : ∀ b, b ∈ bs → b.1 < w.heap.size := fun b hb => by
 obtain ⟨i, hi⟩ := List.mem_iff_getElem?.1 hb
 exact blk_lt (h.box i b hi).1
end Go.Proofs.Ytfjcccpibhhncaa

namespace Go.Proofs.Ytfjcccpibhhncaa
open Go.RowKit

theorem Sx.to {w0 w W : World} {bs cs : List Bx} {fs : List Fx} (h : Sx w0 w bs fs) (e : w = W) (eb : bs = cs) : Sx w0 W cs fs := by subst e; subst eb; exact h
theorem nbs : (∀ {α : Type} {xs : List α} {i : Nat} (h : i < xs.toArray.size), xs.toArray[i] = xs[i]) ∧ (∀ {α : Type} (a : α) (l : List α) (h : 0 < (a :: l).length), (a :: l)[0] = a) ∧ (∀ {α : Type} (a : α) (l : List α) (i : Nat) (h : i + 1 < (a :: l).length), (a :: l)[i + 1] = l[i]'(by simpa using h)) ∧ (∀ {α : Type} (l : List α) (i : Nat) (a : α), l.toArray.setIfInBounds i a = (l.set i a).toArray) ∧ (∀ {α : Type} {x : α} {xs : List α} {a : α}, (x :: xs).set 0 a = a :: xs) ∧ ∀ {α : Type} {x : α} {xs : List α} {i : Nat} {a : α}, (x :: xs).set (i + 1) a = x :: xs.set i a :=
 ⟨nb1, nb2, nb3, nb4, nb5, nb6⟩
section
variable {P : Program} {ops : Array Oper} {Q : Exit → Act → World → Prop} {md : Region.Mode} {S : World → Prop}
theorem tkB {i : Nat} {oi : Oper} {v : Value} {fuel : Nat} {listed : Array Bool} {a : Act} {w : World} (hi : ops[i]? = some oi) (hy : ∀ w, S w → (execOp a.eval oi).run P w = .ok (.value v) w)
  (h : wpAnyH P md ops Q S fuel (listed.setIfInBounds i true) (a.put oi.dst v) w) (hS : S w := by assumption) (hw : Region.wanted oi (yielded ops a.tmps) = true := by first | rfl | kernel_rfl) (hs : Region.noSelect ops = true := by kernel_rfl) (hf : Region.free md ops listed i = true := by kernel_rfl)
  (hr : (Region.ready md ops listed).contains i = true := by kernel_rfl) (hQ : ∀ c a w, Q (.panic c) (a.put oi.dst v) w → Q (.panic c) a w := by exact fun _ _ _ h => h) : wpAnyH P md ops Q S (fuel + 1) listed a w :=
 tkA hi (Or.inl ⟨hw, hy⟩) hS h hs hf hr hQ
end
theorem loQ_le {a b : Rat} (h : a ≤ b) : loQ a b = a := if_pos (cmp_le0.2 h)
theorem hiQ_le {a b : Rat} (h : a ≤ b) : hiQ a b = b := by
 unfold hiQ
 have := @cmp_lt0 a b
 split
 ·
  grind
 ·
  rfl
theorem FrcAt.r3 {w : World} {b o : Nat} {q : Rat} (h : FrcAt IsRat w b o q) : ∃ x : R3, w.cell? ⟨b, o, none⟩ = some (.bool x.b) ∧ w.cell? ⟨b, o + 1, none⟩ = some (.slice x.a x.n x.c) ∧ w.cell? ⟨b, o + 2, none⟩ = some (.slice x.d x.m x.e) ∧ IsRat w x.val q := by
 obtain ⟨v0, vn, vd, h0, h1, h2, h3⟩ := h
 obtain ⟨x, hx⟩ := h3.open3
 injection hx with hx
 injection hx with hx
 simp only [List.cons.injEq, and_true] at hx
 obtain ⟨rfl, rfl, rfl⟩ := hx
 exact ⟨x, h0, h1, h2, h3⟩
end Go.Proofs.Ytfjcccpibhhncaa

namespace Go.Proofs.Ytfjcccpibhhncaa
open Go.RowKit

def ptQ (n d : Nat) : Rat := (((n : Int) : Rat)) / (((d : Int) : Rat))
theorem ptQ_sz {n d : Nat} (h1 : n ≤ 1000) (h2 : d ≤ 1000) (h3 : d ≠ 0) : szR (ptQ n d) 100 := by
 have := szR_mono (fracQ_szR (n : Int) (d : Int) (by omega) (by omega) (by omega) (by omega)) (show 1 ≤ 100 by omega)
 unfold fracQ at this
 rw [if_neg (by omega)] at this
 exact this
theorem ptQ_pos (n d : Nat) (h : d ≠ 0) : 0 ≤ ptQ n d := by
 have h1 : (0 : Rat) ≤ (((n : Int) : Rat)) := Rat.intCast_le_intCast.2 (by omega : (0 : Int) ≤ (n : Int))
 have h2 : (0 : Rat) < (((d : Int) : Rat)) := Rat.intCast_lt_intCast.2 (by omega : (0 : Int) < (d : Int))
 unfold ptQ
 generalize ((n : Int) : Rat) = a at *
 generalize ((d : Int) : Rat) = b at *
 have e : a / b * b = a := Rat.div_mul_cancel (by grind)
 rcases Decidable.em (0 ≤ a / b) with h3 | h3
 ·
  exact h3
 ·
  have := Rat.mul_lt_mul_of_pos_right (a := a / b) (b := 0) (c := b) (by grind) h2
  grind
theorem ptQ_add (m n d : Nat) : ptQ m d + ptQ n d = ptQ (m + n) d := by
 unfold ptQ
 rw [Int.natCast_add, Rat.intCast_add]
 grind
theorem ptQ_le {n d : Nat} (h : n ≤ d) (h0 : d ≠ 0) : ptQ n d ≤ 1 := by
 have h2 : (0 : Rat) < (((d : Int) : Rat)) := Rat.intCast_lt_intCast.2 (by omega : (0 : Int) < (d : Int))
 have h1 : (((n : Int) : Rat)) ≤ (((d : Int) : Rat)) := Rat.intCast_le_intCast.2 (by omega : (n : Int) ≤ (d : Int))
 unfold ptQ
 generalize ((n : Int) : Rat) = a at *
 generalize ((d : Int) : Rat) = b at *
 have e : a / b * b = a := Rat.div_mul_cancel (by grind)
 rcases Decidable.em (a / b ≤ 1) with h | h
 ·
  exact h
 ·
  have := Rat.mul_lt_mul_of_pos_right (a := 1) (b := a / b) (c := b) (by grind) h2
  grind
theorem lhull_le (a c : Rat) (v u : Value) (w : World) (h : IsRng w v a a) (k : IsRng w u c c) (hac : a ≤ c) (s1 : szR a 274877906944) (s2 : szR c 274877906944) : Calls Try.prog 7 #[v, u] w (RetRng a c w) := by
 have := lhull_any a c v u w h k s1 s2
 rw [loQ_le hac, hiQ_le hac] at this
 exact this
set_option maxRecDepth 100000 in
set_option maxHeartbeats 4000000 in
theorem partN_any (n d : Nat) (z : Int) (hz : (d : Int) = z) (w : World) (hn : n ≤ 1000) (hd : d ≤ 1000) (h0 : d ≠ 0) :
  Calls Try.prog 5 #[.int .i64 (n : Int), .int .i64 z] w (RetRat (ptQ n d) w) := by
 subst hz
 have HS := Lib.hid (Sx.init w)
 go_enter Try.func5, Try.ntmps5
 go_wp2_with fail
 generalize hW1 : (w).alloc (.cells _ _) = W1 at *
 replace HS := Lib.hid (((HS.out).alloc (B := w.heap.size) rfl (by rfl)).to hW1 (by (try simp only [nb5, nb6]); rfl))
 clear hW1
 refine (new_any _ _ _ (by omega) (by omega) (by omega) (by omega) (by omega)).mono ?_
 rintro e w2 ⟨v2, rfl, hv2, hb2⟩
 obtain ⟨z2, rfl⟩ := hv2.open3
 replace HS := Lib.hid (HS.out.below hb2)
 clear hb2
 replace HS := Lib.hid (HS.out.addP hv2)
 clear hv2
 have b0e := (HS.out.at 0 _ _ _ rfl)
 have b0c0 := blk_cell b0e 0 (.bool false) rfl
 have b0c1 := blk_cell b0e 1 (.slice none 0 0) rfl
 have b0c2 := blk_cell b0e 2 (.slice none 0 0) rfl
 have b0f0 := blk_frozen b0e 0
 have b0f1 := blk_frozen b0e 1
 have b0f2 := blk_frozen b0e 2
 have b0l := blk_lt b0e
 clear b0e
 go_wp2_with fail
 clear b0c0 b0c1 b0c2 b0f0 b0f1 b0f2 b0l
 generalize hW3 : ((((w2).setCell _ _).setCell _ _).setCell _ _).alloc (.cells _ _) = W3 at *
 replace HS := Lib.hid ((((HS.out).st_R 0 r30 z2 rfl).alloc (B := w2.heap.size) (by simp) (by rfl)).to hW3 (by (try simp only [nb5, nb6]); rfl))
 clear hW3
 obtain ⟨b0c0, b0c1, b0c2, _⟩ := fac3 (x := z2) (HS.out.at 1 _ _ _ rfl)
 refine bodyPost_ret (v := z2.val) (by simp [results, Try.results5, go_sem, b0c0, b0c1, b0c2]) rfl ⟨_, rfl, (HS.out.p 0 _ _ rfl), HS.out.bel⟩
def RetSpr (lo hi x : Rat) (w : World) (e : Ending) (w' : World) : Prop := ∃ y1 y2 y3 : R3, e = .returned (.tuple #[.agg #[.bool y1.b, .slice y1.a y1.n y1.c, .slice y1.d y1.m y1.e, .bool y2.b, .slice y2.a y2.n y2.c, .slice y2.d y2.m y2.e], y3.val]) ∧ IsRat w' y1.val lo ∧ IsRat w' y2.val hi ∧ IsRat w' y3.val x ∧ Below w.heap.size w w'
set_option maxRecDepth 100000 in
set_option maxHeartbeats 4000000 in
theorem spread_any (a w1 : Rat) (n r : Nat) (hn : n ≤ 255) (hr : r = n % 251) (va vw : Value) (w : World) (ha : IsRat w va a) (hw : IsRat w vw w1) (h0 : 0 ≤ w1) (s1 : szR a 1000) (s2 : szR w1 1000) :
  Calls Try.prog 4 #[va, vw, .int .u8 (n : Int)] w (RetSpr a (a + w1) (a + (w1 * (ptQ r 250))) w) := by
 obtain ⟨x1, rfl⟩ := ha.open3
 obtain ⟨x2, rfl⟩ := hw.open3
 have HS := Lib.hid (((Sx.init w).addP ha).addP hw)
 have SA := Lib.hid s1
 have SW := Lib.hid s2
 have hrb : r < 251 := by omega
 have SP := Lib.hid (ptQ_sz (n := r) (d := 250) (by omega) (by omega) (by omega))
 have HAW : Hid (a ≤ a + w1) := by show _ ≤ _; grind
 have hmr1 : Int.tmod (n : Int) 251 = (r : Int) := by rw [Int.tmod_eq_emod_of_nonneg (by omega)]; omega
 have hmr2 : (n : Int) % 251 = (r : Int) := by omega
 have hmr3 : IntKind.u8.wrap (r : Int) = (r : Int) := IntWalk.u8_in _ (by omega)
 have hm4 : IntKind.i64.wrap (r : Int) = (r : Int) := IntWalk.i64_in _ (by omega)
 clear ha hw s1 s2 h0 hr
 go_enter Try.func4, Try.ntmps4
 go_wp2_with fail
 generalize hW1 : ((((w).alloc (.cells _ _)).alloc (.cells _ _)).alloc (.cells _ _)).alloc (.cells _ _) = W1 at *
 replace HS := Lib.hid ((((((HS.out).alloc (B := w.heap.size) rfl (by rfl)).alloc (B := w.heap.size + 1) (by simp) (by rfl)).alloc (B := w.heap.size + 2) (by simp) (by rfl)).alloc (B := w.heap.size + 3) (by simp) (by rfl)).to hW1 (by (try simp only [nb5, nb6]); rfl))
 clear hW1
 refine wp_region_held_drew (S := (fun w' => Sx w w' [(w.heap.size + 3, #[.bool false, .slice none 0 0, .slice none 0 0], 27), (w.heap.size + 2, #[.bool false, .slice none 0 0, .slice none 0 0, .bool false, .slice none 0 0, .slice none 0 0], 29), (w.heap.size + 1, x2.arr, 27), (w.heap.size, x1.arr, 27)] [])) (by kernel_rfl) ((HS.out.drew).bare) (fun hh => ?_)
 replace HS := Lib.hid HS.out.drew
 have HSW := Lib.hid HS.out.bel.size
 refine tkB (i := 0) (v := ?vk3) rfl ?hk3 ?rk3
 case hk3 => intro u hSu; (try dsimp only at hSu); obtain ⟨qb0c0, qb0c1, qb0c2, _⟩ := fac3 (x := x1) (hSu.at 3 _ _ _ rfl); clear hSu; go_simp <;> with_reducible rfl
 try simp only [nbs, Act.put]
 refine tkB (i := 2) (v := ?vk4) rfl ?hk4 ?rk4
 case hk4 => intro u hSu; (try dsimp only at hSu); obtain ⟨qb0c0, qb0c1, qb0c2, _⟩ := fac3 (x := x1) (hSu.at 3 _ _ _ rfl); clear hSu; go_simp <;> with_reducible rfl
 try simp only [nbs, Act.put]
 refine tkB (i := 3) (v := ?vk5) rfl ?hk5 ?rk5
 case hk5 => intro u hSu; (try dsimp only at hSu); obtain ⟨qb1c0, qb1c1, qb1c2, _⟩ := fac3 (x := x2) (hSu.at 2 _ _ _ rfl); clear hSu; go_simp <;> with_reducible rfl
 try simp only [nbs, Act.put]
 refine wpAnyH_modular [1, 4, 5, 6, 7] [1, 4, 5, 6, 7] [] [10, 13, 14, 15, 8] #[true, true, true, true, true, true, true, true, false] 1 [(1, 10), (4, 13), (5, 14), (6, 15), (7, 8)] [(1, []), (4, [1]), (5, [4]), (6, [1, 5]), (7, [])] [7] [(1, fun v w => ∃ z6a z6b : R3, v = .agg #[.bool z6a.b, .slice z6a.a z6a.n z6a.c, .slice z6a.d z6a.m z6a.e, .bool z6b.b, .slice z6b.a z6b.n z6b.c, .slice z6b.d z6b.m z6b.e] ∧ Fr true w z6a.val a ∧ Fr true w z6b.val a), (4, fun v w => ∃ z7 : R3, v = z7.val ∧ Fr true w z7.val (a + w1)), (5, fun v w => ∃ z8a z8b : R3, v = .agg #[.bool z8a.b, .slice z8a.a z8a.n z8a.c, .slice z8a.d z8a.m z8a.e, .bool z8b.b, .slice z8b.a z8b.n z8b.c, .slice z8b.d z8b.m z8b.e] ∧ Fr true w z8a.val (a + w1) ∧ Fr true w z8b.val (a + w1)), (6, fun v w => ∃ z9a z9b : R3, v = .agg #[.bool z9a.b, .slice z9a.a z9a.n z9a.c, .slice z9a.d z9a.m z9a.e, .bool z9b.b, .slice z9b.a z9b.n z9b.c, .slice z9b.d z9b.m z9b.e] ∧ Fr true w z9a.val a ∧ Fr true w z9b.val (a + w1)), (7, fun v w => ∃ Br2_7 : Nat, v = .pointer (some ⟨Br2_7, 0, none⟩) ∧ W1.drew.heap.size ≤ Br2_7 ∧ w.heap[Br2_7]? = some (.cells #[.bool false, .slice none 0 0, .slice none 0 0, .bool false, .slice none 0 0, .slice none 0 0] 29 (0, 0)))]
  rfl (by kernel_rfl) (by decide) rfl ⟨(fun v w w' hb ⟨z0, z1, e, h0, h1⟩ => ⟨z0, z1, e, Fr.below h0 hb, Fr.below h1 hb⟩), ⟨(fun v w w' hb ⟨z0, e, h0⟩ => ⟨z0, e, Fr.below h0 hb⟩), ⟨(fun v w w' hb ⟨z0, z1, e, h0, h1⟩ => ⟨z0, z1, e, Fr.below h0 hb, Fr.below h1 hb⟩), ⟨(fun v w w' hb ⟨z0, z1, e, h0, h1⟩ => ⟨z0, z1, e, Fr.below h0 hb, Fr.below h1 hb⟩), ⟨(fun v w w' hb ⟨B, e, g, k⟩ => ⟨B, e, g, blk_keep k hb (blk_lt k)⟩), trivial⟩⟩⟩⟩⟩ ⟨fun v w ⟨B, e, g, k⟩ => ⟨B, e, blk_lt k⟩, trivial⟩ (fun w' hb => Sx.below hh hb) ⟨?_, ?_, ?_, ?_, ?_, trivial⟩ trivial (by decide) ?_
 ·
  refine StepM.of rfl (fun f w' hb hp K hK => ?_)
  have HSB := HS
  replace HS := Lib.hid (HS.out.below hb)
  simp only [fillA, fillT, List.foldl_cons, List.foldl_nil, Act.put, nb4, nb5, nb6]
  have a10 := HS.out.p 1 _ _ rfl
  go_simp
  go_wp2_with (go_at_call 6; (with_reducible refine (only_any a _ _ a10).mono ?_); rintro e w6 ⟨v6, rfl, ⟨z6a, z6b, rfl, hv6, hw6⟩, hb6⟩)
  exact hK.out _ _ (.agg #[.bool z6a.b, .slice z6a.a z6a.n z6a.c, .slice z6a.d z6a.m z6a.e, .bool z6b.b, .slice z6b.a z6b.n z6b.c, .slice z6b.d z6b.m z6b.e]) (by simp only [fillA, fillT, List.foldl_cons, List.foldl_nil, Act.put, nb4, nb5, nb6, nb1, nb2, nb3]) ⟨z6a, z6b, rfl, hv6, hw6⟩ (fun h => absurd h (by decide)) hb6
 ·
  refine StepM.of rfl (fun f w' hb hp K hK => ?_)
  have HSB := HS
  replace HS := Lib.hid (HS.out.below hb)
  simp only [fillA, fillT, List.foldl_cons, List.foldl_nil, Act.put, nb4, nb5, nb6]
  have a11 := HS.out.p 1 _ _ rfl
  have a12 := HS.out.p 0 _ _ rfl
  go_simp
  go_wp2_with (go_at_call 8; (with_reducible refine (addRat_any a w1 _ _ _ a11 a12 (szR_mono SA.out (by omega)) (szR_mono SW.out (by omega))).mono ?_); rintro e w7 ⟨v7, rfl, hv7, hb7⟩; obtain ⟨z7, rfl⟩ := hv7.open3)
  exact hK.out _ _ (z7.val) (by simp only [fillA, fillT, List.foldl_cons, List.foldl_nil, Act.put, nb4, nb5, nb6, nb1, nb2, nb3]) ⟨z7, rfl, hv7⟩ (fun h => absurd h (by decide)) hb7
 ·
  refine StepM.of rfl (fun f w' hb hp K hK => ?_)
  obtain ⟨z7, e4, h4_0⟩ : ∃ z7 : R3, f 13 = z7.val ∧ Fr true w' z7.val (a + w1) := hp 4 (by decide)
  have HSB := HS
  replace HS := Lib.hid (HS.out.below hb)
  replace HS := Lib.hid (HS.out.addP h4_0)
  simp only [fillA, fillT, List.foldl_cons, List.foldl_nil, Act.put, nb4, nb5, nb6, e4]
  have a13 := HS.out.p 0 _ _ rfl
  go_simp
  go_wp2_with (go_at_call 6; (with_reducible refine (only_any (a + w1) _ _ a13).mono ?_); rintro e w8 ⟨v8, rfl, ⟨z8a, z8b, rfl, hv8, hw8⟩, hb8⟩)
  exact hK.out _ _ (.agg #[.bool z8a.b, .slice z8a.a z8a.n z8a.c, .slice z8a.d z8a.m z8a.e, .bool z8b.b, .slice z8b.a z8b.n z8b.c, .slice z8b.d z8b.m z8b.e]) (by simp only [fillA, fillT, List.foldl_cons, List.foldl_nil, Act.put, nb4, nb5, nb6, nb1, nb2, nb3, e4]) ⟨z8a, z8b, rfl, hv8, hw8⟩ (fun h => absurd h (by decide)) hb8
 ·
  refine StepM.of rfl (fun f w' hb hp K hK => ?_)
  obtain ⟨z6a, z6b, e1, h1_0, h1_1⟩ : ∃ z6a z6b : R3, f 10 = .agg #[.bool z6a.b, .slice z6a.a z6a.n z6a.c, .slice z6a.d z6a.m z6a.e, .bool z6b.b, .slice z6b.a z6b.n z6b.c, .slice z6b.d z6b.m z6b.e] ∧ Fr true w' z6a.val a ∧ Fr true w' z6b.val a := hp 1 (by decide)
  obtain ⟨z8a, z8b, e5, h5_0, h5_1⟩ : ∃ z8a z8b : R3, f 14 = .agg #[.bool z8a.b, .slice z8a.a z8a.n z8a.c, .slice z8a.d z8a.m z8a.e, .bool z8b.b, .slice z8b.a z8b.n z8b.c, .slice z8b.d z8b.m z8b.e] ∧ Fr true w' z8a.val (a + w1) ∧ Fr true w' z8b.val (a + w1) := hp 5 (by decide)
  have HSB := HS
  replace HS := Lib.hid (HS.out.below hb)
  replace HS := Lib.hid (HS.out.addP h1_0)
  replace HS := Lib.hid (HS.out.addP h1_1)
  replace HS := Lib.hid (HS.out.addP h5_0)
  replace HS := Lib.hid (HS.out.addP h5_1)
  simp only [fillA, fillT, List.foldl_cons, List.foldl_nil, Act.put, nb4, nb5, nb6, e1, e5]
  have a14 := HS.out.p 3 _ _ rfl
  have a15 := HS.out.p 2 _ _ rfl
  have a16 := HS.out.p 1 _ _ rfl
  have a17 := HS.out.p 0 _ _ rfl
  go_simp
  go_wp2_with (go_at_call 7; (with_reducible refine (lhull_le a (a + w1) _ _ _ (rngP a14 a15) (rngP a16 a17) HAW.out (szR_mono SA.out (by omega)) (szR_mono (szR_add SA.out SW.out) (by omega))).mono ?_); rintro e w9 ⟨v9, rfl, ⟨z9a, z9b, rfl, hv9, hw9⟩, hb9⟩)
  exact hK.out _ _ (.agg #[.bool z9a.b, .slice z9a.a z9a.n z9a.c, .slice z9a.d z9a.m z9a.e, .bool z9b.b, .slice z9b.a z9b.n z9b.c, .slice z9b.d z9b.m z9b.e]) (by simp only [fillA, fillT, List.foldl_cons, List.foldl_nil, Act.put, nb4, nb5, nb6, nb1, nb2, nb3, e1, e5]) ⟨z9a, z9b, rfl, hv9, hw9⟩ (fun h => absurd h (by decide)) hb9
 ·
  refine StepM.of rfl (fun f w' hb hp K hK => ?_)
  have HSB := HS
  replace HS := Lib.hid (HS.out.below hb)
  simp only [fillA, fillT, List.foldl_cons, List.foldl_nil, Act.put, nb4, nb5, nb6]
  go_simp
  exact hK.out _ _ (.pointer (some ⟨w'.heap.size, 0, none⟩)) (by simp only [fillA, fillT, List.foldl_cons, List.foldl_nil, Act.put, nb4, nb5, nb6, nb1, nb2, nb3]) ⟨_, rfl, hb.size, blk_new _ _ _⟩ (fun _ => rfl) (below1 w' _)
 ·
  intro f wr2 hb hp hd
  obtain ⟨z6a, z6b, e1, h1_0, h1_1⟩ : ∃ z6a z6b : R3, f 10 = .agg #[.bool z6a.b, .slice z6a.a z6a.n z6a.c, .slice z6a.d z6a.m z6a.e, .bool z6b.b, .slice z6b.a z6b.n z6b.c, .slice z6b.d z6b.m z6b.e] ∧ Fr true wr2 z6a.val a ∧ Fr true wr2 z6b.val a := hp 1 (by decide)
  obtain ⟨z7, e4, h4_0⟩ : ∃ z7 : R3, f 13 = z7.val ∧ Fr true wr2 z7.val (a + w1) := hp 4 (by decide)
  obtain ⟨z8a, z8b, e5, h5_0, h5_1⟩ : ∃ z8a z8b : R3, f 14 = .agg #[.bool z8a.b, .slice z8a.a z8a.n z8a.c, .slice z8a.d z8a.m z8a.e, .bool z8b.b, .slice z8b.a z8b.n z8b.c, .slice z8b.d z8b.m z8b.e] ∧ Fr true wr2 z8a.val (a + w1) ∧ Fr true wr2 z8b.val (a + w1) := hp 5 (by decide)
  obtain ⟨z9a, z9b, e6, h6_0, h6_1⟩ : ∃ z9a z9b : R3, f 15 = .agg #[.bool z9a.b, .slice z9a.a z9a.n z9a.c, .slice z9a.d z9a.m z9a.e, .bool z9b.b, .slice z9b.a z9b.n z9b.c, .slice z9b.d z9b.m z9b.e] ∧ Fr true wr2 z9a.val a ∧ Fr true wr2 z9b.val (a + w1) := hp 6 (by decide)
  obtain ⟨Br2_7, e7, g7, k7⟩ : ∃ Br2_7 : Nat, f 8 = .pointer (some ⟨Br2_7, 0, none⟩) ∧ W1.drew.heap.size ≤ Br2_7 ∧ wr2.heap[Br2_7]? = some (.cells #[.bool false, .slice none 0 0, .slice none 0 0, .bool false, .slice none 0 0, .slice none 0 0] 29 (0, 0)) := hp 7 (by decide)
  replace hh := Sx.below hh hb
  have hlt := HS.out.lt
  replace HS := Lib.hid (HS.out.below hb)
  replace HS := Lib.hid (HS.out.addP h1_0)
  replace HS := Lib.hid (HS.out.addP h1_1)
  replace HS := Lib.hid (HS.out.addP h4_0)
  replace HS := Lib.hid (HS.out.addP h5_0)
  replace HS := Lib.hid (HS.out.addP h5_1)
  replace HS := Lib.hid (HS.out.addP h6_0)
  replace HS := Lib.hid (HS.out.addP h6_1)
  have hge7 : w.heap.size ≤ Br2_7 := Nat.le_trans HSW.out g7
  have hne7 : ∀ b, b ∈ ([(w.heap.size + 3, #[.bool false, .slice none 0 0, .slice none 0 0], 27), (w.heap.size + 2, #[.bool false, .slice none 0 0, .slice none 0 0, .bool false, .slice none 0 0, .slice none 0 0], 29), (w.heap.size + 1, x2.arr, 27), (w.heap.size, x1.arr, 27)] : List Bx) → b.1 ≠ Br2_7 := by
   intro b hb
   simp only [List.mem_cons, List.not_mem_nil, or_false] at hb
   rcases hb with rfl | rfl | rfl | rfl
   ·
    have := hlt _ (List.mem_iff_getElem?.2 ⟨0, rfl⟩); dsimp only at this ⊢; omega
   ·
    have := hlt _ (List.mem_iff_getElem?.2 ⟨1, rfl⟩); dsimp only at this ⊢; omega
   ·
    have := hlt _ (List.mem_iff_getElem?.2 ⟨2, rfl⟩); dsimp only at this ⊢; omega
   ·
    have := hlt _ (List.mem_iff_getElem?.2 ⟨3, rfl⟩); dsimp only at this ⊢; omega
  replace HS := Lib.hid (HS.out.addBox k7 hge7 (by rfl) hne7)
  simp only [fillA, fillT, List.foldl_cons, List.foldl_nil, Act.put, nb4, nb5, nb6, e1, e4, e5, e6, e7]
  clear hp hd hb hlt e1 e4 e5 e6 e7
  refine rdA (i := 8) rfl (fun K hK => ?_)
  have b4e := (HS.out.at 0 _ _ _ rfl)
  have b4c0 := blk_cell b4e 0 (.bool false) rfl
  have b4c1 := blk_cell b4e 1 (.slice none 0 0) rfl
  have b4c2 := blk_cell b4e 2 (.slice none 0 0) rfl
  have b4c3 := blk_cell b4e 3 (.bool false) rfl
  have b4c4 := blk_cell b4e 4 (.slice none 0 0) rfl
  have b4c5 := blk_cell b4e 5 (.slice none 0 0) rfl
  have b4f0 := blk_frozen b4e 0
  have b4f1 := blk_frozen b4e 1
  have b4f2 := blk_frozen b4e 2
  have b4f3 := blk_frozen b4e 3
  have b4f4 := blk_frozen b4e 4
  have b4f5 := blk_frozen b4e 5
  have b4l := blk_lt b4e
  clear b4e
  go_simp
  refine hK.out _ _ ((((HS.out).st_RR 0 r30 r30 z9a z9b rfl)).erase 0) (fun hh => ?_)
  clear hK K b4c0 b4c1 b4c2 b4c3 b4c4 b4c5 b4f0 b4f1 b4f2 b4f3 b4f4 b4f5 b4l
  try simp only [nbs, Act.put]
  generalize hW18 : ((((((wr2).setCell _ _).setCell _ _).setCell _ _).setCell _ _).setCell _ _).setCell _ _ = W18 at *
  replace HS := Lib.hid (((HS.out).st_RR 0 r30 r30 z9a z9b rfl).to hW18 (by (try simp only [nb5, nb6]); rfl))
  clear hW18
  refine wpAnyH_done (by kernel_rfl) ?_ _
  go_wp2_with fail
  refine wp_region_held_drew (S := (fun w' => Sx w w' [(Br2_7, arr6 z9a z9b, 29), (w.heap.size + 1, x2.arr, 27), (w.heap.size, x1.arr, 27)] [])) (by kernel_rfl) (((HS.out.drew).erase 2).erase 1) (fun hh => ?_)
  replace HS := Lib.hid HS.out.drew
  refine tkB (i := 0) (v := ?vk20) rfl ?hk20 ?rk20
  case hk20 => intro u hSu; (try dsimp only at hSu); obtain ⟨qb4c0, qb4c1, qb4c2, qb4c3, qb4c4, qb4c5, _⟩ := fac6 (x := z9a) (y := z9b) (hSu.at 0 _ _ _ rfl); clear hSu; go_simp <;> with_reducible rfl
  try simp only [nbs, Act.put]
  refine tkB (i := 1) (v := ?vk21) rfl ?hk21 ?rk21
  case hk21 => intro u hSu; (try dsimp only at hSu); obtain ⟨qb0c0, qb0c1, qb0c2, _⟩ := fac3 (x := x1) (hSu.at 2 _ _ _ rfl); clear hSu; go_simp <;> with_reducible rfl
  try simp only [nbs, Act.put]
  refine tkB (i := 2) (v := ?vk22) rfl ?hk22 ?rk22
  case hk22 => intro u hSu; (try dsimp only at hSu); obtain ⟨qb1c0, qb1c1, qb1c2, _⟩ := fac3 (x := x2) (hSu.at 1 _ _ _ rfl); clear hSu; go_simp <;> with_reducible rfl
  try simp only [nbs, Act.put]
  refine tkB (i := 3) (v := ?vk23) rfl ?hk23 ?rk23
  case hk23 => intro u hSu; go_simp <;> with_reducible rfl
  try simp only [nbs, Act.put]
  refine tkB (i := 4) (v := ?vk24) rfl ?hk24 ?rk24
  case hk24 => intro u hSu; go_simp <;> with_reducible rfl
  try simp only [nbs, Act.put]
  refine tkB (i := 5) (v := ?vk25) rfl ?hk25 ?rk25
  case hk25 => intro u hSu; go_simp <;> with_reducible rfl
  try simp only [nbs, Act.put]
  refine rdA (i := 6) rfl (fun K hK => ?_)
  go_simp
  go_wp2_with (go_at_call 5; (with_reducible refine (partN_any r 250 250 rfl _ (by omega) (by omega) (by omega)).mono ?_); rintro e w26 ⟨v26, rfl, hv26, hb26⟩; obtain ⟨z26, rfl⟩ := hv26.open3)
  refine hK.out _ _ (Sx.below hh hb26) (fun hh => ?_)
  clear hK K
  try simp only [nbs, Act.put]
  replace HS := Lib.hid (HS.out.below hb26)
  clear hb26
  replace HS := Lib.hid (HS.out.addP hv26)
  clear hv26
  refine rdA (i := 7) rfl (fun K hK => ?_)
  go_simp
  have a28 := HS.out.p 8 _ _ rfl
  have a29 := HS.out.p 0 _ _ rfl
  go_wp2_with (go_at_call 11; (with_reducible refine (mulRat_any w1 (ptQ r 250) _ _ _ a28 a29 (szR_mono SW.out (by omega)) (szR_mono SP.out (by omega))).mono ?_); rintro e w27 ⟨v27, rfl, hv27, hb27⟩; obtain ⟨z27, rfl⟩ := hv27.open3)
  refine hK.out _ _ (Sx.below hh hb27) (fun hh => ?_)
  clear hK K
  try simp only [nbs, Act.put]
  replace HS := Lib.hid (HS.out.below hb27)
  clear hb27 a28 a29
  replace HS := Lib.hid (HS.out.addP hv27)
  clear hv27
  refine rdA (i := 8) rfl (fun K hK => ?_)
  go_simp
  have a31 := HS.out.p 10 _ _ rfl
  have a32 := HS.out.p 0 _ _ rfl
  go_wp2_with (go_at_call 8; (with_reducible refine (addRat_any a (w1 * (ptQ r 250)) _ _ _ a31 a32 (szR_mono SA.out (by omega)) (szR_mono (szR_mul SW.out SP.out) (by omega))).mono ?_); rintro e w30 ⟨v30, rfl, hv30, hb30⟩; obtain ⟨z30, rfl⟩ := hv30.open3)
  refine hK.out _ _ (Sx.below hh hb30) (fun hh => ?_)
  clear hK K
  try simp only [nbs, Act.put]
  replace HS := Lib.hid (HS.out.below hb30)
  clear hb30 a31 a32
  replace HS := Lib.hid (HS.out.addP hv30)
  clear hv30
  refine rdA (i := 9) rfl (fun K hK => ?_)
  have b2e := (HS.out.at 2 _ _ _ rfl)
  have b2c0 := blk_cell b2e 0 (.bool false) rfl
  have b2c1 := blk_cell b2e 1 (.slice none 0 0) rfl
  have b2c2 := blk_cell b2e 2 (.slice none 0 0) rfl
  have b2c3 := blk_cell b2e 3 (.bool false) rfl
  have b2c4 := blk_cell b2e 4 (.slice none 0 0) rfl
  have b2c5 := blk_cell b2e 5 (.slice none 0 0) rfl
  have b2f0 := blk_frozen b2e 0
  have b2f1 := blk_frozen b2e 1
  have b2f2 := blk_frozen b2e 2
  have b2f3 := blk_frozen b2e 3
  have b2f4 := blk_frozen b2e 4
  have b2f5 := blk_frozen b2e 5
  have b2l := blk_lt b2e
  clear b2e
  go_simp
  refine hK.out _ _ ((((((HS.out).st_RR 2 r30 r30 z9a z9b rfl)).erase 2)).erase 1) (fun hh => ?_)
  clear hK K b2c0 b2c1 b2c2 b2c3 b2c4 b2c5 b2f0 b2f1 b2f2 b2f3 b2f4 b2f5 b2l
  try simp only [nbs, Act.put]
  generalize hW33 : ((((((w30).setCell _ _).setCell _ _).setCell _ _).setCell _ _).setCell _ _).setCell _ _ = W33 at *
  replace HS := Lib.hid (((HS.out).st_RR 2 r30 r30 z9a z9b rfl).to hW33 (by (try simp only [nb5, nb6]); rfl))
  clear hW33
  refine rdA (i := 10) rfl (fun K hK => ?_)
  have b3e := (HS.out.at 1 _ _ _ rfl)
  have b3c0 := blk_cell b3e 0 (.bool false) rfl
  have b3c1 := blk_cell b3e 1 (.slice none 0 0) rfl
  have b3c2 := blk_cell b3e 2 (.slice none 0 0) rfl
  have b3f0 := blk_frozen b3e 0
  have b3f1 := blk_frozen b3e 1
  have b3f2 := blk_frozen b3e 2
  have b3l := blk_lt b3e
  clear b3e
  go_simp
  refine hK.out _ _ ((((((HS.out).st_R 1 r30 z30 rfl)).erase 2)).erase 1) (fun hh => ?_)
  clear hK K b3c0 b3c1 b3c2 b3f0 b3f1 b3f2 b3l
  try simp only [nbs, Act.put]
  generalize hW34 : (((W33).setCell _ _).setCell _ _).setCell _ _ = W34 at *
  replace HS := Lib.hid (((HS.out).st_R 1 r30 z30 rfl).to hW34 (by (try simp only [nb5, nb6]); rfl))
  clear hW34
  refine wpAnyH_done (by kernel_rfl) ?_ _
  obtain ⟨b2c0, b2c1, b2c2, b2c3, b2c4, b2c5, b2f0, b2f1, b2f2, b2f3, b2f4, b2f5⟩ := fac6 (x := z9a) (y := z9b) (HS.out.at 2 _ _ _ rfl)
  have b2l := blk_lt (HS.out.at 2 _ _ _ rfl)
  obtain ⟨b3c0, b3c1, b3c2, b3f0, b3f1, b3f2⟩ := fac3 (x := z30) (HS.out.at 1 _ _ _ rfl)
  have b3l := blk_lt (HS.out.at 1 _ _ _ rfl)
  go_wp2_with fail
  clear b2c0 b2c1 b2c2 b2c3 b2c4 b2c5 b2f0 b2f1 b2f2 b2f3 b2f4 b2f5 b2l b3c0 b3c1 b3c2 b3f0 b3f1 b3f2 b3l
  obtain ⟨b2c0, b2c1, b2c2, b2c3, b2c4, b2c5, _⟩ := fac6 (x := z9a) (y := z9b) (HS.out.at 2 _ _ _ rfl)
  obtain ⟨b3c0, b3c1, b3c2, _⟩ := fac3 (x := z30) (HS.out.at 1 _ _ _ rfl)
  refine bodyPost_ret (v := .tuple #[.agg #[.bool z9a.b, .slice z9a.a z9a.n z9a.c, .slice z9a.d z9a.m z9a.e, .bool z9b.b, .slice z9b.a z9b.n z9b.c, .slice z9b.d z9b.m z9b.e], z30.val]) (by simp [results, Try.results4, go_sem, b2c0, b2c1, b2c2, b2c3, b2c4, b2c5, b3c0, b3c1, b3c2]) rfl ⟨z9a, z9b, z30, rfl, (HS.out.p 4 _ _ rfl), (HS.out.p 3 _ _ rfl), (HS.out.p 0 _ _ rfl), HS.out.bel⟩
set_option maxRecDepth 100000 in
set_option maxHeartbeats 4000000 in
theorem phas_any (a b y : Rat) (vx vy : Value) (w : World) (hx : IsRng w vx a b) (hy : IsRat w vy y) (sa : szR a 1000000) (sb : szR b 1000000) (sy : szR y 1000000) :
  Calls Try.prog 29 #[vx, vy] w (RetBool (hasB a b y) w) := by
 obtain ⟨x1, x2, rfl, h1, h2⟩ := hx
 obtain ⟨x3, rfl⟩ := hy.open3
 have HS := Lib.hid ((((Sx.init w).addP h1).addP h2).addP hy)
 have Sa := Lib.hid sa
 have Sb := Lib.hid sb
 have Sy := Lib.hid sy
 clear h1 h2 hy sa sb sy
 go_enter Try.func29, Try.ntmps29
 go_wp2_with fail
 generalize hW1 : ((w).alloc (.cells _ _)).alloc (.cells _ _) = W1 at *
 replace HS := Lib.hid ((((HS.out).alloc (B := w.heap.size) rfl (by rfl)).alloc (B := w.heap.size + 1) (by simp) (by rfl)).to hW1 (by (try simp only [nb5, nb6]); rfl))
 clear hW1
 obtain ⟨c2, hc2⟩ : ∃ κ, κ = cmpR a y := ⟨_, rfl⟩
 have HC2 := Lib.hid hc2
 clear hc2
 refine (cmpRat_any a y _ _ _ (HS.out.p 2 _ _ rfl) (HS.out.p 0 _ _ rfl) (szR_mono Sa.out (by omega)) (szR_mono Sy.out (by omega))).mono ?_
 rw [← HC2.out]
 rintro e w2 ⟨rfl, hb2⟩
 replace HS := Lib.hid (HS.out.below hb2)
 clear hb2
 by_cases t3p : c2 ≤ 0
 ·
  have t3 : decide (c2 ≤ 0) = true := decide_eq_true t3p
  have T3 := Lib.hid t3p
  clear t3p
  obtain ⟨b1c0, b1c1, b1c2, b1f0, b1f1, b1f2⟩ := fac3 (x := x3) (HS.out.at 0 _ _ _ rfl)
  have b1l := blk_lt (HS.out.at 0 _ _ _ rfl)
  obtain ⟨b0c0, b0c1, b0c2, b0c3, b0c4, b0c5, b0f0, b0f1, b0f2, b0f3, b0f4, b0f5⟩ := fac6 (x := x1) (y := x2) (HS.out.at 1 _ _ _ rfl)
  have b0l := blk_lt (HS.out.at 1 _ _ _ rfl)
  go_wp2_with fail
  clear b1c0 b1c1 b1c2 b1f0 b1f1 b1f2 b1l b0c0 b0c1 b0c2 b0c3 b0c4 b0c5 b0f0 b0f1 b0f2 b0f3 b0f4 b0f5 b0l
  obtain ⟨c4, hc4⟩ : ∃ κ, κ = cmpR y b := ⟨_, rfl⟩
  have HC4 := Lib.hid hc4
  clear hc4
  refine (cmpRat_any y b _ _ _ (HS.out.p 0 _ _ rfl) (HS.out.p 1 _ _ rfl) (szR_mono Sy.out (by omega)) (szR_mono Sb.out (by omega))).mono ?_
  rw [← HC4.out]
  rintro e w4 ⟨rfl, hb4⟩
  replace HS := Lib.hid (HS.out.below hb4)
  clear hb4
  go_wp2_with fail
  have HR : Hid (hasB a b y = decide (c4 ≤ 0)) := by
   show _ = _
   unfold hasB
   first | (simp only [← HC2.out, ← HC4.out, t3, Bool.and_true, Bool.true_and, Bool.and_false, Bool.false_and, Bool.or_true, Bool.true_or, Bool.or_false, Bool.false_or, Bool.not_true, Bool.not_false, cond_true, cond_false]; done) | (rw [← HC2.out, ← HC4.out]; rfl) | (simp [← HC2.out, ← HC4.out, t3])
  go_ret
  exact ⟨by rw [HR.out] <;> rfl, HS.out.bel⟩
 ·
  have t3 : decide (c2 ≤ 0) = false := decide_eq_false t3p
  have T3 := Lib.hid t3p
  clear t3p
  go_wp2_with fail
  have HR : Hid (hasB a b y = false) := by
   show _ = _
   unfold hasB
   first | (simp only [← HC2.out, t3, Bool.and_true, Bool.true_and, Bool.and_false, Bool.false_and, Bool.or_true, Bool.true_or, Bool.or_false, Bool.false_or, Bool.not_true, Bool.not_false, cond_true, cond_false]; done) | (rw [← HC2.out]; rfl) | (simp [← HC2.out, t3])
  go_ret
  exact ⟨by rw [HR.out] <;> rfl, HS.out.bel⟩
end Go.Proofs.Ytfjcccpibhhncaa
