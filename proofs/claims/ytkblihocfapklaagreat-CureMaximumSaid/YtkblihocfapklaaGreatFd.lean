/- Part d of the lemmas and walks. -/
import Derived.Test.YtkblihocfapklaaGreatFc
set_option maxRecDepth 100000
set_option maxHeartbeats 30000000
namespace Go.Proofs.YtkblihocfapklaaGreat
open Go.RowKit
theorem jb (k : Nat) (hk : 1 ≤ k) : bQ 1 k := ⟨Nat.le_trans (by decide +kernel) hk, Nat.le_trans (by decide +kernel) hk⟩
theorem kd1 {n : Nat} {W a b : World} {B0 j0 : Nat} {v0 : Value} (hn : n ≤ W.heap.size) (hb : Below a.heap.size a b) (h : Below n W a ∧ a.cell? ⟨B0, j0, none⟩ = some (v0)) : Below n W b ∧ b.cell? ⟨B0, j0, none⟩ = some (v0) := by
 obtain ⟨h0, k0⟩ := h
 have e : ∀ B j v, a.cell? ⟨B, j, none⟩ = some v → b.cell? ⟨B, j, none⟩ = some v := fun B j v h => (hb.cell (p := ⟨B, j, none⟩) (World.block_lt_of_cell? (h := h))).trans h
 have hs := h0.size
 exact ⟨h0.trans (hb.mono (by omega)), e _ _ _ k0⟩
theorem ks1 {n B : Nat} {W a b : World} {B0 j0 : Nat} {v0 : Value} (hn : n ≤ B) (l0 : B0 < B) (hb : Below B a b) (h : Below n W a ∧ a.cell? ⟨B0, j0, none⟩ = some (v0)) : Below n W b ∧ b.cell? ⟨B0, j0, none⟩ = some (v0) := by
 obtain ⟨h0, k0⟩ := h
 have e : ∀ B' j v, B' < B → a.cell? ⟨B', j, none⟩ = some v → b.cell? ⟨B', j, none⟩ = some v := fun B' j v hl h => (hb.cell (p := ⟨B', j, none⟩) hl).trans h
 exact ⟨h0.trans (hb.mono hn), e _ _ _ l0 k0⟩
theorem kd2 {n : Nat} {W a b : World} {B0 j0 B1 j1 : Nat} {v0 v1 : Value} (hn : n ≤ W.heap.size) (hb : Below a.heap.size a b) (h : Below n W a ∧ a.cell? ⟨B0, j0, none⟩ = some (v0) ∧ a.cell? ⟨B1, j1, none⟩ = some (v1)) : Below n W b ∧ b.cell? ⟨B0, j0, none⟩ = some (v0) ∧ b.cell? ⟨B1, j1, none⟩ = some (v1) := by
 obtain ⟨h0, k0, k1⟩ := h
 have e : ∀ B j v, a.cell? ⟨B, j, none⟩ = some v → b.cell? ⟨B, j, none⟩ = some v := fun B j v h => (hb.cell (p := ⟨B, j, none⟩) (World.block_lt_of_cell? (h := h))).trans h
 have hs := h0.size
 exact ⟨h0.trans (hb.mono (by omega)), e _ _ _ k0, e _ _ _ k1⟩
theorem kd6 {n : Nat} {W a b : World} {B0 j0 B1 j1 B2 j2 B3 j3 B4 j4 B5 j5 : Nat} {v0 v1 v2 v3 v4 v5 : Value} (hn : n ≤ W.heap.size) (hb : Below a.heap.size a b) (h : Below n W a ∧ a.cell? ⟨B0, j0, none⟩ = some (v0) ∧ a.cell? ⟨B1, j1, none⟩ = some (v1) ∧ a.cell? ⟨B2, j2, none⟩ = some (v2) ∧ a.cell? ⟨B3, j3, none⟩ = some (v3) ∧ a.cell? ⟨B4, j4, none⟩ = some (v4) ∧ a.cell? ⟨B5, j5, none⟩ = some (v5)) : Below n W b ∧ b.cell? ⟨B0, j0, none⟩ = some (v0) ∧ b.cell? ⟨B1, j1, none⟩ = some (v1) ∧ b.cell? ⟨B2, j2, none⟩ = some (v2) ∧ b.cell? ⟨B3, j3, none⟩ = some (v3) ∧ b.cell? ⟨B4, j4, none⟩ = some (v4) ∧ b.cell? ⟨B5, j5, none⟩ = some (v5) := by
 obtain ⟨h0, k0, k1, k2, k3, k4, k5⟩ := h
 have e : ∀ B j v, a.cell? ⟨B, j, none⟩ = some v → b.cell? ⟨B, j, none⟩ = some v := fun B j v h => (hb.cell (p := ⟨B, j, none⟩) (World.block_lt_of_cell? (h := h))).trans h
 have hs := h0.size
 exact ⟨h0.trans (hb.mono (by omega)), e _ _ _ k0, e _ _ _ k1, e _ _ _ k2, e _ _ _ k3, e _ _ _ k4, e _ _ _ k5⟩
theorem ks6 {n B : Nat} {W a b : World} {B0 j0 B1 j1 B2 j2 B3 j3 B4 j4 B5 j5 : Nat} {v0 v1 v2 v3 v4 v5 : Value} (hn : n ≤ B) (l0 : B0 < B) (l1 : B1 < B) (l2 : B2 < B) (l3 : B3 < B) (l4 : B4 < B) (l5 : B5 < B) (hb : Below B a b) (h : Below n W a ∧ a.cell? ⟨B0, j0, none⟩ = some (v0) ∧ a.cell? ⟨B1, j1, none⟩ = some (v1) ∧ a.cell? ⟨B2, j2, none⟩ = some (v2) ∧ a.cell? ⟨B3, j3, none⟩ = some (v3) ∧ a.cell? ⟨B4, j4, none⟩ = some (v4) ∧ a.cell? ⟨B5, j5, none⟩ = some (v5)) : Below n W b ∧ b.cell? ⟨B0, j0, none⟩ = some (v0) ∧ b.cell? ⟨B1, j1, none⟩ = some (v1) ∧ b.cell? ⟨B2, j2, none⟩ = some (v2) ∧ b.cell? ⟨B3, j3, none⟩ = some (v3) ∧ b.cell? ⟨B4, j4, none⟩ = some (v4) ∧ b.cell? ⟨B5, j5, none⟩ = some (v5) := by
 obtain ⟨h0, k0, k1, k2, k3, k4, k5⟩ := h
 have e : ∀ B' j v, B' < B → a.cell? ⟨B', j, none⟩ = some v → b.cell? ⟨B', j, none⟩ = some v := fun B' j v hl h => (hb.cell (p := ⟨B', j, none⟩) hl).trans h
 exact ⟨h0.trans (hb.mono hn), e _ _ _ l0 k0, e _ _ _ l1 k1, e _ _ _ l2 k2, e _ _ _ l3 k3, e _ _ _ l4 k4, e _ _ _ l5 k5⟩
theorem Nv {n : Nat} {W a b : World} {B0 j0 B1 j1 B2 j2 B3 j3 B4 j4 B5 j5 B6 j6 B7 j7 B8 j8 B9 j9 B10 j10 B11 j11 : Nat} {v0 v1 v2 v3 v4 v5 v6 v7 v8 v9 v10 v11 : Value} (hn : n ≤ W.heap.size) (hb : Below a.heap.size a b) (h : Below n W a ∧ a.cell? ⟨B0, j0, none⟩ = some (v0) ∧ a.cell? ⟨B1, j1, none⟩ = some (v1) ∧ a.cell? ⟨B2, j2, none⟩ = some (v2) ∧ a.cell? ⟨B3, j3, none⟩ = some (v3) ∧ a.cell? ⟨B4, j4, none⟩ = some (v4) ∧ a.cell? ⟨B5, j5, none⟩ = some (v5) ∧ a.cell? ⟨B6, j6, none⟩ = some (v6) ∧ a.cell? ⟨B7, j7, none⟩ = some (v7) ∧ a.cell? ⟨B8, j8, none⟩ = some (v8) ∧ a.cell? ⟨B9, j9, none⟩ = some (v9) ∧ a.cell? ⟨B10, j10, none⟩ = some (v10) ∧ a.cell? ⟨B11, j11, none⟩ = some (v11)) : Below n W b ∧ b.cell? ⟨B0, j0, none⟩ = some (v0) ∧ b.cell? ⟨B1, j1, none⟩ = some (v1) ∧ b.cell? ⟨B2, j2, none⟩ = some (v2) ∧ b.cell? ⟨B3, j3, none⟩ = some (v3) ∧ b.cell? ⟨B4, j4, none⟩ = some (v4) ∧ b.cell? ⟨B5, j5, none⟩ = some (v5) ∧ b.cell? ⟨B6, j6, none⟩ = some (v6) ∧ b.cell? ⟨B7, j7, none⟩ = some (v7) ∧ b.cell? ⟨B8, j8, none⟩ = some (v8) ∧ b.cell? ⟨B9, j9, none⟩ = some (v9) ∧ b.cell? ⟨B10, j10, none⟩ = some (v10) ∧ b.cell? ⟨B11, j11, none⟩ = some (v11) := by
 obtain ⟨h0, k0, k1, k2, k3, k4, k5, k6, k7, k8, k9, k10, k11⟩ := h
 have e : ∀ B j v, a.cell? ⟨B, j, none⟩ = some v → b.cell? ⟨B, j, none⟩ = some v := fun B j v h => (hb.cell (p := ⟨B, j, none⟩) (World.block_lt_of_cell? (h := h))).trans h
 have hs := h0.size
 exact ⟨h0.trans (hb.mono (by omega)), e _ _ _ k0, e _ _ _ k1, e _ _ _ k2, e _ _ _ k3, e _ _ _ k4, e _ _ _ k5, e _ _ _ k6, e _ _ _ k7, e _ _ _ k8, e _ _ _ k9, e _ _ _ k10, e _ _ _ k11⟩
theorem aqZ {n B : Nat} {W a b : World} {B0 j0 B1 j1 B2 j2 B3 j3 B4 j4 B5 j5 B6 j6 B7 j7 B8 j8 B9 j9 B10 j10 B11 j11 : Nat} {v0 v1 v2 v3 v4 v5 v6 v7 v8 v9 v10 v11 : Value} (hn : n ≤ B) (l0 : B0 < B) (l1 : B1 < B) (l2 : B2 < B) (l3 : B3 < B) (l4 : B4 < B) (l5 : B5 < B) (l6 : B6 < B) (l7 : B7 < B) (l8 : B8 < B) (l9 : B9 < B) (l10 : B10 < B) (l11 : B11 < B) (hb : Below B a b) (h : Below n W a ∧ a.cell? ⟨B0, j0, none⟩ = some (v0) ∧ a.cell? ⟨B1, j1, none⟩ = some (v1) ∧ a.cell? ⟨B2, j2, none⟩ = some (v2) ∧ a.cell? ⟨B3, j3, none⟩ = some (v3) ∧ a.cell? ⟨B4, j4, none⟩ = some (v4) ∧ a.cell? ⟨B5, j5, none⟩ = some (v5) ∧ a.cell? ⟨B6, j6, none⟩ = some (v6) ∧ a.cell? ⟨B7, j7, none⟩ = some (v7) ∧ a.cell? ⟨B8, j8, none⟩ = some (v8) ∧ a.cell? ⟨B9, j9, none⟩ = some (v9) ∧ a.cell? ⟨B10, j10, none⟩ = some (v10) ∧ a.cell? ⟨B11, j11, none⟩ = some (v11)) : Below n W b ∧ b.cell? ⟨B0, j0, none⟩ = some (v0) ∧ b.cell? ⟨B1, j1, none⟩ = some (v1) ∧ b.cell? ⟨B2, j2, none⟩ = some (v2) ∧ b.cell? ⟨B3, j3, none⟩ = some (v3) ∧ b.cell? ⟨B4, j4, none⟩ = some (v4) ∧ b.cell? ⟨B5, j5, none⟩ = some (v5) ∧ b.cell? ⟨B6, j6, none⟩ = some (v6) ∧ b.cell? ⟨B7, j7, none⟩ = some (v7) ∧ b.cell? ⟨B8, j8, none⟩ = some (v8) ∧ b.cell? ⟨B9, j9, none⟩ = some (v9) ∧ b.cell? ⟨B10, j10, none⟩ = some (v10) ∧ b.cell? ⟨B11, j11, none⟩ = some (v11) := by
 obtain ⟨h0, k0, k1, k2, k3, k4, k5, k6, k7, k8, k9, k10, k11⟩ := h
 have e : ∀ B' j v, B' < B → a.cell? ⟨B', j, none⟩ = some v → b.cell? ⟨B', j, none⟩ = some v := fun B' j v hl h => (hb.cell (p := ⟨B', j, none⟩) hl).trans h
 exact ⟨h0.trans (hb.mono hn), e _ _ _ l0 k0, e _ _ _ l1 k1, e _ _ _ l2 k2, e _ _ _ l3 k3, e _ _ _ l4 k4, e _ _ _ l5 k5, e _ _ _ l6 k6, e _ _ _ l7 k7, e _ _ _ l8 k8, e _ _ _ l9 k9, e _ _ _ l10 k10, e _ _ _ l11 k11⟩
theorem IK (a p : Rat) (va vp : Value) (w : World) (ha : aA w va a) (hp : aA w vp p) (s1 : bQ a 68719476736) (s2 : bQ p 68719476736) (s3 : bQ (1 - a) 68719476736) (s4 : bQ (p * (1 - a)) 68719476736) :
  Calls Tryz.prog 61 #[va, vp] w (dW (a + p * (1 - a)) w) := by
 obtain ⟨x, rfl⟩ := ha.bn
 obtain ⟨y, rfl⟩ := hp.bn
 have HX := ae ha
 have HY := ae hp
 have S1 := ae s1
 have S2 := ae s2
 have S3 := ae s3
 have S4 := ae s4
 clear ha hp s1 s2 s3 s4
 have S0 : Hid (bQ 1 68719476736) := jb _ (by omega)
 obtain ⟨q, hq⟩ : ∃ q, q = a + p * (1 - a) := ⟨_, rfl⟩
 have HQ := ae hq
 rw [← hq]
 clear hq
 go_enter Tryz.func61, Tryz.ntmps61
 go_wp2_with fail
 generalize hW0 : ((w.alloc (.cells x.arr 40)).alloc (.cells y.arr 40)).alloc (.cells _ _) = W at *
 obtain ⟨hal, hB1, hB2, hB3, hWs⟩ := O9 w _ _ _ _ W hW0.symm
 have pI := ae hal
 have HB3 := ae hB3
 have N3 : Hid (w.heap.size + 1 + 1 ≤ W.heap.size) := by show _ ≤ _; omega
 have N0 : Hid (w.heap.size < w.heap.size + 1 + 1) := by show _ < _; omega
 have N1 : Hid (w.heap.size + 1 < w.heap.size + 1 + 1) := by show _ < _; omega
 obtain ⟨x0, x1, x2, _, _, _⟩ := eu (x := x) hB1
 obtain ⟨y0, y1, y2, _, _, _⟩ := eu (x := y) hB2
 have HAD := ae (hal.drew)
 clear hW0 hal hB1 hB2 hB3 hWs
 refine wp_region_held_drew (S := (fun w' => Below (w.heap.size + 1 + 1) W w' ∧ w'.cell? ⟨w.heap.size, 0, none⟩ = some (.bool x.b) ∧ w'.cell? ⟨w.heap.size, 1, none⟩ = some (.slice x.a x.n x.c) ∧ w'.cell? ⟨w.heap.size, 2, none⟩ = some (.slice x.d x.m x.e) ∧ w'.cell? ⟨w.heap.size + 1, 0, none⟩ = some (.bool y.b) ∧ w'.cell? ⟨w.heap.size + 1, 1, none⟩ = some (.slice y.a y.n y.c) ∧ w'.cell? ⟨w.heap.size + 1, 2, none⟩ = some (.slice y.d y.m y.e))) (by kernel_rfl) ⟨(Below.refl _ _).drew, x0, x1, x2, y0, y1, y2⟩ (fun hh => ?_)
 clear x0 x1 x2 y0 y1 y2
 refine iI (i := 0) (v := ?vp0) rfl (Or.inl ⟨by rfl, ?wM⟩) (by assumption) ?NU
 case wM => intro w hSw; (try dsimp only at hSw); (go_simp <;> with_reducible rfl)
 try simp only [ag]
 refine iI (i := 1) (v := ?vp1) rfl (Or.inl ⟨by rfl, ?rQ⟩) (by assumption) ?Hl
 case rQ => intro w hSw; (try dsimp only at hSw); (go_simp <;> with_reducible rfl)
 try simp only [ag]
 refine iI (i := 3) (v := ?vp3) rfl (Or.inl ⟨by rfl, ?Az⟩) (by assumption) ?U_
 case Az => intro w hSw; (try dsimp only at hSw); (go_simp <;> with_reducible rfl)
 try simp only [ag]
 refine o8 (i := 2) rfl (fun K hK => ?_)
 go_simp
 go_wp2_with (go_at_call 44; (with_reducible refine (one_any _).mono ?_); rintro e wA ⟨vA, rfl, hvA, ji⟩)
 refine hK.out _ _ (kd6 N3.out ji hh) (fun hh => ?_)
 clear hK K
 try simp only [ag]
 have BA := ae (bt HAD.out ji)
 refine o8 (i := 4) rfl (fun K hK => ?_)
 go_simp
 go_wp2_with (go_at_call 45; (with_reducible refine (zk 1 a _ _ _ hvA (HX.out.below BA.out) S0.out S1.out).mono ?_); rintro e wB ⟨vB, rfl, hvB, hbB⟩)
 refine hK.out _ _ (kd6 N3.out hbB hh) (fun hh => ?_)
 clear hK K
 try simp only [ag]
 have BB := ae (bt BA.out hbB)
 refine o8 (i := 5) rfl (fun K hK => ?_)
 go_simp
 go_wp2_with (go_at_call 34; (with_reducible refine (kQ p (1 - a) _ _ _ (HY.out.below BB.out) hvB S2.out S3.out).mono ?_); rintro e wC ⟨vC, rfl, CX, hbC⟩)
 refine hK.out _ _ (kd6 N3.out hbC hh) (fun hh => ?_)
 clear hK K
 try simp only [ag]
 have BC := ae (bt BB.out hbC)
 refine o8 (i := 6) rfl (fun K hK => ?_)
 go_simp
 go_wp2_with (go_at_call 33; (with_reducible refine (lS a (p * (1 - a)) _ _ _ (HX.out.below BC.out) CX S1.out S4.out).mono ?_); rintro e wD ⟨vD, rfl, EM, hbD⟩)
 refine hK.out _ _ (kd6 N3.out hbD hh) (fun hh => ?_)
 clear hK K
 try simp only [ag]
 rw [← HQ.out] at EM
 obtain ⟨z, rfl⟩ := EM.bn
 have e0 : W.drew.heap[w.heap.size + 1 + 1]? = _ := HB3.out
 have eA := ay e0 ji (ai e0)
 have eB := ay eA hbB (ai eA)
 have eC := ay eB hbC (ai eB)
 have eD := ay eC hbD (ai eC)
 have E : Hid (wD.heap[w.heap.size + 1 + 1]? = some (.cells dQ.arr 40 (0, 0))) := eD
 have HV := ae EM
 have BZ := ae (bt BC.out hbD)
 obtain ⟨g0, g1, g2, f0, f1, f2⟩ := eu (x := dQ) E.out
 refine o8 (i := 7) rfl (fun K hK => ?_)
 go_simp
 refine hK.out _ _ (ks6 (Nat.le_refl _) N0.out N0.out N0.out N1.out N1.out N1.out (kG (Below.refl _ _) (Nat.le_refl _)) hh) (fun hh => ?_)
 clear hK K
 try simp only [ag]
 refine wpAnyH_done (by kernel_rfl) ?_ _
 obtain ⟨h0, h1, h2, _, _, _⟩ := eu (x := z) (mO (x := z) E.out)
 go_wp2_with fail
 refine bodyPost_ret (v := z.val) (by simp [results, Tryz.results61, go_sem, h0, h1, h2]) rfl ⟨_, rfl, aA.mO HV.out E.out, kG BZ.out (by omega)⟩
def Ig (x : Rat) (k : Nat) : Nat := if x.num < 0 ∧ x.num.natAbs * 2 ^ k % x.den ≠ 0 then x.num.natAbs * 2 ^ k / x.den + 1 else x.num.natAbs * 2 ^ k / x.den
def gK (x : Rat) (k : Nat) : Rat := pK (decide (x.num < 0)) (Ig x k) (2 ^ k)
def yu (x : Rat) (k : Nat) : Rat := -(gK (-x) k)
theorem sS {k : Nat} (hk : k ≤ 256) : (aU ak (2 ^ k)).length ≤ 5 := by
 have h := aZ aO (show 2 ^ k ≤ 2 ^ 256 from Nat.pow_le_pow_right (by omega) hk)
 have e : (aU ak (2 ^ 256)).length = 5 := by decide +kernel
 omega
theorem AL {m k : Nat} (hk : k ≤ 256) (d : Nat) : (aU ak (m * 2 ^ k)).length ≤ (aU ak m).length + 5 ∧ (aU ak (m * 2 ^ k / d)).length ≤ (aU ak m).length + 5 ∧ (aU ak (m * 2 ^ k / d + 1)).length ≤ (aU ak m).length + 7 := by
 have h1 := dJ aO m (2 ^ k)
 have h2 := sS hk
 have h3 := aZ aO (Nat.div_le_self (m * 2 ^ k) d)
 have h5 := qI aO (m * 2 ^ k / d) 1 ((aU ak (m * 2 ^ k / d)).length + 1) (by omega) (by
  have : (aU ak 1).length = 1 := by decide +kernel
  omega)
 omega
theorem yx (w : World) : Calls Tryz.prog 51 #[.int .u64 1] w (qh .u64 ak 1 w) := tH 1 w (by unfold ak; omega)
theorem Jm (w : World) (x : R3) (cs : Array Value) (T : Nat) (W : World) (hW : W = (w.alloc (.cells x.arr 40)).alloc (.cells cs T)) :
  Below w.heap.size w W ∧ W.heap[w.heap.size]? = some (.cells x.arr 40 (0, 0)) ∧ W.heap[w.heap.size + 1]? = some (.cells cs T (0, 0)) := by
 subst hW
 have e1 : (w.alloc (.cells x.arr 40)).heap.size = w.heap.size + 1 := World.size_alloc ..
 have a1 := aV w x.arr 40
 have a2 := aV (w.alloc (.cells x.arr 40)) cs T
 rw [e1] at a2
 exact ⟨below2 _ _ _, (heap_alloc_old _ _ (ai a1)).trans a1, a2⟩
theorem aij (x0 : Rat) (k : Nat) (hk : k ≤ 256) (z : Int) (hz : min (max z 0) 256 = (k : Int)) (xa : Option Addr) (xn xc : Nat) (xd : Option Addr) (xm xe : Nat) (w : World) (hx : aA w (R3.val (⟨false, xa, xn, xc, xd, xm, xe⟩ : R3)) x0) (hs : bQ x0 68719476736) (Q : Rat) (hQ : pK false (x0.num.natAbs * 2 ^ k / x0.den) (2 ^ k) = Q) :
  Calls Tryz.prog 24 #[(R3.val (⟨false, xa, xn, xc, xd, xm, xe⟩ : R3)), .int .i64 z] w (dW Q w) := by
 obtain ⟨vn, vd, hxe, n1, n2⟩ := hx
 have hxa : Value.slice xa xn xc = vn ∧ Value.slice xd xm xe = vd := by
  injection hxe with hxe
  simp only [Array.mk.injEq, List.cons.injEq] at hxe
  exact ⟨hxe.2.1, hxe.2.2.1⟩
 rw [← hxa.1] at n1
 rw [← hxa.2] at n2
 have H1 := ae n1
 have H2 := ae n2
 have hls := AL (m := x0.num.natAbs) hk x0.den
 have hs1 := hs.1
 have hl2 := sS hk
 have HL : Hid ((aU ak (x0.num.natAbs * 2 ^ k)).length ≤ 274877906944) := by show _ ≤ _; omega
 have HL2 : Hid ((aU ak (2 ^ k)).length ≤ 274877906944) := by show _ ≤ _; omega
 have HLM : Hid ((aU ak x0.num.natAbs).length ≤ 549755813888) := by show _ ≤ _; omega
 have HLQ : Hid ((aU ak (x0.num.natAbs * 2 ^ k / x0.den)).length ≤ 1099511627776) := by show _ ≤ _; omega
 have Ae : Hid ((aU ak (x0.num.natAbs * 2 ^ k / x0.den)).length ≤ 274877906944) := by show _ ≤ _; omega
 have HL1 : Hid ((aU ak 1).length ≤ 549755813888) := by show _ ≤ _; rw [show (aU ak 1).length = 1 from by decide +kernel]; omega
 have HLO : Hid ((aU ak 1).length ≤ 1099511627776) := by show _ ≤ _; rw [show (aU ak 1).length = 1 from by decide +kernel]; omega
 have HK2 : Hid (k ≤ 549755813888) := by show _ ≤ _; omega
 have HQ := ae hQ
 obtain ⟨m, hmx⟩ : ∃ m, max z 0 = m := ⟨_, rfl⟩
 rw [hmx] at hz
 have hmn : min m 256 = (k : Int) := hz
 clear hz
 clear hxe hxa n1 n2 hls hs1 hs hl2 hQ
 go_enter Tryz.func24, Tryz.ntmps24
 go_wp2_with fail
 generalize hW0 : (w.alloc (.cells (R3.arr (⟨false, xa, xn, xc, xd, xm, xe⟩ : R3)) 40)).alloc (.cells _ _) = W at *
 obtain ⟨hal, hB1, hB2⟩ := Jm w _ _ _ W hW0.symm
 obtain ⟨x0', x1, x2, _, _, _⟩ := eu (x := (⟨false, xa, xn, xc, xd, xm, xe⟩ : R3)) hB1
 have HB1 := ae hB1
 have HB2 := ae hB2
 have pI := ae hal
 have HAD := ae hal.drew
 have N3 : Hid (w.heap.size ≤ W.heap.size) := hal.size
 clear hW0 hal hB1 hB2
 refine wp_region_held_drew (S := (fun w' => Below (w.heap.size) W w' ∧ w'.cell? ⟨w.heap.size, 1, none⟩ = some (.slice xa xn xc) ∧ w'.cell? ⟨w.heap.size, 2, none⟩ = some (.slice xd xm xe))) (by kernel_rfl) ⟨(Below.refl _ _).drew, x1, x2⟩ (fun hh => ?_)
 clear x0' x1 x2
 refine iI (i := 0) (v := ?vp0) rfl (Or.inl ⟨by rfl, ?wM⟩) (by assumption) ?NU
 case wM => intro w hSw; (try dsimp only at hSw); (go_simp <;> with_reducible rfl)
 try simp only [ag]
 refine iI (i := 1) (v := ?vp1) rfl (Or.inl ⟨by rfl, ?rQ⟩) (by assumption) ?Hl
 case rQ => intro w hSw; (try dsimp only at hSw); (go_simp <;> with_reducible rfl)
 try simp only [ag]
 refine iI (i := 2) (v := ?vp2) rfl (Or.inl ⟨by rfl, ?yX⟩) (by assumption) ?QP
 case yX => intro w hSw; (try dsimp only at hSw); (go_simp <;> with_reducible rfl)
 try simp only [ag]
 refine iI (i := 4) (v := ?vp4) rfl (Or.inl ⟨by rfl, ?wO⟩) (by assumption) ?NV
 case wO => intro w hSw; (try dsimp only at hSw); (go_simp <;> with_reducible rfl)
 try simp only [ag]
 refine iI (i := 5) (v := ?vp5) rfl (Or.inl ⟨by rfl, ?wP⟩) (by assumption) ?NW
 case wP => intro w hSw; (try dsimp only at hSw); (go_simp <;> with_reducible rfl)
 try simp only [ag]
 refine o8 (i := 3) rfl (fun K hK => ?_)
 go_simp
 go_wp2_with (go_at_call 52; (with_reducible refine (oW x0.num.natAbs k _ _ (H1.out.below HAD.out) HLM.out HK2.out).mono ?_); rintro e wA ⟨vA, rfl, hvA, ji⟩)
 refine hK.out _ _ (kd2 N3.out ji hh) (fun hh => ?_)
 clear hK K
 try simp only [ag]
 have BA := ae (bt HAD.out ji)
 refine o8 (i := 6) rfl (fun K hK => ?_)
 go_simp
 go_wp2_with (go_at_call 54; (with_reducible refine (lh x0.den _ _ (H2.out.below BA.out) x0.den_pos).mono ?_); rintro e wB ⟨vB, rfl, hvB, hbB⟩)
 refine hK.out _ _ (kd2 N3.out hbB hh) (fun hh => ?_)
 clear hK K
 try simp only [ag]
 have BB := ae (bt BA.out hbB)
 refine o8 (i := 7) rfl (fun K hK => ?_)
 go_simp
 go_wp2_with (go_at_call 53; (with_reducible refine (lX (x0.num.natAbs * 2 ^ k) x0.den _ _ _ (hvA.below hbB) hvB x0.den_pos HL.out).mono ?_); rintro e wC ⟨vQ, vR, rfl, ZW, hvR, hbC⟩; obtain ⟨ar, cr, rfl, _⟩ := aX.opened hvR; obtain ⟨aq, cq, rfl, _⟩ := aX.opened ZW)
 refine hK.out _ _ (kd2 N3.out hbC hh) (fun hh => ?_)
 clear hK K
 try simp only [ag]
 refine iI (i := 8) (v := ?vp8) rfl (Or.inl ⟨by rfl, ?JE⟩) (by assumption) ?ae'
 case JE => intro w hSw; (try dsimp only at hSw); (go_simp <;> with_reducible rfl)
 try simp only [ag]
 refine iI (i := 9) (v := ?vp9) rfl (Or.inl ⟨by rfl, ?AA⟩) (by assumption) ?Va
 case AA => intro w hSw; (try dsimp only at hSw); (go_simp <;> with_reducible rfl)
 try simp only [ag]
 refine iI (i := 10) (v := ?akB) rfl (Or.inl ⟨by rfl, ?EN⟩) (by assumption) ?aaS
 case EN => intro w hSw; (try dsimp only at hSw); (go_simp <;> with_reducible rfl)
 try simp only [ag]
 refine iI (i := 11) (v := ?aoy) rfl (Or.inl ⟨by rfl, ?MS⟩) (by assumption) ?agF
 case MS => intro w hSw; (try dsimp only at hSw); (go_simp <;> with_reducible rfl)
 try simp only [ag]
 refine iI (i := 12) (v := ?aoz) rfl (Or.inl ⟨by rfl, ?MV⟩) (by assumption) ?agG
 case MV => intro w hSw; (try dsimp only at hSw); (go_simp <;> with_reducible rfl)
 try simp only [ag]
 refine wpAnyH_done (by kernel_rfl) ?_ _
 have e1 : W.drew.heap[w.heap.size]? = _ := HB1.out
 have YT := ay e1 ji (ai e1)
 have YU := ay YT hbB (ai YT)
 have D1 := ae (ay YU hbC (ai YU))
 have e2 : W.drew.heap[w.heap.size + 1]? = _ := HB2.out
 have YV := ay e2 ji (ai e2)
 have YW := ay YV hbB (ai YV)
 have D2 := ae (ay YW hbC (ai YW))
 have HB := ae (bt BB.out hbC)
 obtain ⟨x0', x1, x2, _, _, _⟩ := eu (x := (⟨false, xa, xn, xc, xd, xm, xe⟩ : R3)) D1.out
 have HVQ := ae ZW
 clear e1 YT YU e2 YV YW hh hvA hvB ZW hvR ji hbB hbC BA BB HAD N3
 go_wp2_with fail
 generalize wC = W at *
 have hVQ := HVQ.out
 obtain ⟨x0, x1, x2, _, _, _⟩ := eu (x := (⟨false, xa, xn, xc, xd, xm, xe⟩ : R3)) D1.out
 have N3 : Hid (w.heap.size + 1 ≤ W.heap.size) := by
  show _ ≤ _
  have := ai D2.out
  omega
 have N0 : Hid (w.heap.size < w.heap.size + 1) := by show _ < _; omega
 have HAD := ae (HB.out.drew)
 refine wp_region_held_drew (S := (fun w' => Below (w.heap.size + 1) W w' ∧ w'.cell? ⟨w.heap.size, 0, none⟩ = some (.bool false))) (by kernel_rfl) ⟨(Below.refl _ _).drew, x0⟩ (fun hh => ?_)
 clear x0 x1 x2
 refine iI (i := 0) (v := ?aoA) rfl (Or.inl ⟨by rfl, ?MW⟩) (by assumption) ?agH
 case MW => intro w hSw; (try dsimp only at hSw); (go_simp <;> with_reducible rfl)
 try simp only [ag]
 refine iI (i := 1) (v := ?aoB) rfl (Or.inl ⟨by rfl, ?MX⟩) (by assumption) ?agI
 case MX => intro w hSw; (try dsimp only at hSw); (go_simp <;> with_reducible rfl)
 try simp only [ag]
 refine iI (i := 2) (v := ?aoC) rfl (Or.inl ⟨by rfl, ?MZ⟩) (by assumption) ?agJ
 case MZ => intro w hSw; (try dsimp only at hSw); (go_simp <;> with_reducible rfl)
 try simp only [ag]
 refine iI (i := 4) (v := ?aoD) rfl (Or.inl ⟨by rfl, ?M_⟩) (by assumption) ?agK
 case M_ => intro w hSw; (try dsimp only at hSw); (go_simp <;> with_reducible rfl)
 try simp only [ag]
 refine o8 (i := 3) rfl (fun K hK => ?_)
 go_simp
 go_wp2_with (go_at_call 51; (with_reducible refine (yx _).mono ?_); rintro e wF ⟨vF, rfl, UU, Ag⟩)
 refine hK.out _ _ (kd1 N3.out Ag hh) (fun hh => ?_)
 clear hK K
 try simp only [ag]
 have BF := ae (bt HAD.out Ag)
 refine o8 (i := 5) rfl (fun K hK => ?_)
 go_simp
 go_wp2_with (go_at_call 52; (with_reducible refine (oW 1 k _ _ UU HL1.out HK2.out).mono ?_); rintro e wG ⟨vG, rfl, ZV, Jv⟩)
 refine hK.out _ _ (kd1 N3.out Jv hh) (fun hh => ?_)
 clear hK K
 try simp only [ag]
 have BG := ae (bt BF.out Jv)
 rw [Nat.one_mul] at ZV
 refine o8 (i := 6) rfl (fun K hK => ?_)
 go_simp
 go_wp2_with (go_at_call 27; (with_reducible refine (jR false (x0.num.natAbs * 2 ^ k / x0.den) (2 ^ k) _ _ _ (hVQ.below (bt (Below.refl _ _).drew (bt Ag Jv))) ZV (Nat.two_pow_pos k) Ae.out HL2.out).mono ?_); rintro e wI ⟨vI, rfl, UW, PN⟩)
 refine hK.out _ _ (kd1 N3.out PN hh) (fun hh => ?_)
 clear hK K
 try simp only [ag]
 rw [HQ.out] at UW
 obtain ⟨z, rfl⟩ := UW.bn
 have e0 : W.drew.heap[w.heap.size + 1]? = _ := D2.out
 have eF := ay e0 Ag (ai e0)
 have eG := ay eF Jv (ai eF)
 have eI := ay eG PN (ai eG)
 have E : Hid (wI.heap[w.heap.size + 1]? = some (.cells dQ.arr 40 (0, 0))) := eI
 have HV := ae UW
 have BZ := ae (bt BG.out PN)
 obtain ⟨g0, g1, g2, f0, f1, f2⟩ := eu (x := dQ) E.out
 refine o8 (i := 7) rfl (fun K hK => ?_)
 go_simp
 refine hK.out _ _ (ks1 (Nat.le_refl _) N0.out (kG (Below.refl _ _) (Nat.le_refl _)) hh) (fun hh => ?_)
 clear hK K
 try simp only [ag]
 refine wpAnyH_done (by kernel_rfl) ?_ _
 obtain ⟨h0, h1, h2, _, _, _⟩ := eu (x := z) (mO (x := z) E.out)
 go_wp2_with fail
 refine bodyPost_ret (v := z.val) (by simp [results, Tryz.results24, go_sem, h0, h1, h2]) rfl ⟨_, rfl, aA.mO HV.out E.out, kG BZ.out (by omega)⟩
theorem aik (x0 : Rat) (k : Nat) (hk : k ≤ 256) (z : Int) (hz : min (max z 0) 256 = (k : Int)) (xa : Option Addr) (xn xc : Nat) (xd : Option Addr) (xm xe : Nat) (w : World) (hx : aA w (R3.val (⟨true, xa, xn, xc, xd, xm, xe⟩ : R3)) x0) (hs : bQ x0 68719476736) (hr : x0.num.natAbs * 2 ^ k % x0.den = 0) (Q : Rat) (hQ : pK true (x0.num.natAbs * 2 ^ k / x0.den) (2 ^ k) = Q) :
  Calls Tryz.prog 24 #[(R3.val (⟨true, xa, xn, xc, xd, xm, xe⟩ : R3)), .int .i64 z] w (dW Q w) := by
 obtain ⟨vn, vd, hxe, n1, n2⟩ := hx
 have hxa : Value.slice xa xn xc = vn ∧ Value.slice xd xm xe = vd := by
  injection hxe with hxe
  simp only [Array.mk.injEq, List.cons.injEq] at hxe
  exact ⟨hxe.2.1, hxe.2.2.1⟩
 rw [← hxa.1] at n1
 rw [← hxa.2] at n2
 have H1 := ae n1
 have H2 := ae n2
 have hls := AL (m := x0.num.natAbs) hk x0.den
 have hs1 := hs.1
 have hl2 := sS hk
 have HL : Hid ((aU ak (x0.num.natAbs * 2 ^ k)).length ≤ 274877906944) := by show _ ≤ _; omega
 have HL2 : Hid ((aU ak (2 ^ k)).length ≤ 274877906944) := by show _ ≤ _; omega
 have HLM : Hid ((aU ak x0.num.natAbs).length ≤ 549755813888) := by show _ ≤ _; omega
 have HLQ : Hid ((aU ak (x0.num.natAbs * 2 ^ k / x0.den)).length ≤ 1099511627776) := by show _ ≤ _; omega
 have Ae : Hid ((aU ak (x0.num.natAbs * 2 ^ k / x0.den)).length ≤ 274877906944) := by show _ ≤ _; omega
 have HL1 : Hid ((aU ak 1).length ≤ 549755813888) := by show _ ≤ _; rw [show (aU ak 1).length = 1 from by decide +kernel]; omega
 have HLO : Hid ((aU ak 1).length ≤ 1099511627776) := by show _ ≤ _; rw [show (aU ak 1).length = 1 from by decide +kernel]; omega
 have HK2 : Hid (k ≤ 549755813888) := by show _ ≤ _; omega
 have HQ := ae hQ
 obtain ⟨m, hmx⟩ : ∃ m, max z 0 = m := ⟨_, rfl⟩
 rw [hmx] at hz
 have hmn : min m 256 = (k : Int) := hz
 clear hz
 have HR := ae hr
 clear hr
 clear hxe hxa n1 n2 hls hs1 hs hl2 hQ
 go_enter Tryz.func24, Tryz.ntmps24
 go_wp2_with fail
 generalize hW0 : (w.alloc (.cells (R3.arr (⟨true, xa, xn, xc, xd, xm, xe⟩ : R3)) 40)).alloc (.cells _ _) = W at *
 obtain ⟨hal, hB1, hB2⟩ := Jm w _ _ _ W hW0.symm
 obtain ⟨x0', x1, x2, _, _, _⟩ := eu (x := (⟨true, xa, xn, xc, xd, xm, xe⟩ : R3)) hB1
 have HB1 := ae hB1
 have HB2 := ae hB2
 have pI := ae hal
 have HAD := ae hal.drew
 have N3 : Hid (w.heap.size ≤ W.heap.size) := hal.size
 clear hW0 hal hB1 hB2
 refine wp_region_held_drew (S := (fun w' => Below (w.heap.size) W w' ∧ w'.cell? ⟨w.heap.size, 1, none⟩ = some (.slice xa xn xc) ∧ w'.cell? ⟨w.heap.size, 2, none⟩ = some (.slice xd xm xe))) (by kernel_rfl) ⟨(Below.refl _ _).drew, x1, x2⟩ (fun hh => ?_)
 clear x0' x1 x2
 refine iI (i := 0) (v := ?vp0) rfl (Or.inl ⟨by rfl, ?wM⟩) (by assumption) ?NU
 case wM => intro w hSw; (try dsimp only at hSw); (go_simp <;> with_reducible rfl)
 try simp only [ag]
 refine iI (i := 1) (v := ?vp1) rfl (Or.inl ⟨by rfl, ?rQ⟩) (by assumption) ?Hl
 case rQ => intro w hSw; (try dsimp only at hSw); (go_simp <;> with_reducible rfl)
 try simp only [ag]
 refine iI (i := 2) (v := ?vp2) rfl (Or.inl ⟨by rfl, ?yX⟩) (by assumption) ?QP
 case yX => intro w hSw; (try dsimp only at hSw); (go_simp <;> with_reducible rfl)
 try simp only [ag]
 refine iI (i := 4) (v := ?vp4) rfl (Or.inl ⟨by rfl, ?wO⟩) (by assumption) ?NV
 case wO => intro w hSw; (try dsimp only at hSw); (go_simp <;> with_reducible rfl)
 try simp only [ag]
 refine iI (i := 5) (v := ?vp5) rfl (Or.inl ⟨by rfl, ?wP⟩) (by assumption) ?NW
 case wP => intro w hSw; (try dsimp only at hSw); (go_simp <;> with_reducible rfl)
 try simp only [ag]
 refine o8 (i := 3) rfl (fun K hK => ?_)
 go_simp
 go_wp2_with (go_at_call 52; (with_reducible refine (oW x0.num.natAbs k _ _ (H1.out.below HAD.out) HLM.out HK2.out).mono ?_); rintro e wA ⟨vA, rfl, hvA, ji⟩)
 refine hK.out _ _ (kd2 N3.out ji hh) (fun hh => ?_)
 clear hK K
 try simp only [ag]
 have BA := ae (bt HAD.out ji)
 refine o8 (i := 6) rfl (fun K hK => ?_)
 go_simp
 go_wp2_with (go_at_call 54; (with_reducible refine (lh x0.den _ _ (H2.out.below BA.out) x0.den_pos).mono ?_); rintro e wB ⟨vB, rfl, hvB, hbB⟩)
 refine hK.out _ _ (kd2 N3.out hbB hh) (fun hh => ?_)
 clear hK K
 try simp only [ag]
 have BB := ae (bt BA.out hbB)
 refine o8 (i := 7) rfl (fun K hK => ?_)
 go_simp
 go_wp2_with (go_at_call 53; (with_reducible refine (lX (x0.num.natAbs * 2 ^ k) x0.den _ _ _ (hvA.below hbB) hvB x0.den_pos HL.out).mono ?_); rintro e wC ⟨vQ, vR, rfl, ZW, hvR, hbC⟩; obtain ⟨ar, cr, rfl, _⟩ := aX.opened hvR; obtain ⟨aq, cq, rfl, _⟩ := aX.opened ZW)
 refine hK.out _ _ (kd2 N3.out hbC hh) (fun hh => ?_)
 clear hK K
 try simp only [ag]
 refine iI (i := 8) (v := ?vp8) rfl (Or.inl ⟨by rfl, ?JE⟩) (by assumption) ?ae'
 case JE => intro w hSw; (try dsimp only at hSw); (go_simp <;> with_reducible rfl)
 try simp only [ag]
 refine iI (i := 9) (v := ?vp9) rfl (Or.inl ⟨by rfl, ?AA⟩) (by assumption) ?Va
 case AA => intro w hSw; (try dsimp only at hSw); (go_simp <;> with_reducible rfl)
 try simp only [ag]
 refine iI (i := 10) (v := ?akB) rfl (Or.inl ⟨by rfl, ?EN⟩) (by assumption) ?aaS
 case EN => intro w hSw; (try dsimp only at hSw); (go_simp <;> with_reducible rfl)
 try simp only [ag]
 refine iI (i := 11) (v := ?aoy) rfl (Or.inl ⟨by rfl, ?MS⟩) (by assumption) ?agF
 case MS => intro w hSw; (try dsimp only at hSw); (go_simp <;> with_reducible rfl)
 try simp only [ag]
 refine iI (i := 12) (v := ?aoz) rfl (Or.inl ⟨by rfl, ?MV⟩) (by assumption) ?agG
 case MV => intro w hSw; (try dsimp only at hSw); (go_simp <;> with_reducible rfl)
 try simp only [ag]
 refine wpAnyH_done (by kernel_rfl) ?_ _
 have e1 : W.drew.heap[w.heap.size]? = _ := HB1.out
 have YT := ay e1 ji (ai e1)
 have YU := ay YT hbB (ai YT)
 have D1 := ae (ay YU hbC (ai YU))
 have e2 : W.drew.heap[w.heap.size + 1]? = _ := HB2.out
 have YV := ay e2 ji (ai e2)
 have YW := ay YV hbB (ai YV)
 have D2 := ae (ay YW hbC (ai YW))
 have HB := ae (bt BB.out hbC)
 obtain ⟨x0', x1, x2, _, _, _⟩ := eu (x := (⟨true, xa, xn, xc, xd, xm, xe⟩ : R3)) D1.out
 have HVQ := ae ZW
 clear e1 YT YU e2 YV YW hh hvA hvB ZW hvR ji hbB hbC BA BB HAD N3
 rw [show (aU ak (x0.num.natAbs * 2 ^ k % x0.den)).length = 0 from by rw [HR.out]; rfl]
 go_wp2_with fail
 generalize wC = W at *
 have hVQ := HVQ.out
 obtain ⟨x0, x1, x2, _, _, _⟩ := eu (x := (⟨true, xa, xn, xc, xd, xm, xe⟩ : R3)) D1.out
 have N3 : Hid (w.heap.size + 1 ≤ W.heap.size) := by
  show _ ≤ _
  have := ai D2.out
  omega
 have N0 : Hid (w.heap.size < w.heap.size + 1) := by show _ < _; omega
 have HAD := ae (HB.out.drew)
 refine wp_region_held_drew (S := (fun w' => Below (w.heap.size + 1) W w' ∧ w'.cell? ⟨w.heap.size, 0, none⟩ = some (.bool true))) (by kernel_rfl) ⟨(Below.refl _ _).drew, x0⟩ (fun hh => ?_)
 clear x0 x1 x2
 refine iI (i := 0) (v := ?aoA) rfl (Or.inl ⟨by rfl, ?MW⟩) (by assumption) ?agH
 case MW => intro w hSw; (try dsimp only at hSw); (go_simp <;> with_reducible rfl)
 try simp only [ag]
 refine iI (i := 1) (v := ?aoB) rfl (Or.inl ⟨by rfl, ?MX⟩) (by assumption) ?agI
 case MX => intro w hSw; (try dsimp only at hSw); (go_simp <;> with_reducible rfl)
 try simp only [ag]
 refine iI (i := 2) (v := ?aoC) rfl (Or.inl ⟨by rfl, ?MZ⟩) (by assumption) ?agJ
 case MZ => intro w hSw; (try dsimp only at hSw); (go_simp <;> with_reducible rfl)
 try simp only [ag]
 refine iI (i := 4) (v := ?aoD) rfl (Or.inl ⟨by rfl, ?M_⟩) (by assumption) ?agK
 case M_ => intro w hSw; (try dsimp only at hSw); (go_simp <;> with_reducible rfl)
 try simp only [ag]
 refine o8 (i := 3) rfl (fun K hK => ?_)
 go_simp
 go_wp2_with (go_at_call 51; (with_reducible refine (yx _).mono ?_); rintro e wF ⟨vF, rfl, UU, Ag⟩)
 refine hK.out _ _ (kd1 N3.out Ag hh) (fun hh => ?_)
 clear hK K
 try simp only [ag]
 have BF := ae (bt HAD.out Ag)
 refine o8 (i := 5) rfl (fun K hK => ?_)
 go_simp
 go_wp2_with (go_at_call 52; (with_reducible refine (oW 1 k _ _ UU HL1.out HK2.out).mono ?_); rintro e wG ⟨vG, rfl, ZV, Jv⟩)
 refine hK.out _ _ (kd1 N3.out Jv hh) (fun hh => ?_)
 clear hK K
 try simp only [ag]
 have BG := ae (bt BF.out Jv)
 rw [Nat.one_mul] at ZV
 refine o8 (i := 6) rfl (fun K hK => ?_)
 go_simp
 go_wp2_with (go_at_call 27; (with_reducible refine (jR true (x0.num.natAbs * 2 ^ k / x0.den) (2 ^ k) _ _ _ (hVQ.below (bt (Below.refl _ _).drew (bt Ag Jv))) ZV (Nat.two_pow_pos k) Ae.out HL2.out).mono ?_); rintro e wI ⟨vI, rfl, UW, PN⟩)
 refine hK.out _ _ (kd1 N3.out PN hh) (fun hh => ?_)
 clear hK K
 try simp only [ag]
 rw [HQ.out] at UW
 obtain ⟨z, rfl⟩ := UW.bn
 have e0 : W.drew.heap[w.heap.size + 1]? = _ := D2.out
 have eF := ay e0 Ag (ai e0)
 have eG := ay eF Jv (ai eF)
 have eI := ay eG PN (ai eG)
 have E : Hid (wI.heap[w.heap.size + 1]? = some (.cells dQ.arr 40 (0, 0))) := eI
 have HV := ae UW
 have BZ := ae (bt BG.out PN)
 obtain ⟨g0, g1, g2, f0, f1, f2⟩ := eu (x := dQ) E.out
 refine o8 (i := 7) rfl (fun K hK => ?_)
 go_simp
 refine hK.out _ _ (ks1 (Nat.le_refl _) N0.out (kG (Below.refl _ _) (Nat.le_refl _)) hh) (fun hh => ?_)
 clear hK K
 try simp only [ag]
 refine wpAnyH_done (by kernel_rfl) ?_ _
 obtain ⟨h0, h1, h2, _, _, _⟩ := eu (x := z) (mO (x := z) E.out)
 go_wp2_with fail
 refine bodyPost_ret (v := z.val) (by simp [results, Tryz.results24, go_sem, h0, h1, h2]) rfl ⟨_, rfl, aA.mO HV.out E.out, kG BZ.out (by omega)⟩
theorem aii (x0 : Rat) (k : Nat) (hk : k ≤ 256) (z : Int) (hz : min (max z 0) 256 = (k : Int)) (xa : Option Addr) (xn xc : Nat) (xd : Option Addr) (xm xe : Nat) (w : World) (hx : aA w (R3.val (⟨true, xa, xn, xc, xd, xm, xe⟩ : R3)) x0) (hs : bQ x0 68719476736) (hr : 0 < (aU ak (x0.num.natAbs * 2 ^ k % x0.den)).length) (Q : Rat) (hQ : pK true (x0.num.natAbs * 2 ^ k / x0.den + 1) (2 ^ k) = Q) :
  Calls Tryz.prog 24 #[(R3.val (⟨true, xa, xn, xc, xd, xm, xe⟩ : R3)), .int .i64 z] w (dW Q w) := by
 obtain ⟨vn, vd, hxe, n1, n2⟩ := hx
 have hxa : Value.slice xa xn xc = vn ∧ Value.slice xd xm xe = vd := by
  injection hxe with hxe
  simp only [Array.mk.injEq, List.cons.injEq] at hxe
  exact ⟨hxe.2.1, hxe.2.2.1⟩
 rw [← hxa.1] at n1
 rw [← hxa.2] at n2
 have H1 := ae n1
 have H2 := ae n2
 have hls := AL (m := x0.num.natAbs) hk x0.den
 have hs1 := hs.1
 have hl2 := sS hk
 have HL : Hid ((aU ak (x0.num.natAbs * 2 ^ k)).length ≤ 274877906944) := by show _ ≤ _; omega
 have HL2 : Hid ((aU ak (2 ^ k)).length ≤ 274877906944) := by show _ ≤ _; omega
 have HLM : Hid ((aU ak x0.num.natAbs).length ≤ 549755813888) := by show _ ≤ _; omega
 have HLQ : Hid ((aU ak (x0.num.natAbs * 2 ^ k / x0.den)).length ≤ 1099511627776) := by show _ ≤ _; omega
 have Ae : Hid ((aU ak (x0.num.natAbs * 2 ^ k / x0.den + 1)).length ≤ 274877906944) := by show _ ≤ _; omega
 have HL1 : Hid ((aU ak 1).length ≤ 549755813888) := by show _ ≤ _; rw [show (aU ak 1).length = 1 from by decide +kernel]; omega
 have HLO : Hid ((aU ak 1).length ≤ 1099511627776) := by show _ ≤ _; rw [show (aU ak 1).length = 1 from by decide +kernel]; omega
 have HK2 : Hid (k ≤ 549755813888) := by show _ ≤ _; omega
 have HQ := ae hQ
 obtain ⟨m, hmx⟩ : ∃ m, max z 0 = m := ⟨_, rfl⟩
 rw [hmx] at hz
 have hmn : min m 256 = (k : Int) := hz
 clear hz
 have HR := ae hr
 clear hr
 clear hxe hxa n1 n2 hls hs1 hs hl2 hQ
 go_enter Tryz.func24, Tryz.ntmps24
 go_wp2_with fail
 generalize hW0 : (w.alloc (.cells (R3.arr (⟨true, xa, xn, xc, xd, xm, xe⟩ : R3)) 40)).alloc (.cells _ _) = W at *
 obtain ⟨hal, hB1, hB2⟩ := Jm w _ _ _ W hW0.symm
 obtain ⟨x0', x1, x2, _, _, _⟩ := eu (x := (⟨true, xa, xn, xc, xd, xm, xe⟩ : R3)) hB1
 have HB1 := ae hB1
 have HB2 := ae hB2
 have pI := ae hal
 have HAD := ae hal.drew
 have N3 : Hid (w.heap.size ≤ W.heap.size) := hal.size
 clear hW0 hal hB1 hB2
 refine wp_region_held_drew (S := (fun w' => Below (w.heap.size) W w' ∧ w'.cell? ⟨w.heap.size, 1, none⟩ = some (.slice xa xn xc) ∧ w'.cell? ⟨w.heap.size, 2, none⟩ = some (.slice xd xm xe))) (by kernel_rfl) ⟨(Below.refl _ _).drew, x1, x2⟩ (fun hh => ?_)
 clear x0' x1 x2
 refine iI (i := 0) (v := ?vp0) rfl (Or.inl ⟨by rfl, ?wM⟩) (by assumption) ?NU
 case wM => intro w hSw; (try dsimp only at hSw); (go_simp <;> with_reducible rfl)
 try simp only [ag]
 refine iI (i := 1) (v := ?vp1) rfl (Or.inl ⟨by rfl, ?rQ⟩) (by assumption) ?Hl
 case rQ => intro w hSw; (try dsimp only at hSw); (go_simp <;> with_reducible rfl)
 try simp only [ag]
 refine iI (i := 2) (v := ?vp2) rfl (Or.inl ⟨by rfl, ?yX⟩) (by assumption) ?QP
 case yX => intro w hSw; (try dsimp only at hSw); (go_simp <;> with_reducible rfl)
 try simp only [ag]
 refine iI (i := 4) (v := ?vp4) rfl (Or.inl ⟨by rfl, ?wO⟩) (by assumption) ?NV
 case wO => intro w hSw; (try dsimp only at hSw); (go_simp <;> with_reducible rfl)
 try simp only [ag]
 refine iI (i := 5) (v := ?vp5) rfl (Or.inl ⟨by rfl, ?wP⟩) (by assumption) ?NW
 case wP => intro w hSw; (try dsimp only at hSw); (go_simp <;> with_reducible rfl)
 try simp only [ag]
 refine o8 (i := 3) rfl (fun K hK => ?_)
 go_simp
 go_wp2_with (go_at_call 52; (with_reducible refine (oW x0.num.natAbs k _ _ (H1.out.below HAD.out) HLM.out HK2.out).mono ?_); rintro e wA ⟨vA, rfl, hvA, ji⟩)
 refine hK.out _ _ (kd2 N3.out ji hh) (fun hh => ?_)
 clear hK K
 try simp only [ag]
 have BA := ae (bt HAD.out ji)
 refine o8 (i := 6) rfl (fun K hK => ?_)
 go_simp
 go_wp2_with (go_at_call 54; (with_reducible refine (lh x0.den _ _ (H2.out.below BA.out) x0.den_pos).mono ?_); rintro e wB ⟨vB, rfl, hvB, hbB⟩)
 refine hK.out _ _ (kd2 N3.out hbB hh) (fun hh => ?_)
 clear hK K
 try simp only [ag]
 have BB := ae (bt BA.out hbB)
 refine o8 (i := 7) rfl (fun K hK => ?_)
 go_simp
 go_wp2_with (go_at_call 53; (with_reducible refine (lX (x0.num.natAbs * 2 ^ k) x0.den _ _ _ (hvA.below hbB) hvB x0.den_pos HL.out).mono ?_); rintro e wC ⟨vQ, vR, rfl, ZW, hvR, hbC⟩; obtain ⟨ar, cr, rfl, _⟩ := aX.opened hvR; obtain ⟨aq, cq, rfl, _⟩ := aX.opened ZW)
 refine hK.out _ _ (kd2 N3.out hbC hh) (fun hh => ?_)
 clear hK K
 try simp only [ag]
 refine iI (i := 8) (v := ?vp8) rfl (Or.inl ⟨by rfl, ?JE⟩) (by assumption) ?ae'
 case JE => intro w hSw; (try dsimp only at hSw); (go_simp <;> with_reducible rfl)
 try simp only [ag]
 refine iI (i := 9) (v := ?vp9) rfl (Or.inl ⟨by rfl, ?AA⟩) (by assumption) ?Va
 case AA => intro w hSw; (try dsimp only at hSw); (go_simp <;> with_reducible rfl)
 try simp only [ag]
 refine iI (i := 10) (v := ?akB) rfl (Or.inl ⟨by rfl, ?EN⟩) (by assumption) ?aaS
 case EN => intro w hSw; (try dsimp only at hSw); (go_simp <;> with_reducible rfl)
 try simp only [ag]
 refine iI (i := 11) (v := ?aoy) rfl (Or.inl ⟨by rfl, ?MS⟩) (by assumption) ?agF
 case MS => intro w hSw; (try dsimp only at hSw); (go_simp <;> with_reducible rfl)
 try simp only [ag]
 refine iI (i := 12) (v := ?aoz) rfl (Or.inl ⟨by rfl, ?MV⟩) (by assumption) ?agG
 case MV => intro w hSw; (try dsimp only at hSw); (go_simp <;> with_reducible rfl)
 try simp only [ag]
 refine wpAnyH_done (by kernel_rfl) ?_ _
 have e1 : W.drew.heap[w.heap.size]? = _ := HB1.out
 have YT := ay e1 ji (ai e1)
 have YU := ay YT hbB (ai YT)
 have D1 := ae (ay YU hbC (ai YU))
 have e2 : W.drew.heap[w.heap.size + 1]? = _ := HB2.out
 have YV := ay e2 ji (ai e2)
 have YW := ay YV hbB (ai YV)
 have D2 := ae (ay YW hbC (ai YW))
 have HB := ae (bt BB.out hbC)
 obtain ⟨x0', x1, x2, _, _, _⟩ := eu (x := (⟨true, xa, xn, xc, xd, xm, xe⟩ : R3)) D1.out
 have HVQ := ae ZW
 clear e1 YT YU e2 YV YW hh hvA hvB ZW hvR ji hbB hbC BA BB HAD N3
 have hlr : decide (((aU ak (x0.num.natAbs * 2 ^ k % x0.den)).length : Int) > 0) = true := decide_eq_true (by have := HR.out; omega)
 have aqv : decide (0 < (aU ak (x0.num.natAbs * 2 ^ k % x0.den)).length) = true := decide_eq_true HR.out
 go_wp2_with fail
 refine (yx _).mono ?_
 rintro e wD ⟨vD, rfl, EM, hbD⟩
 go_wp2_with fail
 refine (NL (x0.num.natAbs * 2 ^ k / x0.den) 1 _ _ _ (HVQ.out.below hbD) EM HLQ.out HLO.out).mono ?_
 rintro e wE ⟨vE, rfl, hvE, Aw⟩
 have D1' := ae (ay (ay D1.out hbD (ai D1.out)) Aw (by have := ai (ay D1.out hbD (ai D1.out)); exact this))
 have D2' := ae (ay (ay D2.out hbD (ai D2.out)) Aw (by have := ai (ay D2.out hbD (ai D2.out)); exact this))
 have HB' := ae (bt (bt HB.out hbD) Aw)
 have HVE := ae hvE
 clear x0' x1 x2 hlr aqv D1 D2 HB EM hvE hbD Aw
 go_wp2_with fail
 generalize wE = W at *
 have hVQ := HVE.out
 have D1 := ae D1'.out
 have D2 := ae D2'.out
 have HB := ae HB'.out
 obtain ⟨x0, x1, x2, _, _, _⟩ := eu (x := (⟨true, xa, xn, xc, xd, xm, xe⟩ : R3)) D1.out
 have N3 : Hid (w.heap.size + 1 ≤ W.heap.size) := by
  show _ ≤ _
  have := ai D2.out
  omega
 have N0 : Hid (w.heap.size < w.heap.size + 1) := by show _ < _; omega
 have HAD := ae (HB.out.drew)
 refine wp_region_held_drew (S := (fun w' => Below (w.heap.size + 1) W w' ∧ w'.cell? ⟨w.heap.size, 0, none⟩ = some (.bool true))) (by kernel_rfl) ⟨(Below.refl _ _).drew, x0⟩ (fun hh => ?_)
 clear x0 x1 x2
 refine iI (i := 0) (v := ?aoA) rfl (Or.inl ⟨by rfl, ?MW⟩) (by assumption) ?agH
 case MW => intro w hSw; (try dsimp only at hSw); (go_simp <;> with_reducible rfl)
 try simp only [ag]
 refine iI (i := 1) (v := ?aoB) rfl (Or.inl ⟨by rfl, ?MX⟩) (by assumption) ?agI
 case MX => intro w hSw; (try dsimp only at hSw); (go_simp <;> with_reducible rfl)
 try simp only [ag]
 refine iI (i := 2) (v := ?aoC) rfl (Or.inl ⟨by rfl, ?MZ⟩) (by assumption) ?agJ
 case MZ => intro w hSw; (try dsimp only at hSw); (go_simp <;> with_reducible rfl)
 try simp only [ag]
 refine iI (i := 4) (v := ?aoD) rfl (Or.inl ⟨by rfl, ?M_⟩) (by assumption) ?agK
 case M_ => intro w hSw; (try dsimp only at hSw); (go_simp <;> with_reducible rfl)
 try simp only [ag]
 refine o8 (i := 3) rfl (fun K hK => ?_)
 go_simp
 go_wp2_with (go_at_call 51; (with_reducible refine (yx _).mono ?_); rintro e wF ⟨vF, rfl, UU, Ag⟩)
 refine hK.out _ _ (kd1 N3.out Ag hh) (fun hh => ?_)
 clear hK K
 try simp only [ag]
 have BF := ae (bt HAD.out Ag)
 refine o8 (i := 5) rfl (fun K hK => ?_)
 go_simp
 go_wp2_with (go_at_call 52; (with_reducible refine (oW 1 k _ _ UU HL1.out HK2.out).mono ?_); rintro e wG ⟨vG, rfl, ZV, Jv⟩)
 refine hK.out _ _ (kd1 N3.out Jv hh) (fun hh => ?_)
 clear hK K
 try simp only [ag]
 have BG := ae (bt BF.out Jv)
 rw [Nat.one_mul] at ZV
 refine o8 (i := 6) rfl (fun K hK => ?_)
 go_simp
 go_wp2_with (go_at_call 27; (with_reducible refine (jR true (x0.num.natAbs * 2 ^ k / x0.den + 1) (2 ^ k) _ _ _ (hVQ.below (bt (Below.refl _ _).drew (bt Ag Jv))) ZV (Nat.two_pow_pos k) Ae.out HL2.out).mono ?_); rintro e wI ⟨vI, rfl, UW, PN⟩)
 refine hK.out _ _ (kd1 N3.out PN hh) (fun hh => ?_)
 clear hK K
 try simp only [ag]
 rw [HQ.out] at UW
 obtain ⟨z, rfl⟩ := UW.bn
 have e0 : W.drew.heap[w.heap.size + 1]? = _ := D2.out
 have eF := ay e0 Ag (ai e0)
 have eG := ay eF Jv (ai eF)
 have eI := ay eG PN (ai eG)
 have E : Hid (wI.heap[w.heap.size + 1]? = some (.cells dQ.arr 40 (0, 0))) := eI
 have HV := ae UW
 have BZ := ae (bt BG.out PN)
 obtain ⟨g0, g1, g2, f0, f1, f2⟩ := eu (x := dQ) E.out
 refine o8 (i := 7) rfl (fun K hK => ?_)
 go_simp
 refine hK.out _ _ (ks1 (Nat.le_refl _) N0.out (kG (Below.refl _ _) (Nat.le_refl _)) hh) (fun hh => ?_)
 clear hK K
 try simp only [ag]
 refine wpAnyH_done (by kernel_rfl) ?_ _
 obtain ⟨h0, h1, h2, _, _, _⟩ := eu (x := z) (mO (x := z) E.out)
 go_wp2_with fail
 refine bodyPost_ret (v := z.val) (by simp [results, Tryz.results24, go_sem, h0, h1, h2]) rfl ⟨_, rfl, aA.mO HV.out E.out, kG BZ.out (by omega)⟩
theorem AZ (q : Rat) (v : Value) (w : World) (h : aA w v q) : Calls Tryz.prog 60 #[v] w (yN (jG (decide (q.num < 0)) q.num.natAbs) w) := by
 obtain ⟨a1, c1, a2, c2, rfl, _, _⟩ := h.opened
 exact zX _ _ _ _ _ _ _ _
theorem acb (q : Rat) : decide (jG (decide (q.num < 0)) q.num.natAbs < 0) = decide (q.num < 0) := by
 unfold jG
 by_cases h : q.num < 0
 · simp [h]
 ·
  by_cases h0 : q.num.natAbs = 0
  · simp [h, h0]
  · simp [h, h0]
theorem uZ.bn {w : World} {v : Value} {q : Rat} (h : uZ w v q) : ∃ x : R3, v = x.val := by
 obtain ⟨d', a1, c1, a2, c2, rfl, _⟩ := h.opened
 exact ⟨⟨_, _, _, _, _, _, _⟩, rfl⟩
theorem aA.Pz {w w' : World} {v : Value} {q : Rat} {row : Option Nat} (h : aA w v q) (hg : w.grownBy w' row) (hr : ∀ g, row = some g → mZ w g) : aA w' v q := by
 obtain ⟨vn, vd, rfl, h1, h2⟩ := h
 exact ⟨vn, vd, rfl, aX.grown (.inl rfl) h1 hg hr, aX.grown (.inl rfl) h2 hg hr⟩
theorem uZ.Pz {w w' : World} {v : Value} {q : Rat} {row : Option Nat} (h : uZ w v q) (hg : w.grownBy w' row) (hr : ∀ g, row = some g → mZ w g) : uZ w' v q := by
 obtain ⟨vn, vd, d', rfl, h1, h2, h3⟩ := h
 exact ⟨vn, vd, d', rfl, aX.grown (.inr rfl) h1 hg hr, aX.grown (.inr rfl) h2 hg hr, h3⟩
def tV (R : World → Value → Rat → Prop) (w : World) (xs : List Value) (es : List Rat) : Prop :=
 xs.length = es.length * 3 ∧ ∀ j, j < es.length → ∃ v0 vn vd, xs[j * 3]? = some v0 ∧ xs[j * 3 + 1]? = some vn ∧ xs[j * 3 + 2]? = some vd ∧ R w (.agg #[v0, vn, vd]) (es.getD j 0)
theorem tV.mono {R : World → Value → Rat → Prop} {w w' : World} {xs : List Value} {es : List Rat} (h : tV R w xs es) (hr : ∀ v q, R w v q → R w' v q) : tV R w' xs es :=
 ⟨h.1, fun j hj => by obtain ⟨v0, vn, vd, h0, h1, h2, h4⟩ := h.2 j hj; exact ⟨v0, vn, vd, h0, h1, h2, hr _ _ h4⟩⟩
theorem tV.nil (R : World → Value → Rat → Prop) (w : World) : tV R w [] [] := ⟨rfl, fun j hj => absurd hj (by simp)⟩
theorem tV.snoc {R : World → Value → Rat → Prop} {w : World} {xs : List Value} {es : List Rat} (h : tV R w xs es) {v0 vn vd : Value} {q : Rat} (hq : R w (.agg #[v0, vn, vd]) q) :
  tV R w (xs ++ [v0, vn, vd]) (es ++ [q]) := by
 obtain ⟨hl, h⟩ := h
 refine ⟨by simp [hl]; omega, fun j hj => ?_⟩
 rcases Nat.lt_or_ge j es.length with h1 | h1
 ·
  obtain ⟨u0, un, ud, h0, h2, h3, h5⟩ := h j h1
  have e : ∀ k, k < 3 → (xs ++ [v0, vn, vd])[j * 3 + k]? = xs[j * 3 + k]? := fun k hk => List.getElem?_append_left (by omega)
  have e2 : (es ++ [q]).getD j 0 = es.getD j 0 := by simp [List.getD, List.getElem?_append_left h1]
  rw [e2]
  exact ⟨u0, un, ud, by rw [← h0]; exact e 0 (by omega), by rw [← h2]; exact e 1 (by omega), by rw [← h3]; exact e 2 (by omega), h5⟩
 ·
  obtain rfl : j = es.length := by simp at hj; omega
  have e : ∀ k, (xs ++ [v0, vn, vd])[es.length * 3 + k]? = ([v0, vn, vd] : List Value)[k]? := fun k => by rw [List.getElem?_append_right (by omega), hl]; congr 1; omega
  have e2 : (es ++ [q]).getD es.length 0 = q := by simp [List.getD]
  rw [e2]
  exact ⟨v0, vn, vd, e 0, e 1, e 2, hq⟩
theorem nS.ofRow {R : World → Value → Rat → Prop} {w : World} {base : Nat} {e : TypeId} {v : Value} {xs : List Value} {es : List Rat} (h : dL w base e 3 v es.length xs) (ht : tV R w xs es) : nS R w v es := by
 rcases Nat.eq_zero_or_pos es.length with h0 | hp
 ·
  rcases h.1.2 with ⟨rfl, _⟩ | ⟨g, cap, cur, rfl, _⟩
  · exact ⟨none, 0, by rw [h0], fun h => absurd h (by omega)⟩
  · exact ⟨_, _, rfl, fun h => absurd h (by omega)⟩
 ·
  obtain ⟨g, cap, rfl⟩ := ownsRow_some h.1 hp
  have hc : ∀ j u, xs[j]? = some u → w.cell? ((⟨g, 0, none⟩ : Addr).add j) = some u := h.1.cells (g := g) rfl
  have hlt : g < w.heap.size := (h.lt rfl).1
  refine ⟨_, _, rfl, fun _ => ⟨g, 0, rfl, hlt, fun i hi => ?_⟩⟩
  obtain ⟨v0, vn, vd, h0, h1, h2, h4⟩ := ht.2 i hi
  have ea : ∀ j, (⟨g, 0, none⟩ : Addr).add j = ⟨g, 0 + j, none⟩ := fun j => by unfold Addr.add; split <;> simp_all
  refine ⟨v0, vn, vd, ?_, ?_, ?_, h4⟩
  · rw [← ea]; exact hc _ _ h0
  · rw [show 0 + i * 3 + 1 = 0 + (i * 3 + 1) by omega, ← ea]; exact hc _ _ h1
  · rw [show 0 + i * 3 + 2 = 0 + (i * 3 + 2) by omega, ← ea]; exact hc _ _ h2
theorem xg {w : World} {base : Nat} {e : TypeId} {size : Nat} {v : Value} {n : Nat} {xs : List Value} (h : w.ownsRow base e size v n xs) : ∀ k, v.ownBlock = some k → base ≤ k := by
 intro k hk
 rcases h.2 with ⟨rfl, _⟩ | ⟨g, cap, cur, rfl, hb, _⟩
 · simp [Value.ownBlock] at hk
 ·
  simp [Value.ownBlock] at hk
  omega
theorem uZ.uI {w : World} {v : Value} {q : Rat} {B T : Nat} {cs : Array Value} (h : uZ w v q) (hB : w.heap[B]? = some (.cells cs T (0, 0))) (hn : Iw cs) (j : Nat) (u : Value) : uZ (w.setCell ⟨B, j, none⟩ u) v q := by
 obtain ⟨vn, vd, d', rfl, h1, h2, h3⟩ := h
 exact ⟨vn, vd, d', rfl, aX.oh h1 hB hn j u, aX.oh h2 hB hn j u, h3⟩
theorem uZ.mO {w : World} {v : Value} {r : Rat} {B T : Nat} {p x : R3} (i : uZ w v r) (h : w.heap[B]? = some (.cells #[.bool p.b, .slice p.a p.n p.c, .slice p.d p.m p.e] T (0, 0))) : uZ ((((w.setCell ⟨B, 0, none⟩ (.bool x.b)).setCell ⟨B, 1, none⟩ (.slice x.a x.n x.c)).setCell ⟨B, 2, none⟩ (.slice x.d x.m x.e))) v r := by
 have h0 : (w.setCell ⟨B, 0, none⟩ (.bool x.b)).heap[B]? = some (.cells #[.bool x.b, .slice p.a p.n p.c, .slice p.d p.m p.e] T (0, 0)) := bM h 0 _
 have h1 : ((w.setCell ⟨B, 0, none⟩ (.bool x.b)).setCell ⟨B, 1, none⟩ (.slice x.a x.n x.c)).heap[B]? = some (.cells #[.bool x.b, .slice x.a x.n x.c, .slice p.d p.m p.e] T (0, 0)) := bM h0 1 _
 have h2 : (((w.setCell ⟨B, 0, none⟩ (.bool x.b)).setCell ⟨B, 1, none⟩ (.slice x.a x.n x.c)).setCell ⟨B, 2, none⟩ (.slice x.d x.m x.e)).heap[B]? = some (.cells #[.bool x.b, .slice x.a x.n x.c, .slice x.d x.m x.e] T (0, 0)) := bM h1 2 _
 have i0 := i.uI h (by exact ni3 _ _ _ _ _ _ _) 0 (.bool x.b)
 have i1 := i0.uI h0 (by exact ni3 _ _ _ _ _ _ _) 1 (.slice x.a x.n x.c)
 have i2 := i1.uI h1 (by exact ni3 _ _ _ _ _ _ _) 2 (.slice x.d x.m x.e)
 exact i2
theorem uZ.kU {w : World} {v : Value} {r : Rat} {B T : Nat} {p q x y : R3} (i : uZ w v r) (h : w.heap[B]? = some (.cells #[.bool p.b, .slice p.a p.n p.c, .slice p.d p.m p.e, .bool q.b, .slice q.a q.n q.c, .slice q.d q.m q.e] T (0, 0))) : uZ (((((((w.setCell ⟨B, 0, none⟩ (.bool x.b)).setCell ⟨B, 1, none⟩ (.slice x.a x.n x.c)).setCell ⟨B, 2, none⟩ (.slice x.d x.m x.e)).setCell ⟨B, 3, none⟩ (.bool y.b)).setCell ⟨B, 4, none⟩ (.slice y.a y.n y.c)).setCell ⟨B, 5, none⟩ (.slice y.d y.m y.e))) v r := by
 have h0 : (w.setCell ⟨B, 0, none⟩ (.bool x.b)).heap[B]? = some (.cells #[.bool x.b, .slice p.a p.n p.c, .slice p.d p.m p.e, .bool q.b, .slice q.a q.n q.c, .slice q.d q.m q.e] T (0, 0)) := bM h 0 _
 have h1 : ((w.setCell ⟨B, 0, none⟩ (.bool x.b)).setCell ⟨B, 1, none⟩ (.slice x.a x.n x.c)).heap[B]? = some (.cells #[.bool x.b, .slice x.a x.n x.c, .slice p.d p.m p.e, .bool q.b, .slice q.a q.n q.c, .slice q.d q.m q.e] T (0, 0)) := bM h0 1 _
 have h2 : (((w.setCell ⟨B, 0, none⟩ (.bool x.b)).setCell ⟨B, 1, none⟩ (.slice x.a x.n x.c)).setCell ⟨B, 2, none⟩ (.slice x.d x.m x.e)).heap[B]? = some (.cells #[.bool x.b, .slice x.a x.n x.c, .slice x.d x.m x.e, .bool q.b, .slice q.a q.n q.c, .slice q.d q.m q.e] T (0, 0)) := bM h1 2 _
 have h3 : ((((w.setCell ⟨B, 0, none⟩ (.bool x.b)).setCell ⟨B, 1, none⟩ (.slice x.a x.n x.c)).setCell ⟨B, 2, none⟩ (.slice x.d x.m x.e)).setCell ⟨B, 3, none⟩ (.bool y.b)).heap[B]? = some (.cells #[.bool x.b, .slice x.a x.n x.c, .slice x.d x.m x.e, .bool y.b, .slice q.a q.n q.c, .slice q.d q.m q.e] T (0, 0)) := bM h2 3 _
 have h4 : (((((w.setCell ⟨B, 0, none⟩ (.bool x.b)).setCell ⟨B, 1, none⟩ (.slice x.a x.n x.c)).setCell ⟨B, 2, none⟩ (.slice x.d x.m x.e)).setCell ⟨B, 3, none⟩ (.bool y.b)).setCell ⟨B, 4, none⟩ (.slice y.a y.n y.c)).heap[B]? = some (.cells #[.bool x.b, .slice x.a x.n x.c, .slice x.d x.m x.e, .bool y.b, .slice y.a y.n y.c, .slice q.d q.m q.e] T (0, 0)) := bM h3 4 _
 have h5 : ((((((w.setCell ⟨B, 0, none⟩ (.bool x.b)).setCell ⟨B, 1, none⟩ (.slice x.a x.n x.c)).setCell ⟨B, 2, none⟩ (.slice x.d x.m x.e)).setCell ⟨B, 3, none⟩ (.bool y.b)).setCell ⟨B, 4, none⟩ (.slice y.a y.n y.c)).setCell ⟨B, 5, none⟩ (.slice y.d y.m y.e)).heap[B]? = some (.cells #[.bool x.b, .slice x.a x.n x.c, .slice x.d x.m x.e, .bool y.b, .slice y.a y.n y.c, .slice y.d y.m y.e] T (0, 0)) := bM h4 5 _
 have i0 := i.uI h (by exact VJ _ _ _ _ _ _ _ _ _ _ _ _ _ _) 0 (.bool x.b)
 have i1 := i0.uI h0 (by exact VJ _ _ _ _ _ _ _ _ _ _ _ _ _ _) 1 (.slice x.a x.n x.c)
 have i2 := i1.uI h1 (by exact VJ _ _ _ _ _ _ _ _ _ _ _ _ _ _) 2 (.slice x.d x.m x.e)
 have i3 := i2.uI h2 (by exact VJ _ _ _ _ _ _ _ _ _ _ _ _ _ _) 3 (.bool y.b)
 have i4 := i3.uI h3 (by exact VJ _ _ _ _ _ _ _ _ _ _ _ _ _ _) 4 (.slice y.a y.n y.c)
 have i5 := i4.uI h4 (by exact VJ _ _ _ _ _ _ _ _ _ _ _ _ _ _) 5 (.slice y.d y.m y.e)
 exact i5
def OG (w : World) (v : Value) (lo hi : Rat) : Prop := ∃ x y : R3, v = zg x y ∧ uZ w x.val lo ∧ uZ w y.val hi
theorem OG.below {w w' : World} {v : Value} {lo hi : Rat} (h : OG w v lo hi) (hb : Below w.heap.size w w') : OG w' v lo hi := by
 obtain ⟨x, y, rfl, h1, h2⟩ := h
 exact ⟨x, y, rfl, h1.below hb, h2.below hb⟩
theorem gB {w : World} {x y : R3} {lo hi : Rat} (h1 : aA w x.val lo) (h2 : aA w y.val hi) : cZ w (zg x y) lo hi := ⟨x, y, rfl, h1, h2⟩
def rW (a b : Rat) : Rat := if dN a b ≤ 0 then a else b
def qU (a b : Rat) : Rat := if dN a b ≥ 0 then a else b
def hasB (lo hi y : Rat) : Bool := decide (dN lo y ≤ 0) && decide (dN y hi ≤ 0)
theorem apo (w : World) (c0 : Array Value) (t0 : Nat) (W : World) (hW : W = w.alloc (.cells c0 t0)) :
  Below w.heap.size w W ∧ W.heap[w.heap.size]? = some (.cells c0 t0 (0, 0)) ∧ W.heap.size = w.heap.size + 1 := by
 subst hW
 have e1 : (w.alloc (.cells c0 t0)).heap.size = w.heap.size + 1 := by rw [World.size_alloc]
 have a0 := aV w c0 t0
 exact ⟨((Below.refl _ _).alloc (Nat.le_refl _) _), a0, by rw [e1]⟩
theorem alW (w : World) (c0 : Array Value) (t0 : Nat) (c1 : Array Value) (t1 : Nat) (W : World) (hW : W = (w.alloc (.cells c0 t0)).alloc (.cells c1 t1)) :
  Below w.heap.size w W ∧ W.heap[w.heap.size]? = some (.cells c0 t0 (0, 0)) ∧ W.heap[w.heap.size + 1]? = some (.cells c1 t1 (0, 0)) ∧ W.heap.size = w.heap.size + 2 := by
 subst hW
 have e1 : (w.alloc (.cells c0 t0)).heap.size = w.heap.size + 1 := by rw [World.size_alloc]
 have e2 : ((w.alloc (.cells c0 t0)).alloc (.cells c1 t1)).heap.size = w.heap.size + 1 + 1 := by rw [World.size_alloc]; rw [e1]
 have a0 := aV w c0 t0
 have a1 := aV (w.alloc (.cells c0 t0)) c1 t1
 rw [e1] at a1
 have adN := (heap_alloc_old _ (.cells c1 t1) (ai a0)).trans a0
 exact ⟨(((Below.refl _ _).alloc (Nat.le_refl _) _).alloc (by rw [e1]; omega) _), adN, a1, by rw [e2]⟩
theorem apq (w : World) (c0 : Array Value) (t0 : Nat) (c1 : Array Value) (t1 : Nat) (c2 : Array Value) (t2 : Nat) (c3 : Array Value) (t3 : Nat) (W : World) (hW : W = (((w.alloc (.cells c0 t0)).alloc (.cells c1 t1)).alloc (.cells c2 t2)).alloc (.cells c3 t3)) :
  Below w.heap.size w W ∧ W.heap[w.heap.size]? = some (.cells c0 t0 (0, 0)) ∧ W.heap[w.heap.size + 1]? = some (.cells c1 t1 (0, 0)) ∧ W.heap[w.heap.size + 1 + 1]? = some (.cells c2 t2 (0, 0)) ∧ W.heap[w.heap.size + 1 + 1 + 1]? = some (.cells c3 t3 (0, 0)) ∧ W.heap.size = w.heap.size + 4 := by
 subst hW
 have e1 : (w.alloc (.cells c0 t0)).heap.size = w.heap.size + 1 := by rw [World.size_alloc]
 have e2 : ((w.alloc (.cells c0 t0)).alloc (.cells c1 t1)).heap.size = w.heap.size + 1 + 1 := by rw [World.size_alloc]; rw [e1]
 have e3 : (((w.alloc (.cells c0 t0)).alloc (.cells c1 t1)).alloc (.cells c2 t2)).heap.size = w.heap.size + 1 + 1 + 1 := by rw [World.size_alloc]; rw [e2]
 have e4 : ((((w.alloc (.cells c0 t0)).alloc (.cells c1 t1)).alloc (.cells c2 t2)).alloc (.cells c3 t3)).heap.size = w.heap.size + 1 + 1 + 1 + 1 := by rw [World.size_alloc]; rw [e3]
 have a0 := aV w c0 t0
 have a1 := aV (w.alloc (.cells c0 t0)) c1 t1
 rw [e1] at a1
 have a2 := aV ((w.alloc (.cells c0 t0)).alloc (.cells c1 t1)) c2 t2
 rw [e2] at a2
 have a3 := aV (((w.alloc (.cells c0 t0)).alloc (.cells c1 t1)).alloc (.cells c2 t2)) c3 t3
 rw [e3] at a3
 have adN := (heap_alloc_old _ (.cells c1 t1) (ai a0)).trans a0
 have aly := (heap_alloc_old _ (.cells c2 t2) (ai adN)).trans adN
 have ao7 := (heap_alloc_old _ (.cells c3 t3) (ai aly)).trans aly
 have alL := (heap_alloc_old _ (.cells c2 t2) (ai a1)).trans a1
 have ao9 := (heap_alloc_old _ (.cells c3 t3) (ai alL)).trans alL
 have apb := (heap_alloc_old _ (.cells c3 t3) (ai a2)).trans a2
 exact ⟨(((((Below.refl _ _).alloc (Nat.le_refl _) _).alloc (by rw [e1]; omega) _).alloc (by rw [e2]; omega) _).alloc (by rw [e3]; omega) _), ao7, ao9, apb, a3, by rw [e4]⟩
abbrev Bx := Nat × Array Value × Nat
def ni : Value → Bool
 | .int .u64 _ => false
 | .int .u32 _ => false
 | _ => true
def Fr (p : Bool) (w : World) (v : Value) (q : Rat) : Prop := if p then aA w v q else uZ w v q
abbrev Fx := Bool × Value × Rat
structure Sx (w0 w : World) (bs : List Bx) (fs : List Fx) : Prop where
 bel : Below w0.heap.size w0 w
 box : ∀ (i : Nat) (b : Bx), bs[i]? = some b → w.heap[b.1]? = some (.cells b.2.1 b.2.2 (0, 0)) ∧ w0.heap.size ≤ b.1 ∧ b.2.1.toList.all ni = true
 Qm : (bs.map (·.1)).Nodup
 B_ : ∀ (i : Nat) (f : Fx), fs[i]? = some f → Fr f.1 w f.2.1 f.2.2
theorem aX.yc {k : IntKind} {w : World} {v : Value} {ds : List Nat} {B T : Nat} {cs : Array Value} (hk : k = .u64 ∨ k = .u32) (h : aX k w v ds) (hB : w.heap[B]? = some (.cells cs T (0, 0))) (hn : cs.toList.all ni = true) (j : Nat) (u : Value) :
  aX k (w.setCell ⟨B, j, none⟩ u) v ds := by
 rcases h with h | ⟨h0, b, off, cap, rfl, h1, h2, h3, h4⟩
 · exact .inl h
 ·
  have hne : b ≠ B := by
   rintro rfl
   have := h4 0 h0
   rw [cell_of_row w b (off + 0) cs T (0, 0) hB] at this
   have hm := List.all_eq_true.1 hn _ (Array.mem_toList_iff.2 (Array.mem_of_getElem? this))
   rcases hk with rfl | rfl <;> exact absurd hm (by simp [ni])
  refine .inr ⟨h0, b, off, cap, rfl, h1, h2, by simpa [World.setCell] using h3, fun i hi => ?_⟩
  rw [← h4 i hi]
  exact World.cell?_of_block (w := w) (heap_setCell_other w ⟨B, j, none⟩ b u hne)
theorem Fr.set {p : Bool} {w : World} {v : Value} {q : Rat} {B T : Nat} {cs : Array Value} (h : Fr p w v q) (hB : w.heap[B]? = some (.cells cs T (0, 0))) (hn : cs.toList.all ni = true) (j : Nat) (u : Value) : Fr p (w.setCell ⟨B, j, none⟩ u) v q := by
 cases p with
 | true =>
  obtain ⟨vn, vd, rfl, h1, h2⟩ := (h : aA w v q)
  exact (⟨vn, vd, rfl, aX.yc (.inl rfl) h1 hB hn j u, aX.yc (.inl rfl) h2 hB hn j u⟩ : aA _ _ _)
 | false =>
  obtain ⟨vn, vd, d', rfl, h1, h2, h3⟩ := (h : uZ w v q)
  exact (⟨vn, vd, d', rfl, aX.yc (.inr rfl) h1 hB hn j u, aX.yc (.inr rfl) h2 hB hn j u, h3⟩ : uZ _ _ _)
theorem Fr.below {p : Bool} {w w' : World} {v : Value} {q : Rat} (h : Fr p w v q) (hb : Below w.heap.size w w') : Fr p w' v q := by
 cases p with
 | true => exact aA.below (h : aA w v q) hb
 | false => exact uZ.below (h : uZ w v q) hb
theorem Sx.init (w : World) : Sx w w [] [] := ⟨Below.refl _ _, fun i b h => by simp at h, by simp, fun i f h => by simp at h⟩
theorem Sx.p {w0 w : World} {bs : List Bx} {fs : List Fx} (h : Sx w0 w bs fs) (i : Nat) (v : Value) (q : Rat) (hi : fs[i]? = some (true, v, q)) : aA w v q := h.B_ i _ hi
theorem Sx.q {w0 w : World} {bs : List Bx} {fs : List Fx} (h : Sx w0 w bs fs) (i : Nat) (v : Value) (q : Rat) (hi : fs[i]? = some (false, v, q)) : uZ w v q := h.B_ i _ hi
theorem Sx.at {w0 w : World} {bs : List Bx} {fs : List Fx} (h : Sx w0 w bs fs) (i : Nat) (B T : Nat) (cs : Array Value) (hi : bs[i]? = some (B, cs, T)) : w.heap[B]? = some (.cells cs T (0, 0)) := (h.box i _ hi).1
theorem Sx.az {w0 w : World} {bs : List Bx} {fs : List Fx} (h : Sx w0 w bs fs) {v : Value} {q : Rat} (hv : aA w v q) : Sx w0 w bs ((true, v, q) :: fs) :=
 ⟨h.bel, h.box, h.Qm, fun i f hf => by
  match i, hf with
  | 0, hf => simp at hf; subst hf; exact hv
  | i + 1, hf => exact h.B_ i f (by simpa using hf)⟩
theorem Sx.below {w0 w w' : World} {bs : List Bx} {fs : List Fx} (h : Sx w0 w bs fs) (hb : Below w.heap.size w w') : Sx w0 w' bs fs :=
 ⟨ax h.bel hb, fun i b hi => by obtain ⟨h1, h2⟩ := h.box i b hi; exact ⟨ay h1 hb (ai h1), h2⟩, h.Qm, fun i f hf => (h.B_ i f hf).below hb⟩
theorem Sx.drew {w0 w : World} {bs : List Bx} {fs : List Fx} (h : Sx w0 w bs fs) : Sx w0 w.drew bs fs := h.below (Below.refl _ _).drew
theorem Sx.alloc {w0 w : World} {bs : List Bx} {fs : List Fx} (h : Sx w0 w bs fs) {B T : Nat} {cs : Array Value} (hB : w.heap.size = B) (hp : cs.toList.all ni = true) : Sx w0 (w.alloc (.cells cs T)) ((B, cs, T) :: bs) fs := by
 subst hB
 have hb := (Below.refl w.heap.size w).alloc (Nat.le_refl _) (.cells cs T)
 have h' := h.below hb
 refine ⟨h'.bel, fun i b hi => ?_, ?_, h'.B_⟩
 ·
  match i, hi with
  | 0, hi =>
   simp at hi
   subst hi
   exact ⟨aV w cs T, h.bel.size, hp⟩
  | i + 1, hi => exact h'.box i b (by simpa using hi)
 ·
  rw [List.map_cons, List.nodup_cons]
  refine ⟨fun hm => ?_, h.Qm⟩
  obtain ⟨b, hb1, hb2⟩ := List.mem_map.1 hm
  obtain ⟨i, hi⟩ := List.mem_iff_getElem?.1 hb1
  have := ai (h.box i b hi).1
  omega
theorem Sx.set {w0 w : World} {bs : List Bx} {fs : List Fx} (h : Sx w0 w bs fs) (i : Nat) {B T : Nat} {cs : Array Value} (hi : bs[i]? = some (B, cs, T)) (j : Nat) {v : Value} (hv : ni v = true) : Sx w0 (w.setCell ⟨B, j, none⟩ v) (bs.set i (B, cs.setIfInBounds j v, T)) fs := by
 obtain ⟨h1, h2, h3⟩ := h.box i _ hi
 refine ⟨h.bel.setCell (p := ⟨B, j, none⟩) h2 v, fun k b hk => ?_, ?_, fun k f hf => (h.B_ k f hf).set h1 h3 j v⟩
 ·
  rw [List.getElem?_set] at hk
  by_cases hik : i = k
  ·
   subst hik
   rw [if_pos rfl] at hk
   split at hk
   ·
    injection hk with hk
    subst hk
    refine ⟨bM h1 j v, h2, ?_⟩
    rw [List.all_eq_true] at h3 ⊢
    intro u hu
    rw [Array.toList_setIfInBounds] at hu
    rcases List.mem_or_eq_of_mem_set hu with hu | hu
    · exact h3 u hu
    · rw [hu]; exact hv
   · exact absurd hk (by simp)
  ·
   rw [if_neg hik] at hk
   obtain ⟨g1, g2⟩ := h.box k b hk
   have hne : b.1 ≠ B := by
    intro he
    have e1 : (bs.map (·.1))[i]? = some B := by rw [List.getElem?_map, hi]; rfl
    have e2 : (bs.map (·.1))[k]? = some B := by rw [List.getElem?_map, hk]; simp [he]
    obtain ⟨l1, _⟩ := List.getElem?_eq_some_iff.1 e1
    exact hik ((List.getElem?_inj l1 h.Qm).1 (e1.trans e2.symm))
   exact ⟨(heap_setCell_other w ⟨B, j, none⟩ b.1 v hne).trans g1, g2⟩
 ·
  have e : (bs.set i (B, cs.setIfInBounds j v, T)).map (·.1) = bs.map (·.1) := by
   rw [List.map_set]
   apply List.ext_getElem?
   intro k
   rw [List.getElem?_set]
   by_cases hik : i = k
   ·
    subst hik
    have e1 : (bs.map (·.1))[i]? = some B := by rw [List.getElem?_map, hi]; rfl
    obtain ⟨l1, _⟩ := List.getElem?_eq_some_iff.1 e1
    rw [if_pos rfl, if_pos l1, e1]
   · rw [if_neg hik]
  rw [e]
  exact h.Qm
theorem Sx.erase {w0 w : World} {bs : List Bx} {fs : List Fx} (h : Sx w0 w bs fs) (i : Nat) : Sx w0 w (bs.eraseIdx i) [] := by
 refine ⟨h.bel, fun k b hk => ?_, ?_, fun k f hf => by simp at hf⟩
 ·
  rw [List.getElem?_eraseIdx] at hk
  split at hk
  · exact h.box _ _ hk
  · exact h.box _ _ hk
 · exact h.Qm.sublist ((List.eraseIdx_sublist _ _).map _)
theorem Sx.bare {w0 w : World} {bs : List Bx} {fs : List Fx} (h : Sx w0 w bs fs) : Sx w0 w bs [] := ⟨h.bel, h.box, h.Qm, fun k f hf => by simp at hf⟩
theorem Sx.oz {w0 w : World} {bs : List Bx} {fs : List Fx} (h : Sx w0 w bs fs) (i : Nat) (o0 : R3) (n0 : R3) {B T : Nat} (hi : bs[i]? = some (B, #[.bool o0.b, .slice o0.a o0.n o0.c, .slice o0.d o0.m o0.e], T)) :
  Sx w0 ((((w).setCell ⟨B, 0, none⟩ (.bool n0.b)).setCell ⟨B, 1, none⟩ (.slice n0.a n0.n n0.c)).setCell ⟨B, 2, none⟩ (.slice n0.d n0.m n0.e)) (bs.set i (B, #[.bool n0.b, .slice n0.a n0.n n0.c, .slice n0.d n0.m n0.e], T)) fs := by
 have hl := (List.getElem?_eq_some_iff.1 hi).1
 have g := (((h).set i hi 0 (v := .bool n0.b) rfl).set i (by rw [List.getElem?_set, if_pos rfl, if_pos (by simpa using hl)]) 1 (v := .slice n0.a n0.n n0.c) rfl).set i (by rw [List.getElem?_set, if_pos rfl, if_pos (by simpa using hl)]) 2 (v := .slice n0.d n0.m n0.e) rfl
 simpa using g
theorem Sx.gp {w0 w : World} {bs : List Bx} {fs : List Fx} (h : Sx w0 w bs fs) (i : Nat) (o0 : R3) (o1 : R3) (n0 : R3) (n1 : R3) {B T : Nat} (hi : bs[i]? = some (B, #[.bool o0.b, .slice o0.a o0.n o0.c, .slice o0.d o0.m o0.e, .bool o1.b, .slice o1.a o1.n o1.c, .slice o1.d o1.m o1.e], T)) :
  Sx w0 (((((((w).setCell ⟨B, 0, none⟩ (.bool n0.b)).setCell ⟨B, 1, none⟩ (.slice n0.a n0.n n0.c)).setCell ⟨B, 2, none⟩ (.slice n0.d n0.m n0.e)).setCell ⟨B, 3, none⟩ (.bool n1.b)).setCell ⟨B, 4, none⟩ (.slice n1.a n1.n n1.c)).setCell ⟨B, 5, none⟩ (.slice n1.d n1.m n1.e)) (bs.set i (B, #[.bool n0.b, .slice n0.a n0.n n0.c, .slice n0.d n0.m n0.e, .bool n1.b, .slice n1.a n1.n n1.c, .slice n1.d n1.m n1.e], T)) fs := by
 have hl := (List.getElem?_eq_some_iff.1 hi).1
 have g := ((((((h).set i hi 0 (v := .bool n0.b) rfl).set i (by rw [List.getElem?_set, if_pos rfl, if_pos (by simpa using hl)]) 1 (v := .slice n0.a n0.n n0.c) rfl).set i (by rw [List.getElem?_set, if_pos rfl, if_pos (by simpa using hl)]) 2 (v := .slice n0.d n0.m n0.e) rfl).set i (by rw [List.getElem?_set, if_pos rfl, if_pos (by simpa using hl)]) 3 (v := .bool n1.b) rfl).set i (by rw [List.getElem?_set, if_pos rfl, if_pos (by simpa using hl)]) 4 (v := .slice n1.a n1.n n1.c) rfl).set i (by rw [List.getElem?_set, if_pos rfl, if_pos (by simpa using hl)]) 5 (v := .slice n1.d n1.m n1.e) rfl
 simpa using g
theorem Sx.ne {w0 w : World} {bs : List Bx} {fs : List Fx} (h : Sx w0 w bs fs) (i j : Nat) {B T : Nat} {cs : Array Value} {B' T' : Nat} {cs' : Array Value} (hi : bs[i]? = some (B, cs, T)) (hj : bs[j]? = some (B', cs', T')) (hij : i ≠ j) : B ≠ B' := by
 intro e
 obtain ⟨l1, e1⟩ := List.getElem?_eq_some_iff.1 hi
 obtain ⟨l2, e2⟩ := List.getElem?_eq_some_iff.1 hj
 refine hij ((List.getElem_inj (h₀ := by simpa using l1) (h₁ := by simpa using l2) h.Qm).1 ?_)
 simp [e1, e2, e]
theorem xU (w : World) : aA w dQ.val 0 := ⟨_, _, rfl, bT.zero _ _ _, bT.zero _ _ _⟩
theorem dC {m W : World} {o : Obj} (h : Below m.heap.size m W) : Below m.heap.size m (W.alloc o) := h.alloc h.size o
theorem bC {m W : World} {B j : Nat} {v : Value} (h : Below m.heap.size m W) (hB : m.heap.size ≤ B) : Below m.heap.size m (W.setCell ⟨B, j, none⟩ v) := h.setCell (p := ⟨B, j, none⟩) hB v
theorem nb1 {α : Type _} {xs : List α} {i : Nat} (h : i < xs.toArray.size) : xs.toArray[i] = xs[i] := List.getElem_toArray h
theorem nb2 {α : Type _} (a : α) (l : List α) (h : 0 < (a :: l).length) : (a :: l)[0] = a := List.getElem_cons_zero a l h
theorem nb3 {α : Type _} (a : α) (l : List α) (i : Nat) (h : i + 1 < (a :: l).length) : (a :: l)[i + 1] = l[i]'(by simpa using h) := List.getElem_cons_succ a l i h
theorem nb4 {α : Type _} (l : List α) (i : Nat) (a : α) : l.toArray.setIfInBounds i a = (l.set i a).toArray := List.setIfInBounds_toArray l i a
theorem ig {α : Type _} {x : α} {xs : List α} {a : α} : (x :: xs).set 0 a = a :: xs := List.set_cons_zero
theorem ik {α : Type _} {x : α} {xs : List α} {i : Nat} {a : α} : (x :: xs).set (i + 1) a = x :: xs.set i a := List.set_cons_succ
section
variable {P : Program} {ops : Array Oper} {Q : Exit → Act → World → Prop} {md : Region.Mode} {S : World → Prop}
theorem bW {i : Nat} {oi : Oper} {v : Value} {fuel : Nat} {listed : Array Bool} {a : Act} {w : World} (hi : ops[i]? = some oi) (hy : YieldsIf P ops S oi v a) (hS : S w)
  (h : wpAnyH P md ops Q S fuel (listed.setIfInBounds i true) (a.put oi.dst v) w) (hs : Region.noSelect ops = true := by kernel_rfl) (hf : Region.free md ops listed i = true := by kernel_rfl)
  (hr : (Region.ready md ops listed).contains i = true := by kernel_rfl) (hQ : ∀ c a w, Q (.panic c) (a.put oi.dst v) w → Q (.panic c) a w := by exact fun _ _ _ h => h) : wpAnyH P md ops Q S (fuel + 1) listed a w :=
 wpAnyH_take hi hs hf hr hQ hy hS h
theorem rdA {i : Nat} {o : Oper} {fuel : Nat} {listed : Array Bool} {a : Act} {w : World} (ho : ops[i]? = some o)
  (h : ∀ K' : Act → World → Prop, Shut (∀ a w, S w → (S w → wpAnyH P md ops Q S fuel (listed.setIfInBounds i true) a w) → K' a w) → if Region.wanted o (yielded ops a.tmps) = true then Oper.wp P o a w K' Q else K' (a.put o.dst undef) w)
  (hr : Region.ready md ops listed = [i] := by kernel_rfl) : wpAnyH P md ops Q S (fuel + 1) listed a w :=
 wpAnyH_ready hr (by simp) (AllReadyH.cons ho h AllReadyH.nil)
end
def bz (b : Rat → Rat → Bool) (f : Nat → Rat) : Nat → Rat
 | 0 => f 0
 | i + 1 => if b (f (i + 1)) (bz b f i) then f (i + 1) else bz b f i
def uP (x y : Rat) : Bool := decide (dN x y < 0)
def sD (x y : Rat) : Bool := decide (dN x y > 0)
theorem yP {b : Rat → Rat → Bool} {f : Nat → Rat} {P : Rat → Prop} (h : ∀ i, P (f i)) : ∀ n, P (bz b f n)
 | 0 => h 0
 | n + 1 => by
  unfold bz
  split
  · exact h _
  · exact yP h n
theorem kc6 {W a b : World} {B0 j0 B1 j1 B2 j2 B3 j3 B4 j4 B5 j5 : Nat} {v0 v1 v2 v3 v4 v5 : Value} (hb : Below a.heap.size a b) (h : Below W.heap.size W a ∧ a.cell? ⟨B0, j0, none⟩ = some (v0) ∧ a.cell? ⟨B1, j1, none⟩ = some (v1) ∧ a.cell? ⟨B2, j2, none⟩ = some (v2) ∧ a.cell? ⟨B3, j3, none⟩ = some (v3) ∧ a.cell? ⟨B4, j4, none⟩ = some (v4) ∧ a.cell? ⟨B5, j5, none⟩ = some (v5)) : Below W.heap.size W b ∧ b.cell? ⟨B0, j0, none⟩ = some (v0) ∧ b.cell? ⟨B1, j1, none⟩ = some (v1) ∧ b.cell? ⟨B2, j2, none⟩ = some (v2) ∧ b.cell? ⟨B3, j3, none⟩ = some (v3) ∧ b.cell? ⟨B4, j4, none⟩ = some (v4) ∧ b.cell? ⟨B5, j5, none⟩ = some (v5) := by
 obtain ⟨h0, k0, k1, k2, k3, k4, k5⟩ := h
 have e : ∀ B j v, a.cell? ⟨B, j, none⟩ = some v → b.cell? ⟨B, j, none⟩ = some v := fun B j v h => (hb.cell (p := ⟨B, j, none⟩) (World.block_lt_of_cell? (h := h))).trans h
 exact ⟨bt h0 hb, e _ _ _ k0, e _ _ _ k1, e _ _ _ k2, e _ _ _ k3, e _ _ _ k4, e _ _ _ k5⟩
structure MB (w : World) (y : R3) (q : Rat) (wr : World) : Prop where
 bel : Below w.heap.size w wr
 r : wr.heap[w.heap.size]? = some (.cells dQ.arr 40 (0, 0))
 m : wr.heap[w.heap.size + 1]? = some (.cells y.arr 40 (0, 0))
 v : aA wr y.val q
theorem MB.below {w a b : World} {y : R3} {q : Rat} (h : MB w y q a) (hb : Below a.heap.size a b) : MB w y q b := ⟨ax h.bel hb, ay h.r hb (ai h.r), ay h.m hb (ai h.m), h.v.below hb⟩
theorem MB.set {w a : World} {y x : R3} {q p : Rat} (h : MB w y q a) (hx : aA a x.val p) : MB w x p (((a.setCell ⟨w.heap.size + 1, 0, none⟩ (.bool x.b)).setCell ⟨w.heap.size + 1, 1, none⟩ (.slice x.a x.n x.c)).setCell ⟨w.heap.size + 1, 2, none⟩ (.slice x.d x.m x.e)) :=
 ⟨kG h.bel (by omega), ay h.r (kG (Below.refl (w.heap.size + 1) a) (Nat.le_refl _)) (by omega), mO h.m, hx.mO h.m⟩
theorem aap (qs : List Rat) (v : Value) (w : World) (h : nS aA w v qs) (h1 : 1 ≤ qs.length) (h2 : qs.length ≤ 1000) (hz : ∀ i, bQ (qs.getD i 0) 274877906944) :
  Calls Tryz.prog 35 #[v, .func (.func 36) #[] #[]] w (dW (bz uP (fun i => qs.getD i 0) (qs.length - 1)) w) := by
 have HL := ae h
 obtain ⟨ao, cap, rfl, hE⟩ := h
 obtain ⟨bl, off, rfl, hbl, hd⟩ := hE (by omega)
 have HD := ae hd
 have HZ := ae hz
 obtain ⟨x0, x1, x2, p0, p1, p2, hx⟩ := hd 0 (by omega)
 obtain ⟨x, hxe⟩ := hx.bn
 injection hxe with hxe
 simp only [Array.mk.injEq, List.cons.injEq] at hxe
 obtain ⟨rfl, rfl, rfl, _⟩ := hxe
 have HX : Hid (aA w x.val (qs.getD 0 0)) := hx
 rw [Nat.zero_mul, Nat.add_zero] at p0 p1 p2
 have t1 : decide ((qs.length : Int) < 1) = false := by simp; omega
 have h0 : (0 : Int) < qs.length := by omega
 obtain ⟨n, hn⟩ : ∃ n, qs.length = n + 1 := ⟨qs.length - 1, by omega⟩
 have HN : Hid (qs.length = n + 1 ∧ qs.length - 1 = n) := ⟨hn, by omega⟩
 rw [HN.out.2]
 clear hE hd hz hx h1 hn
 go_enter Tryz.func35, Tryz.ntmps35
 go_wp2_with fail
 generalize hW0 : (w.alloc (.cells _ _)).alloc (.cells _ _) = W at *
 obtain ⟨hal, hE0, hE1, hWs⟩ := alW w _ _ _ _ W hW0.symm
 have HM : Hid (MB w x (bz uP (fun i => qs.getD i 0) 0) W) := ⟨hal, hE0, hE1, HX.out.below hal⟩
 clear hW0 hal hE0 hE1 hWs p0 p1 p2 h0 HX t1
 go_loopw [6] (fun iv wr => ∃ (i : Nat) (y : R3), 1 ≤ i ∧ i ≤ qs.length ∧ iv = .int .i64 i ∧ Hid (MB w y (bz uP (fun i => qs.getD i 0) (i - 1)) wr))
  (fun iv _ => qs.length - (intOf iv).toNat)
 case atStart => exact ⟨1, x, Nat.le_refl _, by have := HN.out; omega, rfl, HM⟩
 case round =>
  obtain ⟨i, y, hi1, hi, rfl, zt⟩ := hrel
  by_cases hlt : i < qs.length
  ·
   obtain ⟨a0, a1, a2, p0, p1, p2, hqa⟩ := HD.out i hlt
   have c : ∀ j v, w.cell? ⟨bl, j, none⟩ = some v → wr.cell? ⟨bl, j, none⟩ = some v := fun j v h => (zt.out.bel.cell (p := ⟨bl, j, none⟩) hbl).trans h
   replace p0 := c _ _ p0
   replace p1 := c _ _ p1
   replace p2 := c _ _ p2
   obtain ⟨z, hze⟩ := hqa.bn
   injection hze with hze
   simp only [Array.mk.injEq, List.cons.injEq] at hze
   obtain ⟨rfl, rfl, rfl, _⟩ := hze
   have HA : Hid (aA wr z.val (qs.getD i 0)) := hqa.below zt.out.bel
   have HY := ae zt.out.v
   obtain ⟨s0, s1, s2, _, _, _⟩ := eu zt.out.m
   have hlt' : (i : Int) < qs.length := by omega
   have hge' : (0 : Int) ≤ i := by omega
   have gq := ae hlt
   obtain ⟨j, hj⟩ : ∃ j, i = j + 1 := ⟨i - 1, by omega⟩
   have ej : i - 1 = j := by omega
   rw [ej] at zt HY
   have HF : Hid (bz uP (fun i => qs.getD i 0) i = if uP (qs.getD i 0) (bz uP (fun i => qs.getD i 0) j) then qs.getD i 0 else bz uP (fun i => qs.getD i 0) j) := by rw [hj]; rfl
   have ZA := ae (HZ.out i)
   have ZB : Hid (bQ (bz uP (fun i => qs.getD i 0) j) 274877906944) := yP (P := fun x => bQ x 274877906944) HZ.out j
   have HY2 : Hid (aA wr y.val (bz uP (fun i => qs.getD i 0) j)) := HY.out
   have ahs : Hid (MB w y (bz uP (fun i => qs.getD i 0) j) wr) := zt.out
   obtain ⟨C, hC⟩ : ∃ C, C = dN (qs.getD i 0) (bz uP (fun i => qs.getD i 0) j) := ⟨_, rfl⟩
   have HC := ae hC
   have tcc : decide (C < 0) = uP (qs.getD i 0) (bz uP (fun i => qs.getD i 0) j) := by rw [hC]; rfl
   clear hqa c hC hlt hi hi1 HY zt hj ej
   generalize qs.getD i 0 = qa at *
   generalize bz uP (fun i => qs.getD i 0) j = q at *
   rename Hid (aA wr y.val q) => HY
   generalize uP qa q = fb at *
   go_upto_region 7 with fail
   refine wp_region_held_drew (S := (fun w' => Below wr.heap.size wr w' ∧ w'.cell? ⟨bl, off + i * 3, none⟩ = some (.bool z.b) ∧ w'.cell? ⟨bl, off + i * 3 + 1, none⟩ = some (.slice z.a z.n z.c) ∧ w'.cell? ⟨bl, off + i * 3 + 2, none⟩ = some (.slice z.d z.m z.e) ∧ w'.cell? ⟨w.heap.size + 1, 0, none⟩ = some (.bool y.b) ∧ w'.cell? ⟨w.heap.size + 1, 1, none⟩ = some (.slice y.a y.n y.c) ∧ w'.cell? ⟨w.heap.size + 1, 2, none⟩ = some (.slice y.d y.m y.e))) (by kernel_rfl) ⟨(Below.refl _ _).drew, p0, p1, p2, s0, s1, s2⟩ (fun hh => ?_)
   have HAD := ae (Below.refl wr.heap.size wr).drew
   clear p0 p1 p2 s0 s1 s2
   refine iI (i := 0) (v := ?vp0) rfl (Or.inl ⟨by rfl, ?wM⟩) (by assumption) ?NU
   case wM => intro w hSw; (try dsimp only at hSw); (go_simp <;> with_reducible rfl)
   try simp only [ag]
   refine iI (i := 1) (v := ?vp1) rfl (Or.inl ⟨by rfl, ?rQ⟩) (by assumption) ?Hl
   case rQ => intro w hSw; (try dsimp only at hSw); (go_simp <;> with_reducible rfl)
   try simp only [ag]
   refine iI (i := 2) (v := ?vp2) rfl (Or.inl ⟨by rfl, ?yX⟩) (by assumption) ?QP
   case yX => intro w hSw; (try dsimp only at hSw); (go_simp <;> with_reducible rfl)
   try simp only [ag]
   refine iI (i := 3) (v := ?vp3) rfl (Or.inl ⟨by rfl, ?Az⟩) (by assumption) ?U_
   case Az => intro w hSw; (try dsimp only at hSw); (go_simp <;> with_reducible rfl)
   try simp only [ag]
   refine iI (i := 4) (v := ?vp4) rfl (Or.inl ⟨by rfl, ?wO⟩) (by assumption) ?NV
   case wO => intro w hSw; (try dsimp only at hSw); (go_simp <;> with_reducible rfl)
   try simp only [ag]
   refine iI (i := 5) (v := ?vp5) rfl (Or.inl ⟨by rfl, ?wP⟩) (by assumption) ?NW
   case wP => intro w hSw; (try dsimp only at hSw); (go_simp <;> with_reducible rfl)
   try simp only [ag]
   refine o8 (i := 6) rfl (fun K hK => ?_)
   go_simp
   go_wp2_with (go_at_call 36; (with_reducible refine (iM qa q _ _ _ (HA.out.below HAD.out) (HY.out.below HAD.out) ZA.out ZB.out).mono ?_); rintro e wA ⟨rfl, ji⟩; rw [← HC.out])
   refine hK.out _ _ (kc6 ji hh) (fun hh => ?_)
   clear hK K
   try simp only [ag]
   refine iI (i := 7) (v := ?vp7) rfl (Or.inl ⟨by rfl, ?JD⟩) (by assumption) ?ae9
   case JD => intro w hSw; (try dsimp only at hSw); (go_simp <;> with_reducible rfl)
   try simp only [ag]
   refine wpAnyH_done (by kernel_rfl) ?_ _
   have HM2 : Hid (MB w y q wA) := ahs.out.below (bt HAD.out ji)
   have HA2 : Hid (aA wA z.val qa) := HA.out.below (bt HAD.out ji)
   obtain ⟨_, p0, p1, p2, _, _, _⟩ := hh
   obtain ⟨s0, s1, s2, f0, f1, f2⟩ := eu HM2.out.m
   clear ji
   cases fb with
   | true =>
    have HQ : Hid (bz uP (fun i => qs.getD i 0) i = qa) := HF.out
    go_wp2_with fail
    exact ⟨⟨i + 1, z, by omega, by have := gq.out; omega, by go_num, by rw [show i + 1 - 1 = i by omega, HQ.out]; exact HM2.out.set HA2.out⟩, bU gq.out⟩
   | false =>
    have HQ : Hid (bz uP (fun i => qs.getD i 0) i = q) := HF.out
    go_wp2_with fail
    exact ⟨⟨i + 1, y, by omega, by have := gq.out; omega, by go_num, by rw [show i + 1 - 1 = i by omega, HQ.out]; exact HM2⟩, bU gq.out⟩
  ·
   obtain rfl : i = qs.length := by omega
   rw [HN.out.2] at zt
   obtain ⟨s0, s1, s2, _, _, _⟩ := eu zt.out.m
   obtain ⟨g0, g1, g2, f0, f1, f2⟩ := eu (x := dQ) zt.out.r
   go_wp2_with fail
   obtain ⟨h0, h1, h2, _, _, _⟩ := eu (x := y) (mO (x := y) zt.out.r)
   refine bodyPost_ret (v := y.val) (by simp [results, Tryz.results35, go_sem, h0, h1, h2]) rfl ⟨_, rfl, zt.out.v.mO zt.out.r, kG zt.out.bel (by omega)⟩
theorem aal (qs : List Rat) (v : Value) (w : World) (h : nS aA w v qs) (h1 : 1 ≤ qs.length) (h2 : qs.length ≤ 1000) (hz : ∀ i, bQ (qs.getD i 0) 274877906944) :
  Calls Tryz.prog 37 #[v, .func (.func 36) #[] #[]] w (dW (bz sD (fun i => qs.getD i 0) (qs.length - 1)) w) := by
 have HL := ae h
 obtain ⟨ao, cap, rfl, hE⟩ := h
 obtain ⟨bl, off, rfl, hbl, hd⟩ := hE (by omega)
 have HD := ae hd
 have HZ := ae hz
 obtain ⟨x0, x1, x2, p0, p1, p2, hx⟩ := hd 0 (by omega)
 obtain ⟨x, hxe⟩ := hx.bn
 injection hxe with hxe
 simp only [Array.mk.injEq, List.cons.injEq] at hxe
 obtain ⟨rfl, rfl, rfl, _⟩ := hxe
 have HX : Hid (aA w x.val (qs.getD 0 0)) := hx
 rw [Nat.zero_mul, Nat.add_zero] at p0 p1 p2
 have t1 : decide ((qs.length : Int) < 1) = false := by simp; omega
 have h0 : (0 : Int) < qs.length := by omega
 obtain ⟨n, hn⟩ : ∃ n, qs.length = n + 1 := ⟨qs.length - 1, by omega⟩
 have HN : Hid (qs.length = n + 1 ∧ qs.length - 1 = n) := ⟨hn, by omega⟩
 rw [HN.out.2]
 clear hE hd hz hx h1 hn
 go_enter Tryz.func37, Tryz.ntmps37
 go_wp2_with fail
 generalize hW0 : (w.alloc (.cells _ _)).alloc (.cells _ _) = W at *
 obtain ⟨hal, hE0, hE1, hWs⟩ := alW w _ _ _ _ W hW0.symm
 have HM : Hid (MB w x (bz sD (fun i => qs.getD i 0) 0) W) := ⟨hal, hE0, hE1, HX.out.below hal⟩
 clear hW0 hal hE0 hE1 hWs p0 p1 p2 h0 HX t1
 go_loopw [6] (fun iv wr => ∃ (i : Nat) (y : R3), 1 ≤ i ∧ i ≤ qs.length ∧ iv = .int .i64 i ∧ Hid (MB w y (bz sD (fun i => qs.getD i 0) (i - 1)) wr))
  (fun iv _ => qs.length - (intOf iv).toNat)
 case atStart => exact ⟨1, x, Nat.le_refl _, by have := HN.out; omega, rfl, HM⟩
 case round =>
  obtain ⟨i, y, hi1, hi, rfl, zt⟩ := hrel
  by_cases hlt : i < qs.length
  ·
   obtain ⟨a0, a1, a2, p0, p1, p2, hqa⟩ := HD.out i hlt
   have c : ∀ j v, w.cell? ⟨bl, j, none⟩ = some v → wr.cell? ⟨bl, j, none⟩ = some v := fun j v h => (zt.out.bel.cell (p := ⟨bl, j, none⟩) hbl).trans h
   replace p0 := c _ _ p0
   replace p1 := c _ _ p1
   replace p2 := c _ _ p2
   obtain ⟨z, hze⟩ := hqa.bn
   injection hze with hze
   simp only [Array.mk.injEq, List.cons.injEq] at hze
   obtain ⟨rfl, rfl, rfl, _⟩ := hze
   have HA : Hid (aA wr z.val (qs.getD i 0)) := hqa.below zt.out.bel
   have HY := ae zt.out.v
   obtain ⟨s0, s1, s2, _, _, _⟩ := eu zt.out.m
   have hlt' : (i : Int) < qs.length := by omega
   have hge' : (0 : Int) ≤ i := by omega
   have gq := ae hlt
   obtain ⟨j, hj⟩ : ∃ j, i = j + 1 := ⟨i - 1, by omega⟩
   have ej : i - 1 = j := by omega
   rw [ej] at zt HY
   have HF : Hid (bz sD (fun i => qs.getD i 0) i = if sD (qs.getD i 0) (bz sD (fun i => qs.getD i 0) j) then qs.getD i 0 else bz sD (fun i => qs.getD i 0) j) := by rw [hj]; rfl
   have ZA := ae (HZ.out i)
   have ZB : Hid (bQ (bz sD (fun i => qs.getD i 0) j) 274877906944) := yP (P := fun x => bQ x 274877906944) HZ.out j
   have HY2 : Hid (aA wr y.val (bz sD (fun i => qs.getD i 0) j)) := HY.out
   have ahs : Hid (MB w y (bz sD (fun i => qs.getD i 0) j) wr) := zt.out
   obtain ⟨C, hC⟩ : ∃ C, C = dN (qs.getD i 0) (bz sD (fun i => qs.getD i 0) j) := ⟨_, rfl⟩
   have HC := ae hC
   have tcc : decide (C > 0) = sD (qs.getD i 0) (bz sD (fun i => qs.getD i 0) j) := by rw [hC]; rfl
   clear hqa c hC hlt hi hi1 HY zt hj ej
   generalize qs.getD i 0 = qa at *
   generalize bz sD (fun i => qs.getD i 0) j = q at *
   rename Hid (aA wr y.val q) => HY
   generalize sD qa q = fb at *
   go_upto_region 7 with fail
   refine wp_region_held_drew (S := (fun w' => Below wr.heap.size wr w' ∧ w'.cell? ⟨bl, off + i * 3, none⟩ = some (.bool z.b) ∧ w'.cell? ⟨bl, off + i * 3 + 1, none⟩ = some (.slice z.a z.n z.c) ∧ w'.cell? ⟨bl, off + i * 3 + 2, none⟩ = some (.slice z.d z.m z.e) ∧ w'.cell? ⟨w.heap.size + 1, 0, none⟩ = some (.bool y.b) ∧ w'.cell? ⟨w.heap.size + 1, 1, none⟩ = some (.slice y.a y.n y.c) ∧ w'.cell? ⟨w.heap.size + 1, 2, none⟩ = some (.slice y.d y.m y.e))) (by kernel_rfl) ⟨(Below.refl _ _).drew, p0, p1, p2, s0, s1, s2⟩ (fun hh => ?_)
   have HAD := ae (Below.refl wr.heap.size wr).drew
   clear p0 p1 p2 s0 s1 s2
   refine iI (i := 0) (v := ?vp0) rfl (Or.inl ⟨by rfl, ?wM⟩) (by assumption) ?NU
   case wM => intro w hSw; (try dsimp only at hSw); (go_simp <;> with_reducible rfl)
   try simp only [ag]
   refine iI (i := 1) (v := ?vp1) rfl (Or.inl ⟨by rfl, ?rQ⟩) (by assumption) ?Hl
   case rQ => intro w hSw; (try dsimp only at hSw); (go_simp <;> with_reducible rfl)
   try simp only [ag]
   refine iI (i := 2) (v := ?vp2) rfl (Or.inl ⟨by rfl, ?yX⟩) (by assumption) ?QP
   case yX => intro w hSw; (try dsimp only at hSw); (go_simp <;> with_reducible rfl)
   try simp only [ag]
   refine iI (i := 3) (v := ?vp3) rfl (Or.inl ⟨by rfl, ?Az⟩) (by assumption) ?U_
   case Az => intro w hSw; (try dsimp only at hSw); (go_simp <;> with_reducible rfl)
   try simp only [ag]
   refine iI (i := 4) (v := ?vp4) rfl (Or.inl ⟨by rfl, ?wO⟩) (by assumption) ?NV
   case wO => intro w hSw; (try dsimp only at hSw); (go_simp <;> with_reducible rfl)
   try simp only [ag]
   refine iI (i := 5) (v := ?vp5) rfl (Or.inl ⟨by rfl, ?wP⟩) (by assumption) ?NW
   case wP => intro w hSw; (try dsimp only at hSw); (go_simp <;> with_reducible rfl)
   try simp only [ag]
   refine o8 (i := 6) rfl (fun K hK => ?_)
   go_simp
   go_wp2_with (go_at_call 36; (with_reducible refine (iM qa q _ _ _ (HA.out.below HAD.out) (HY.out.below HAD.out) ZA.out ZB.out).mono ?_); rintro e wA ⟨rfl, ji⟩; rw [← HC.out])
   refine hK.out _ _ (kc6 ji hh) (fun hh => ?_)
   clear hK K
   try simp only [ag]
   refine iI (i := 7) (v := ?vp7) rfl (Or.inl ⟨by rfl, ?JD⟩) (by assumption) ?ae9
   case JD => intro w hSw; (try dsimp only at hSw); (go_simp <;> with_reducible rfl)
   try simp only [ag]
   refine wpAnyH_done (by kernel_rfl) ?_ _
   have HM2 : Hid (MB w y q wA) := ahs.out.below (bt HAD.out ji)
   have HA2 : Hid (aA wA z.val qa) := HA.out.below (bt HAD.out ji)
   obtain ⟨_, p0, p1, p2, _, _, _⟩ := hh
   obtain ⟨s0, s1, s2, f0, f1, f2⟩ := eu HM2.out.m
   clear ji
   cases fb with
   | true =>
    have HQ : Hid (bz sD (fun i => qs.getD i 0) i = qa) := HF.out
    go_wp2_with fail
    exact ⟨⟨i + 1, z, by omega, by have := gq.out; omega, by go_num, by rw [show i + 1 - 1 = i by omega, HQ.out]; exact HM2.out.set HA2.out⟩, bU gq.out⟩
   | false =>
    have HQ : Hid (bz sD (fun i => qs.getD i 0) i = q) := HF.out
    go_wp2_with fail
    exact ⟨⟨i + 1, y, by omega, by have := gq.out; omega, by go_num, by rw [show i + 1 - 1 = i by omega, HQ.out]; exact HM2⟩, bU gq.out⟩
  ·
   obtain rfl : i = qs.length := by omega
   rw [HN.out.2] at zt
   obtain ⟨s0, s1, s2, _, _, _⟩ := eu zt.out.m
   obtain ⟨g0, g1, g2, f0, f1, f2⟩ := eu (x := dQ) zt.out.r
   go_wp2_with fail
   obtain ⟨h0, h1, h2, _, _, _⟩ := eu (x := y) (mO (x := y) zt.out.r)
   refine bodyPost_ret (v := y.val) (by simp [results, Tryz.results37, go_sem, h0, h1, h2]) rfl ⟨_, rfl, zt.out.v.mO zt.out.r, kG zt.out.bel (by omega)⟩
theorem lo4 (a c : Rat) : bz uP (fun i => [a, a, c, c].getD i 0) 3 = rW a c := by
 unfold bz bz bz bz rW uP dN
 simp only [List.getD, List.getElem?_cons_succ, List.getElem?_cons_zero, Option.getD_some]
 grind
theorem hi4 (a c : Rat) : bz sD (fun i => [a, a, c, c].getD i 0) 3 = qU a c := by
 unfold bz bz bz bz qU sD dN
 simp only [List.getD, List.getElem?_cons_succ, List.getElem?_cons_zero, Option.getD_some]
 grind
theorem Y1 {W : World} {B T : Nat} {x1 x2 x3 x4 : R3} {a b c d : Rat} (h : W.heap[B]? = some (.cells #[.bool x1.b, .slice x1.a x1.n x1.c, .slice x1.d x1.m x1.e, .bool x2.b, .slice x2.a x2.n x2.c, .slice x2.d x2.m x2.e, .bool x3.b, .slice x3.a x3.n x3.c, .slice x3.d x3.m x3.e, .bool x4.b, .slice x4.a x4.n x4.c, .slice x4.d x4.m x4.e] T (0, 0))) (h1 : aA W x1.val a) (h2 : aA W x2.val b) (h3 : aA W x3.val c) (h4 : aA W x4.val d) : nS aA W (.slice (some ⟨B, 0, none⟩) 4 4) [a, b, c, d] := by
 refine ⟨_, 4, rfl, fun _ => ⟨B, 0, rfl, ai h, fun i hi => ?_⟩⟩
 match i, hi with
 | 0, _ => exact ⟨_, _, _, af h 0 _ rfl, af h 1 _ rfl, af h 2 _ rfl, h1⟩
 | 1, _ => exact ⟨_, _, _, af h 3 _ rfl, af h 4 _ rfl, af h 5 _ rfl, h2⟩
 | 2, _ => exact ⟨_, _, _, af h 6 _ rfl, af h 7 _ rfl, af h 8 _ rfl, h3⟩
 | 3, _ => exact ⟨_, _, _, af h 9 _ rfl, af h 10 _ rfl, af h 11 _ rfl, h4⟩
 | i + 4, hi => simp at hi; omega
theorem get4 {P : Rat → Prop} {a b c d : Rat} (h0 : P 0) (h1 : P a) (h2 : P b) (h3 : P c) (h4 : P d) : ∀ i, P ([a, b, c, d].getD i 0)
 | 0 => h1
 | 1 => h2
 | 2 => h3
 | 3 => h4
 | i + 4 => h0
theorem h_ (k : Nat) (hk : 1 ≤ k) : bQ 0 k := aj (uK (n := 0) (k := 1) (by unfold ak; decide) (by omega)) hk
theorem Dz (qs : List Rat) (v : Value) (w : World) (h : nS aA w v qs) (h1 : 1 ≤ qs.length) (h2 : qs.length ≤ 1000) (hz : ∀ i, bQ (qs.getD i 0) 274877906944) :
  Calls Tryz.prog 19 #[v] w (iK (bz uP (fun i => qs.getD i 0) (qs.length - 1)) (bz sD (fun i => qs.getD i 0) (qs.length - 1)) w) := by
 have H := ae h
 clear h
 have H1 := ae h1
 clear h1
 have H2 := ae h2
 clear h2
 have HZ := ae hz
 clear hz
 obtain ⟨ao, cap, rfl, _⟩ := H.out
 go_enter Tryz.func19, Tryz.ntmps19
 go_wp2_with fail
 generalize hW0 : w.alloc (.cells _ _) = W at *
 obtain ⟨hal, hE0, hWs⟩ := apo w _ _ W hW0.symm
 have HB := ae hal
 have HWS := ae hWs
 have Oz := ae hE0
 clear hW0 hal hWs hE0
 obtain ⟨g0, g1, g2, g3, g4, g5, f0, f1, f2, f3, f4, f5⟩ := dO (x := dQ) (y := dQ) Oz.out
 refine (aap qs _ _ (H.out.below (fun _ _ _ _ h hb => h.below hb) HB.out) H1.out H2.out HZ.out).mono ?_
 rintro e w1 ⟨v1, rfl, hv1, hb1⟩
 obtain ⟨z1, rfl⟩ := hv1.bn
 replace Oz := ae (ay Oz.out hb1 (ai Oz.out))
 replace HB := ae (bt HB.out hb1)
 have ahx := ae hv1
 clear hv1
 clear g0 g1 g2 g3 g4 g5 f0 f1 f2 f3 f4 f5
 obtain ⟨g0, g1, g2, g3, g4, g5, f0, f1, f2, f3, f4, f5⟩ := dO (x := dQ) (y := dQ) Oz.out
 clear hb1
 go_wp2_with fail
 refine (aal qs _ _ (H.out.below (fun _ _ _ _ h hb => h.below hb) HB.out) H1.out H2.out HZ.out).mono ?_
 rintro e w2 ⟨v2, rfl, hv2, hb2⟩
 obtain ⟨z2, rfl⟩ := hv2.bn
 replace ahx := ae (ahx.out.below hb2)
 replace Oz := ae (ay Oz.out hb2 (ai Oz.out))
 replace HB := ae (bt HB.out hb2)
 have aoW := ae hv2
 clear hv2
 clear g0 g1 g2 g3 g4 g5 f0 f1 f2 f3 f4 f5
 obtain ⟨g0, g1, g2, g3, g4, g5, f0, f1, f2, f3, f4, f5⟩ := dO (x := dQ) (y := dQ) Oz.out
 clear hb2
 go_wp2_with fail
 obtain ⟨h0, h1, h2, h3, h4, h5, _, _, _, _, _, _⟩ := dO (x := z1) (y := z2) (kU (p := dQ) (q := dQ) (x := z1) (y := z2) Oz.out)
 refine bodyPost_ret (v := zg z1 z2) (by simp [results, Tryz.results19, go_sem, h0, h1, h2, h3, h4, h5]) rfl ⟨_, rfl, ⟨z1, z2, rfl, aA.kU (p := dQ) (q := dQ) ahx.out Oz.out, aA.kU (p := dQ) (q := dQ) aoW.out Oz.out⟩, pU HB.out (by omega)⟩
theorem II (a b c d : Rat) (vx vy : Value) (w : World) (hx : cZ w vx a b) (hy : cZ w vy c d) (s1 : bQ a 274877906944) (s2 : bQ b 274877906944) (s3 : bQ c 274877906944) (s4 : bQ d 274877906944) :
  Calls Tryz.prog 9 #[vx, vy] w (iK (bz uP (fun i => [a, b, c, d].getD i 0) 3) (bz sD (fun i => [a, b, c, d].getD i 0) 3) w) := by
 obtain ⟨x1, x2, rfl, hx1, hx2⟩ := hx
 have Xd := ae hx1
 have Xe := ae hx2
 clear hx1 hx2
 obtain ⟨y1, y2, rfl, hy1, hy2⟩ := hy
 have Xf := ae hy1
 have Xg := ae hy2
 clear hy1 hy2
 have S1 := ae s1
 clear s1
 have S2 := ae s2
 clear s2
 have S3 := ae s3
 clear s3
 have S4 := ae s4
 clear s4
 go_enter Tryz.func9, Tryz.ntmps9
 go_wp2_with fail
 generalize hW0 : (((w.alloc (.cells _ _)).alloc (.cells _ _)).alloc (.cells _ _)).alloc (.cells _ _) = W at *
 obtain ⟨hal, hE0, hE1, hE2, hE3, hWs⟩ := apq w _ _ _ _ _ _ _ _ W hW0.symm
 have HB := ae hal
 have HE2 := ae hE2
 have HE3 := ae hE3
 clear hW0 hal hWs hE0 hE1 hE2 hE3
 replace Xd := ae (Xd.out.below HB.out)
 replace Xe := ae (Xe.out.below HB.out)
 replace Xf := ae (Xf.out.below HB.out)
 replace Xg := ae (Xg.out.below HB.out)
 obtain ⟨g0, g1, g2, g3, g4, g5, f0, f1, f2, f3, f4, f5⟩ := dO (x := dQ) (y := dQ) HE2.out
 refine (Dz [a, b, c, d] _ _ (Y1 HE3.out Xd.out Xe.out Xf.out Xg.out) (by simp) (by simp) (get4 (P := fun x => bQ x 274877906944) (h_ _ (by omega)) S1.out S2.out S3.out S4.out)).mono ?_
 rintro e w1 ⟨v1, rfl, ⟨o1, o2, rfl, hv1, hw1⟩, hb1⟩
 replace Xd := ae (Xd.out.below hb1)
 replace Xe := ae (Xe.out.below hb1)
 replace Xf := ae (Xf.out.below hb1)
 replace Xg := ae (Xg.out.below hb1)
 replace HE2 := ae (ay HE2.out hb1 (ai HE2.out))
 replace HB := ae (bt HB.out hb1)
 have aoU := ae hv1
 have aoV := ae hw1
 clear hv1 hw1
 clear g0 g1 g2 g3 g4 g5 f0 f1 f2 f3 f4 f5
 obtain ⟨g0, g1, g2, g3, g4, g5, f0, f1, f2, f3, f4, f5⟩ := dO (x := dQ) (y := dQ) HE2.out
 clear hb1
 go_wp2_with fail
 obtain ⟨h0, h1, h2, h3, h4, h5, _, _, _, _, _, _⟩ := dO (x := o1) (y := o2) (kU (p := dQ) (q := dQ) (x := o1) (y := o2) HE2.out)
 refine bodyPost_ret (v := zg o1 o2) (by simp [results, Tryz.results9, go_sem, h0, h1, h2, h3, h4, h5]) rfl ⟨_, rfl, ⟨o1, o2, rfl, aA.kU (p := dQ) (q := dQ) aoU.out HE2.out, aA.kU (p := dQ) (q := dQ) aoV.out HE2.out⟩, pU HB.out (by omega)⟩
theorem U0 (a c : Rat) (v u : Value) (w : World) (h : cZ w v a a) (k : cZ w u c c) (s1 : bQ a 274877906944) (s2 : bQ c 274877906944) : Calls Tryz.prog 9 #[v, u] w (iK (rW a c) (qU a c) w) := by
 have := II a a c c v u w h k s1 s1 s2 s2
 rw [lo4, hi4] at this
 exact this
def flN (y : Rat) : Nat := if y.num < 0 ∧ y.num.natAbs % y.den ≠ 0 then y.num.natAbs / y.den + 1 else y.num.natAbs / y.den
def Js (y : Rat) : Rat := pK (decide (y.num < 0)) (flN y) 1
theorem aaq (s : Bool) (m b : Nat) : pK s m 1 * yD 0 b = pK s m (2 ^ b) := by
 cases s with
 | false =>
  have := SY m 0 b
  rw [Nat.pow_zero, Nat.mul_one] at this
  exact this
 | true =>
  rw [← F5, ← F5, Rat.neg_mul]
  have := SY m 0 b
  rw [Nat.pow_zero, Nat.mul_one] at this
  rw [this]
theorem Tc (x : Rat) (k : Nat) : x * yD k 0 = pK (decide (x.num < 0)) (x.num.natAbs * 2 ^ k) x.den := by
 have h := Kw x (yD k 0)
 obtain ⟨h1, h2, h3⟩ := ae6 k
 rw [h1, h2, h3] at h
 rw [← h, Nat.mul_one]
 cases decide (x.num < 0) <;> rfl
theorem ND (s : Bool) (A d : Nat) (hd : 0 < d) : (pK s A d).num.natAbs / (pK s A d).den = A / d ∧ ((pK s A d).num.natAbs % (pK s A d).den = 0 ↔ A % d = 0) := by
 rw [xY _ _ _ hd, xX _ _ _ hd]
 have hg : 0 < Nat.gcd A d := Nat.gcd_pos_of_pos_right A hd
 obtain ⟨a, ha⟩ := Nat.gcd_dvd_left A d
 obtain ⟨b, hb⟩ := Nat.gcd_dvd_right A d
 generalize Nat.gcd A d = g at *
 subst ha hb
 rw [Nat.mul_div_cancel_left _ hg, Nat.mul_div_cancel_left _ hg, Nat.mul_div_mul_left _ _ hg, Nat.mul_mod_mul_left]
 refine ⟨rfl, ?_⟩
 constructor
 · intro h; rw [h, Nat.mul_zero]
 ·
  intro h
  rcases Nat.mul_eq_zero.1 h with h | h
  · omega
  · exact h
theorem n_ (x : Rat) (k : Nat) : Js (x * yD k 0) * yD 0 k = gK x k := by
 unfold Js
 rw [aaq]
 unfold gK
 have hd : 0 < x.den := x.den_pos
 obtain ⟨e1, e2⟩ := ND (decide (x.num < 0)) (x.num.natAbs * 2 ^ k) x.den hd
 rw [← Tc] at e1 e2
 have hs : decide ((x * yD k 0).num < 0) = decide (x.num < 0) := by
  rw [Tc]
  by_cases h0 : x.num.natAbs * 2 ^ k = 0
  ·
   rw [h0]
   have : x.num.natAbs = 0 := by
    rcases Nat.mul_eq_zero.1 h0 with h | h
    · exact h
    · have := Nat.two_pow_pos k; omega
   have hn : ¬ x.num < 0 := by omega
   rw [decide_eq_false hn]
   unfold pK sg
   simp
  · exact Ky _ _ _ hd h0
 have hn : ((x * yD k 0).num < 0) ↔ x.num < 0 := by
  constructor
  ·
   intro h
   have : decide ((x * yD k 0).num < 0) = true := decide_eq_true h
   rw [hs] at this
   exact of_decide_eq_true this
  ·
   intro h
   have : decide (x.num < 0) = true := decide_eq_true h
   rw [← hs] at this
   exact of_decide_eq_true this
 have hf : flN (x * yD k 0) = Ig x k := by
  unfold flN Ig
  rw [e1]
  by_cases h : x.num < 0 ∧ x.num.natAbs * 2 ^ k % x.den ≠ 0
  · rw [if_pos h, if_pos ⟨hn.2 h.1, fun h2 => h.2 (e2.1 h2)⟩]
  · rw [if_neg h, if_neg (fun h2 => h ⟨hn.1 h2.1, fun h3 => h2.2 (e2.2 h3)⟩)]
 rw [hs, hf]
theorem LW (n : Nat) : (aU ak n).length ≤ (aU b32 n).length := by
 refine b_ aO _ _ ?_
 refine Nat.lt_of_lt_of_le (dw uh n) (Nat.pow_le_pow_left (by unfold b32 ak; decide) _)
theorem akx {x : Rat} {k : Nat} (h : szQ x k) : bQ x k := ⟨Nat.le_trans (LW _) h.1, Nat.le_trans (LW _) h.2⟩
theorem TQ {a b : Nat} (ha : a ≤ 256) (hb : b ≤ 256) : bQ (yD a b) 10 := by
 refine akx (aar false _ _ 10 (Nat.two_pow_pos b) ?_ ?_)
 · exact Nat.le_trans (LV _) (by have := sS ha; omega)
 · exact Nat.le_trans (LV _) (by have := sS hb; omega)
theorem aA.aq4 {w : World} {x : R3} {q : Rat} (h : aA w x.val q) : x.b = decide (q.num < 0) := by
 obtain ⟨vn, vd, hxe, _, _⟩ := h
 injection hxe with hxe
 simp only [Array.mk.injEq, List.cons.injEq] at hxe
 have := hxe.1
 injection this
theorem L8 (q : Rat) (k : Nat) (hk : k ≤ 256) (z : Int) (hz : min (max z 0) 256 = (k : Int)) (v : Value) (w : World) (h : aA w v q) (hs : bQ q 68719476736) : Calls Tryz.prog 24 #[v, .int .i64 z] w (dW (gK q k) w) := by
 obtain ⟨x, rfl⟩ := h.bn
 have hb := h.aq4
 obtain ⟨b, xa, xn, xc, xd, xm, xe⟩ := x
 cases b with
 | false =>
  have hn : decide (q.num < 0) = false := hb.symm
  refine aij q k hk z hz xa xn xc xd xm xe w h hs _ ?_
  unfold gK Ig
  rw [hn, if_neg (fun h => by rw [decide_eq_false_iff_not] at hn; exact hn h.1)]
 | true =>
  have hn : decide (q.num < 0) = true := hb.symm
  by_cases hr : q.num.natAbs * 2 ^ k % q.den = 0
  ·
   refine aik q k hk z hz xa xn xc xd xm xe w h hs hr _ ?_
   unfold gK Ig
   rw [hn, if_neg (fun h => h.2 hr)]
  ·
   have hl : 0 < (aU ak (q.num.natAbs * 2 ^ k % q.den)).length := by
    rcases Nat.eq_zero_or_pos (aU ak (q.num.natAbs * 2 ^ k % q.den)).length with h0 | h0
    ·
     exfalso
     have e := List.eq_nil_of_length_eq_zero h0
     have := iP aO (q.num.natAbs * 2 ^ k % q.den)
     rw [e] at this
     exact hr this.symm
    · exact h0
   refine aii q k hk z hz xa xn xc xd xm xe w h hs hl _ ?_
   unfold gK Ig
   rw [hn, if_pos ⟨of_decide_eq_true hn, hr⟩]
theorem akz (q : Rat) (k : Nat) (hk : k ≤ 256) (z : Int) (hz : min (max z 0) 256 = (k : Int)) (v : Value) (w : World) (h : aA w v q) (hs : bQ (-q) 68719476736) : Calls Tryz.prog 25 #[v, .int .i64 z] w (dW (yu q k) w) := by
 obtain ⟨x, rfl⟩ := h.bn
 have HX := ae h
 have HS := ae hs
 have HK := ae hk
 have HZK := ae hz
 clear hz
 clear h hs hk
 go_enter Tryz.func25, Tryz.ntmps25
 go_wp2_with fail
 generalize hW0 : (w.alloc (.cells x.arr 40)).alloc (.cells _ _) = W at *
 obtain ⟨hal, hB1, hB2⟩ := Jm w _ _ _ W hW0.symm
 have HB2 := ae hB2
 have pI := ae hal
 clear hW0 hal hB1 hB2
 refine (y9 q _ _ (HX.out.below pI.out)).mono ?_
 rintro e wA ⟨vA, rfl, hvA, ji⟩
 have EA := ae (ay HB2.out ji (ai HB2.out))
 have BA := ae (bt pI.out ji)
 go_wp2_with fail
 refine (L8 (-q) k HK.out z HZK.out _ _ hvA HS.out).mono ?_
 rintro e wB ⟨vB, rfl, hvB, hbB⟩
 have EB := ae (ay EA.out hbB (ai EA.out))
 have BB := ae (bt BA.out hbB)
 go_wp2_with fail
 refine (y9 (gK (-q) k) _ _ hvB).mono ?_
 rintro e wC ⟨vC, rfl, CX, hbC⟩
 have E : Hid (wC.heap[w.heap.size + 1]? = some (.cells dQ.arr 40 (0, 0))) := ay EB.out hbC (ai EB.out)
 have BC := ae (bt BB.out hbC)
 obtain ⟨z, rfl⟩ := CX.bn
 have HV : Hid (aA wC z.val (yu q k)) := CX
 clear hvA hvB CX ji hbB hbC
 obtain ⟨g0, g1, g2, f0, f1, f2⟩ := eu (x := dQ) E.out
 go_wp2_with fail
 obtain ⟨h0, h1, h2, _, _, _⟩ := eu (x := z) (mO (x := z) E.out)
 refine bodyPost_ret (v := z.val) (by simp [results, Tryz.results25, go_sem, h0, h1, h2]) rfl ⟨_, rfl, aA.mO HV.out E.out, kG BC.out (by omega)⟩
theorem aie (w : World) (x y : R3) (cs : Array Value) (T : Nat) (W : World) (hW : W = (w.alloc (.cells (aY x y) 43)).alloc (.cells cs T)) :
  Below w.heap.size w W ∧ W.heap[w.heap.size]? = some (.cells (aY x y) 43 (0, 0)) ∧ W.heap[w.heap.size + 1]? = some (.cells cs T (0, 0)) := by
 subst hW
 have e1 : (w.alloc (.cells (aY x y) 43)).heap.size = w.heap.size + 1 := World.size_alloc ..
 have a1 := aV w (aY x y) 43
 have a2 := aV (w.alloc (.cells (aY x y) 43)) cs T
 rw [e1] at a2
 exact ⟨below2 _ _ _, (heap_alloc_old _ _ (ai a1)).trans a1, a2⟩
theorem zh (lo hi : Rat) (k : Nat) (hk : k ≤ 256) (z : Int) (hz : min (max z 0) 256 = (k : Int)) (v : Value) (w : World) (h : cZ w v lo hi) (s1 : bQ lo 68719476736) (s2 : bQ (-hi) 68719476736) : Calls Tryz.prog 13 #[v, .int .i64 z] w (iK (gK lo k) (yu hi k) w) := by
 obtain ⟨x, y, rfl, h1, h2⟩ := h
 have HX := ae h1
 have HY := ae h2
 have S1 := ae s1
 have S2 := ae s2
 have HK := ae hk
 have HZK := ae hz
 clear hz
 clear h1 h2 s1 s2 hk
 go_enter Tryz.func13, Tryz.ntmps13
 go_wp2_with fail
 generalize hW0 : (w.alloc (.cells (aY x y) 43)).alloc (.cells _ _) = W at *
 obtain ⟨hal, hB1, hB2⟩ := aie w _ _ _ _ W hW0.symm
 obtain ⟨x0, x1, x2, y0, y1, y2, _, _, _, _, _, _⟩ := dO (x := x) (y := y) hB1
 have HB2 := ae hB2
 have HAD := ae hal.drew
 have N3 : Hid (w.heap.size + 1 ≤ W.heap.size) := by
  show _ ≤ _
  have := ai hB2
  omega
 have N0 : Hid (w.heap.size < w.heap.size + 1) := by show _ < _; omega
 clear hW0 hal hB1 hB2
 refine wp_region_held_drew (S := (fun w' => Below (w.heap.size + 1) W w' ∧ w'.cell? ⟨w.heap.size, 0, none⟩ = some (.bool x.b) ∧ w'.cell? ⟨w.heap.size, 1, none⟩ = some (.slice x.a x.n x.c) ∧ w'.cell? ⟨w.heap.size, 2, none⟩ = some (.slice x.d x.m x.e) ∧ w'.cell? ⟨w.heap.size, 3, none⟩ = some (.bool y.b) ∧ w'.cell? ⟨w.heap.size, 4, none⟩ = some (.slice y.a y.n y.c) ∧ w'.cell? ⟨w.heap.size, 5, none⟩ = some (.slice y.d y.m y.e))) (by kernel_rfl) ⟨(Below.refl _ _).drew, x0, x1, x2, y0, y1, y2⟩ (fun hh => ?_)
 clear x0 x1 x2 y0 y1 y2
 refine iI (i := 0) (v := ?vp0) rfl (Or.inl ⟨by rfl, ?wM⟩) (by assumption) ?NU
 case wM => intro w hSw; (try dsimp only at hSw); (go_simp <;> with_reducible rfl)
 try simp only [ag]
 refine iI (i := 1) (v := ?vp1) rfl (Or.inl ⟨by rfl, ?rQ⟩) (by assumption) ?Hl
 case rQ => intro w hSw; (try dsimp only at hSw); (go_simp <;> with_reducible rfl)
 try simp only [ag]
 refine iI (i := 2) (v := ?vp2) rfl (Or.inl ⟨by rfl, ?yX⟩) (by assumption) ?QP
 case yX => intro w hSw; (try dsimp only at hSw); (go_simp <;> with_reducible rfl)
 try simp only [ag]
 refine iI (i := 4) (v := ?vp4) rfl (Or.inl ⟨by rfl, ?wO⟩) (by assumption) ?NV
 case wO => intro w hSw; (try dsimp only at hSw); (go_simp <;> with_reducible rfl)
 try simp only [ag]
 refine iI (i := 5) (v := ?vp5) rfl (Or.inl ⟨by rfl, ?wP⟩) (by assumption) ?NW
 case wP => intro w hSw; (try dsimp only at hSw); (go_simp <;> with_reducible rfl)
 try simp only [ag]
 refine iI (i := 6) (v := ?vp6) rfl (Or.inl ⟨by rfl, ?JC⟩) (by assumption) ?ae8
 case JC => intro w hSw; (try dsimp only at hSw); (go_simp <;> with_reducible rfl)
 try simp only [ag]
 refine o8 (i := 3) rfl (fun K hK => ?_)
 go_simp
 go_wp2_with (go_at_call 24; (with_reducible refine (L8 lo k HK.out z HZK.out _ _ (HX.out.below HAD.out) S1.out).mono ?_); rintro e wA ⟨vA, rfl, hvA, ji⟩)
 refine hK.out _ _ (kd6 N3.out ji hh) (fun hh => ?_)
 clear hK K
 try simp only [ag]
 have BA := ae (bt HAD.out ji)
 refine o8 (i := 7) rfl (fun K hK => ?_)
 go_simp
 go_wp2_with (go_at_call 25; (with_reducible refine (akz hi k HK.out z HZK.out _ _ (HY.out.below BA.out) S2.out).mono ?_); rintro e wB ⟨vB, rfl, hvB, hbB⟩; obtain ⟨za, rfl⟩ := hvA.bn; obtain ⟨zb, rfl⟩ := hvB.bn)
 refine hK.out _ _ (kd6 N3.out hbB hh) (fun hh => ?_)
 clear hK K
 try simp only [ag]
 have BB := ae (bt BA.out hbB)
 refine iI (i := 8) (v := ?vp8) rfl (Or.inl ⟨by rfl, ?JE⟩) (by assumption) ?ae'
 case JE => intro w hSw; (try dsimp only at hSw); (go_simp <;> with_reducible rfl)
 try simp only [ag]
 have e0 : W.drew.heap[w.heap.size + 1]? = _ := HB2.out
 have eA := ay e0 ji (ai e0)
 have E : Hid (wB.heap[w.heap.size + 1]? = some (.cells (aY dQ dQ) 43 (0, 0))) := ay eA hbB (ai eA)
 have HV1 := ae (hvA.below hbB)
 have HV2 := ae hvB
 obtain ⟨g0, g1, g2, g3, g4, g5, f0, f1, f2, f3, f4, f5⟩ := dO (x := dQ) (y := dQ) E.out
 clear e0 eA hvA hvB ji hbB
 refine o8 (i := 9) rfl (fun K hK => ?_)
 go_simp
 refine hK.out _ _ (ks6 (Nat.le_refl _) N0.out N0.out N0.out N0.out N0.out N0.out (pU (Below.refl _ _) (Nat.le_refl _)) hh) (fun hh => ?_)
 clear hK K
 try simp only [ag]
 refine wpAnyH_done (by kernel_rfl) ?_ _
 obtain ⟨h0, h1, h2, h3, h4, h5, _, _, _, _, _, _⟩ := dO (x := za) (y := zb) (kU (x := za) (y := zb) E.out)
 go_wp2_with fail
 refine bodyPost_ret (v := zg za zb) (by simp [results, Tryz.results13, go_sem, h0, h1, h2, h3, h4, h5]) rfl ⟨_, rfl, ⟨za, zb, rfl, aA.kU HV1.out E.out, aA.kU HV2.out E.out⟩, pU BB.out (by omega)⟩
theorem YF (w : World) (x y x2 y2 : R3) (cs : Array Value) (T : Nat) (W : World) (hW : W = ((w.alloc (.cells (aY x y) 43)).alloc (.cells (aY x2 y2) 43)).alloc (.cells cs T)) :
  Below w.heap.size w W ∧ W.heap[w.heap.size]? = some (.cells (aY x y) 43 (0, 0)) ∧ W.heap[w.heap.size + 1]? = some (.cells (aY x2 y2) 43 (0, 0)) ∧ W.heap[w.heap.size + 1 + 1]? = some (.cells cs T (0, 0)) ∧ W.heap.size = w.heap.size + 3 := by
 subst hW
 have e1 : (w.alloc (.cells (aY x y) 43)).heap.size = w.heap.size + 1 := World.size_alloc ..
 have e2 : ((w.alloc (.cells (aY x y) 43)).alloc (.cells (aY x2 y2) 43)).heap.size = w.heap.size + 1 + 1 := by rw [World.size_alloc, e1]
 have a1 := aV w (aY x y) 43
 have a2 := aV (w.alloc (.cells (aY x y) 43)) (aY x2 y2) 43
 have a3 := aV ((w.alloc (.cells (aY x y) 43)).alloc (.cells (aY x2 y2) 43)) cs T
 rw [e1] at a2
 rw [e2] at a3
 have a1' := (heap_alloc_old _ (.cells (aY x2 y2) 43) (ai a1)).trans a1
 exact ⟨ba (below2 _ _ _), (heap_alloc_old _ _ (ai a1')).trans a1', (heap_alloc_old _ _ (ai a2)).trans a2, a3, by rw [World.size_alloc, e2]⟩
theorem Oj (a0 a1 p0 p1 : Rat) (k : Nat) (hk : k ≤ 256) (z : Int) (hz : min (max z 0) 256 = (k : Int)) (vc vr : Value) (w : World) (hc : cZ w vc a0 a1) (hr : cZ w vr p0 p1) (q0 q1 : Rat) (hq0 : a0 + p0 * (1 - a0) = q0) (hq1 : a1 + p1 * (1 - a1) = q1)
  (s1 : bQ a0 68719476736) (s2 : bQ p0 68719476736) (s3 : bQ (1 - a0) 68719476736) (s4 : bQ (p0 * (1 - a0)) 68719476736) (s5 : bQ a1 68719476736) (s6 : bQ p1 68719476736) (s7 : bQ (1 - a1) 68719476736) (s8 : bQ (p1 * (1 - a1)) 68719476736) (s9 : bQ q0 68719476736) (s10 : bQ q1 68719476736) (s11 : bQ (-q1) 68719476736) (hcm : dN q0 q1 ≤ 0) :
  Calls Tryz.prog 29 #[vc, vr, .int .i64 z] w (iK (gK q0 k) (yu q1 k) w) := by
 obtain ⟨x, y, rfl, h1, h2⟩ := hc
 obtain ⟨x', y', rfl, h3, h4⟩ := hr
 have HX := ae (show cZ w (zg x y) a0 a1 from ⟨x, y, rfl, h1, h2⟩)
 have HY := ae (show cZ w (zg x' y') p0 p1 from ⟨x', y', rfl, h3, h4⟩)
 clear h1 h2 h3 h4
 have S1 := ae s1
 have S2 := ae s2
 have S3 := ae s3
 have S4 := ae s4
 have S5 := ae s5
 have S6 := ae s6
 have S7 := ae s7
 have S8 := ae s8
 have S9 := ae s9
 have S10 := ae s10
 have S11 := ae s11
 have HK := ae hk
 have HZK := ae hz
 clear hz
 have HCM := ae hcm
 have HQ0 := ae hq0
 have HQ1 := ae hq1
 clear s1 s2 s3 s4 s5 s6 s7 s8 s9 s10 s11 hk hcm hq0 hq1
 have S12 : Hid (bQ q0 274877906944) := ⟨Nat.le_trans S9.out.1 (by omega), Nat.le_trans S9.out.2 (by omega)⟩
 have S13 : Hid (bQ q1 274877906944) := ⟨Nat.le_trans S10.out.1 (by omega), Nat.le_trans S10.out.2 (by omega)⟩
 go_enter Tryz.func29, Tryz.ntmps29
 go_wp2_with fail
 generalize hW0 : ((w.alloc (.cells (aY x y) 43)).alloc (.cells (aY x' y') 43)).alloc (.cells _ _) = W at *
 obtain ⟨hal, hB1, hB2, hB3, hWs⟩ := YF w _ _ _ _ _ _ W hW0.symm
 obtain ⟨x0, x1, x2, x3, x4, x5, _, _, _, _, _, _⟩ := dO (x := x) (y := y) hB1
 obtain ⟨y0, y1, y2, y3, y4, y5, _, _, _, _, _, _⟩ := dO (x := x') (y := y') hB2
 have HB3 := ae hB3
 have HAD := ae hal.drew
 have N3 : Hid (w.heap.size + 1 + 1 ≤ W.heap.size) := by show _ ≤ _; omega
 have N0 : Hid (w.heap.size < w.heap.size + 1 + 1) := by show _ < _; omega
 have N1 : Hid (w.heap.size + 1 < w.heap.size + 1 + 1) := by show _ < _; omega
 clear hW0 hal hB1 hB2 hB3 hWs
 refine wp_region_held_drew (S := (fun w' => Below (w.heap.size + 1 + 1) W w' ∧ w'.cell? ⟨w.heap.size, 0, none⟩ = some (.bool x.b) ∧ w'.cell? ⟨w.heap.size, 1, none⟩ = some (.slice x.a x.n x.c) ∧ w'.cell? ⟨w.heap.size, 2, none⟩ = some (.slice x.d x.m x.e) ∧ w'.cell? ⟨w.heap.size, 3, none⟩ = some (.bool y.b) ∧ w'.cell? ⟨w.heap.size, 4, none⟩ = some (.slice y.a y.n y.c) ∧ w'.cell? ⟨w.heap.size, 5, none⟩ = some (.slice y.d y.m y.e) ∧ w'.cell? ⟨w.heap.size + 1, 0, none⟩ = some (.bool x'.b) ∧ w'.cell? ⟨w.heap.size + 1, 1, none⟩ = some (.slice x'.a x'.n x'.c) ∧ w'.cell? ⟨w.heap.size + 1, 2, none⟩ = some (.slice x'.d x'.m x'.e) ∧ w'.cell? ⟨w.heap.size + 1, 3, none⟩ = some (.bool y'.b) ∧ w'.cell? ⟨w.heap.size + 1, 4, none⟩ = some (.slice y'.a y'.n y'.c) ∧ w'.cell? ⟨w.heap.size + 1, 5, none⟩ = some (.slice y'.d y'.m y'.e))) (by kernel_rfl) ⟨(Below.refl _ _).drew, x0, x1, x2, x3, x4, x5, y0, y1, y2, y3, y4, y5⟩ (fun hh => ?_)
 clear x0 x1 x2 x3 x4 x5 y0 y1 y2 y3 y4 y5
 refine iI (i := 0) (v := ?vp0) rfl (Or.inl ⟨by rfl, ?wM⟩) (by assumption) ?NU
 case wM => intro w hSw; (try dsimp only at hSw); (go_simp <;> with_reducible rfl)
 try simp only [ag]
 refine iI (i := 1) (v := ?vp1) rfl (Or.inl ⟨by rfl, ?rQ⟩) (by assumption) ?Hl
 case rQ => intro w hSw; (try dsimp only at hSw); (go_simp <;> with_reducible rfl)
 try simp only [ag]
 refine iI (i := 3) (v := ?vp3) rfl (Or.inl ⟨by rfl, ?Az⟩) (by assumption) ?U_
 case Az => intro w hSw; (try dsimp only at hSw); (go_simp <;> with_reducible rfl)
 try simp only [ag]
 refine iI (i := 6) (v := ?vp6) rfl (Or.inl ⟨by rfl, ?JC⟩) (by assumption) ?ae8
 case JC => intro w hSw; (try dsimp only at hSw); (go_simp <;> with_reducible rfl)
 try simp only [ag]
 refine iI (i := 7) (v := ?vp7) rfl (Or.inl ⟨by rfl, ?JD⟩) (by assumption) ?ae9
 case JD => intro w hSw; (try dsimp only at hSw); (go_simp <;> with_reducible rfl)
 try simp only [ag]
 refine iI (i := 9) (v := ?vp9) rfl (Or.inl ⟨by rfl, ?AA⟩) (by assumption) ?Va
 case AA => intro w hSw; (try dsimp only at hSw); (go_simp <;> with_reducible rfl)
 try simp only [ag]
 refine iI (i := 13) (v := ?avg) rfl (Or.inl ⟨by rfl, ?anG⟩) (by assumption) ?as4
 case anG => intro w hSw; (try dsimp only at hSw); (go_simp <;> with_reducible rfl)
 try simp only [ag]
 refine o8 (i := 2) rfl (fun K hK => ?_)
 go_simp
 go_wp2_with (go_at_call 47; (with_reducible refine (ny a0 a1 _ _ (HX.out.below HAD.out)).mono ?_); rintro e wA ⟨vA, rfl, hvA, ji⟩)
 refine hK.out _ _ (Nv N3.out ji hh) (fun hh => ?_)
 clear hK K
 try simp only [ag]
 have BA := ae (bt HAD.out ji)
 refine o8 (i := 4) rfl (fun K hK => ?_)
 go_simp
 go_wp2_with (go_at_call 47; (with_reducible refine (ny p0 p1 _ _ (HY.out.below BA.out)).mono ?_); rintro e wB ⟨vB, rfl, hvB, hbB⟩)
 refine hK.out _ _ (Nv N3.out hbB hh) (fun hh => ?_)
 clear hK K
 try simp only [ag]
 have BB := ae (bt BA.out hbB)
 refine o8 (i := 5) rfl (fun K hK => ?_)
 go_simp
 go_wp2_with (go_at_call 61; (with_reducible refine (IK a0 p0 _ _ _ (hvA.below hbB) hvB S1.out S2.out S3.out S4.out).mono ?_); rintro e wC ⟨vC, rfl, CX, hbC⟩)
 refine hK.out _ _ (Nv N3.out hbC hh) (fun hh => ?_)
 clear hK K
 try simp only [ag]
 have BC := ae (bt BB.out hbC)
 rw [HQ0.out] at CX
 refine o8 (i := 8) rfl (fun K hK => ?_)
 go_simp
 go_wp2_with (go_at_call 48; (with_reducible refine (oL a0 a1 _ _ (HX.out.below BC.out)).mono ?_); rintro e wD ⟨vD, rfl, EM, hbD⟩)
 refine hK.out _ _ (Nv N3.out hbD hh) (fun hh => ?_)
 clear hK K
 try simp only [ag]
 have BD := ae (bt BC.out hbD)
 refine o8 (i := 10) rfl (fun K hK => ?_)
 go_simp
 go_wp2_with (go_at_call 48; (with_reducible refine (oL p0 p1 _ _ (HY.out.below BD.out)).mono ?_); rintro e wF ⟨vF, rfl, UU, Ag⟩)
 refine hK.out _ _ (Nv N3.out Ag hh) (fun hh => ?_)
 clear hK K
 try simp only [ag]
 have BF := ae (bt BD.out Ag)
 refine o8 (i := 11) rfl (fun K hK => ?_)
 go_simp
 go_wp2_with (go_at_call 61; (with_reducible refine (IK a1 p1 _ _ _ (EM.below Ag) UU S5.out S6.out S7.out S8.out).mono ?_); rintro e wG ⟨vG, rfl, ZV, Jv⟩)
 refine hK.out _ _ (Nv N3.out Jv hh) (fun hh => ?_)
 clear hK K
 try simp only [ag]
 have BG := ae (bt BF.out Jv)
 rw [HQ1.out] at ZV
 refine o8 (i := 12) rfl (fun K hK => ?_)
 go_simp
 go_wp2_with (go_at_call 46; (with_reducible refine (Gp q0 q1 _ _ _ (CX.below (bt (bt hbD Ag) Jv)) ZV S12.out S13.out HCM.out).mono ?_); rintro e wI ⟨vI, rfl, UW, PN⟩)
 refine hK.out _ _ (Nv N3.out PN hh) (fun hh => ?_)
 clear hK K
 try simp only [ag]
 have BI := ae (bt BG.out PN)
 refine o8 (i := 14) rfl (fun K hK => ?_)
 go_simp
 go_wp2_with (go_at_call 13; (with_reducible refine (zh q0 q1 k HK.out z HZK.out _ _ UW S9.out S11.out).mono ?_); rintro e wJ ⟨vJ, rfl, hvJ, hbJ⟩)
 refine hK.out _ _ (Nv N3.out hbJ hh) (fun hh => ?_)
 clear hK K
 try simp only [ag]
 have BJ := ae (bt BI.out hbJ)
 obtain ⟨za, zb, rfl, hz1, hz2⟩ := hvJ
 have e0 : W.drew.heap[w.heap.size + 1 + 1]? = _ := HB3.out
 have eA := ay e0 ji (ai e0)
 have eB := ay eA hbB (ai eA)
 have eC := ay eB hbC (ai eB)
 have eD := ay eC hbD (ai eC)
 have eF := ay eD Ag (ai eD)
 have eG := ay eF Jv (ai eF)
 have eI := ay eG PN (ai eG)
 have eJ := ay eI hbJ (ai eI)
 have E : Hid (wJ.heap[w.heap.size + 1 + 1]? = some (.cells (aY dQ dQ) 43 (0, 0))) := eJ
 have HV1 := ae hz1
 have HV2 := ae hz2
 obtain ⟨g0, g1, g2, g3, g4, g5, f0, f1, f2, f3, f4, f5⟩ := dO (x := dQ) (y := dQ) E.out
 clear e0 eA eB eC eD eF eG eI eJ hz1 hz2
 refine o8 (i := 15) rfl (fun K hK => ?_)
 go_simp
 refine hK.out _ _ (aqZ (Nat.le_refl _) N0.out N0.out N0.out N0.out N0.out N0.out N1.out N1.out N1.out N1.out N1.out N1.out (pU (Below.refl _ _) (Nat.le_refl _)) hh) (fun hh => ?_)
 clear hK K
 try simp only [ag]
 refine wpAnyH_done (by kernel_rfl) ?_ _
 obtain ⟨h0, h1, h2, h3, h4, h5, _, _, _, _, _, _⟩ := dO (x := za) (y := zb) (kU (x := za) (y := zb) E.out)
 go_wp2_with fail
 refine bodyPost_ret (v := zg za zb) (by simp [results, Tryz.results29, go_sem, h0, h1, h2, h3, h4, h5]) rfl ⟨_, rfl, ⟨za, zb, rfl, aA.kU HV1.out E.out, aA.kU HV2.out E.out⟩, pU BJ.out (by omega)⟩
theorem Tf (lo hi : Rat) (v : Value) (w : World) (h : cZ w v lo hi) (h0 : 0 ≤ jG (decide (lo.num < 0)) lo.num.natAbs) (h1 : dN hi 1 ≤ 0) (s1 : bQ hi 274877906944) : Calls Tryz.prog 28 #[v] w (ja true w) := by
 have HR := ae h
 obtain ⟨x, y, rfl, _, _⟩ := h
 have c0 : decide (jG (decide (lo.num < 0)) lo.num.natAbs ≥ 0) = true := decide_eq_true h0
 have c1 : decide (dN hi 1 ≤ 0) = true := decide_eq_true h1
 have S1 := ae s1
 have H0 := ae h0
 have H1 := ae h1
 clear s1 h0 h1
 have S2 : Hid (bQ 1 274877906944) := jb _ (by omega)
 go_enter Tryz.func28, Tryz.ntmps28
 go_wp2_with fail
 have hal := gJ w (.cells (aY x y) 43)
 generalize hW0 : w.alloc (.cells (aY x y) 43) = W at *
 have hB : W.heap[w.heap.size]? = some (.cells (aY x y) 43 (0, 0)) := by rw [← hW0]; exact aV _ _ _
 have pI := ae hal
 clear hW0 hal
 refine (ny lo hi _ _ (HR.out.below pI.out)).mono ?_
 rintro e wA ⟨vA, rfl, hvA, ji⟩
 have BA := ae (bt pI.out ji)
 have eA := ay hB ji (ai hB)
 obtain ⟨a1, c1', a2, c2', rfl, _, _⟩ := hvA.opened
 clear hB hvA ji
 go_wp2_with fail
 refine (zX _ _ lo.num.natAbs _ _ _ _ _).mono ?_
 rintro e wB ⟨rfl, hbB⟩
 have BB := ae (bt BA.out hbB)
 have eB := ay eA hbB (ai eA)
 obtain ⟨x0, x1, x2, x3, x4, x5, _, _, _, _, _, _⟩ := dO (x := x) (y := y) eB
 clear eA hbB
 go_wp2_with fail
 refine (oL lo hi _ _ (HR.out.below BB.out)).mono ?_
 rintro e wC ⟨vC, rfl, CX, hbC⟩
 have BC := ae (bt BB.out hbC)
 clear x0 x1 x2 x3 x4 x5 eB
 go_wp2_with fail
 refine (one_any _).mono ?_
 rintro e wD ⟨vD, rfl, EM, hbD⟩
 have BD := ae (bt BC.out hbD)
 go_wp2_with fail
 refine (iM hi 1 _ _ _ (CX.below hbD) EM S1.out S2.out).mono ?_
 rintro e wE ⟨rfl, Aw⟩
 have BE := ae (bt BD.out Aw)
 clear CX EM hbC hbD Aw
 go_wp2_with fail
 go_ret
 exact ⟨by simp [c1], BE.out⟩
theorem adM (a0 a1 p0 p1 : Rat) (k : Nat) (vc vr : Value) (w : World) (hc : cZ w vc a0 a1) (hr : cZ w vr p0 p1) (q0 q1 : Rat)
  (P1 : Hid (∀ W v, cZ W v a0 a1 → Calls Tryz.prog 28 #[v] W (ja true W))) (P2 : Hid (∀ W v, cZ W v p0 p1 → Calls Tryz.prog 28 #[v] W (ja true W)))
  (HS : Hid (∀ W v u, cZ W v a0 a1 → cZ W u p0 p1 → Calls Tryz.prog 29 #[v, u, .int .i64 k] W (iK q0 q1 W))) :
  Calls Tryz.prog 16 #[vc, vr, .int .i64 k] w (I_ q0 q1 0 w) := by
 have HX := ae hc
 have HY := ae hr
 obtain ⟨x, y, rfl, _, _⟩ := hc
 obtain ⟨x', y', rfl, _, _⟩ := hr
 go_enter Tryz.func16, Tryz.ntmps16
 go_wp2_with fail
 generalize hW0 : ((w.alloc (.cells (aY x y) 43)).alloc (.cells (aY x' y') 43)).alloc (.cells _ _) = W at *
 obtain ⟨hal, hB1, hB2, hB3, hWs⟩ := YF w _ _ _ _ _ _ W hW0.symm
 have pI := ae hal
 clear hW0 hal hWs
 refine (P1.out _ _ (HX.out.below pI.out)).mono ?_
 rintro e wA ⟨rfl, hb⟩
 have e1 := ay hB1 hb (ai hB1)
 have e2 := ay hB2 hb (ai hB2)
 have e3 := ay hB3 hb (ai hB3)
 have BA := ae (bt pI.out hb)
 obtain ⟨y0, y1, y2, y3, y4, y5, _, _, _, _, _, _⟩ := dO (x := x') (y := y') e2
 clear hB1 hB2 hB3 hb
 go_wp2_with fail
 refine (P2.out _ _ (HY.out.below BA.out)).mono ?_
 rintro e wB ⟨rfl, hb⟩
 have f1 := ay e1 hb (ai e1)
 have f2 := ay e2 hb (ai e2)
 have f3 := ay e3 hb (ai e3)
 have BB := ae (bt BA.out hb)
 clear e1 e2 e3 hb y0 y1 y2 y3 y4 y5
 obtain ⟨x0, x1, x2, x3, x4, x5, _, _, _, _, _, _⟩ := dO (x := x) (y := y) f1
 obtain ⟨y0, y1, y2, y3, y4, y5, _, _, _, _, _, _⟩ := dO (x := x') (y := y') f2
 go_wp2_with fail
 refine (HS.out _ _ _ (HX.out.below BB.out) (HY.out.below BB.out)).mono ?_
 rintro e wC ⟨v, rfl, ⟨za, zb, rfl, hz1, hz2⟩, hb⟩
 have E : Hid (wC.heap[w.heap.size + 1 + 1]? = some (.cells (aY dQ dQ) 43 (0, 0))) := ay f3 hb (ai f3)
 have BC := ae (bt BB.out hb)
 have HV1 := ae hz1
 have HV2 := ae hz2
 clear x0 x1 x2 x3 x4 x5 y0 y1 y2 y3 y4 y5 f1 f2 f3 hz1 hz2 hb
 obtain ⟨g0, g1, g2, g3, g4, g5, f0, f1, f2, f3, f4, f5⟩ := dO (x := dQ) (y := dQ) E.out
 go_wp2_with fail
 obtain ⟨h0, h1, h2, h3, h4, h5, _, _, _, _, _, _⟩ := dO (x := za) (y := zb) (kU (x := za) (y := zb) E.out)
 refine bodyPost_ret (v := .tuple #[zg za zb, .int .i64 0]) (by simp [results, Tryz.results16, go_sem, h0, h1, h2, h3, h4, h5]) rfl ⟨_, rfl, ⟨za, zb, rfl, aA.kU HV1.out E.out, aA.kU HV2.out E.out⟩, pU BC.out (by omega)⟩
theorem acn : eP (qV (1 / 2)) = { data := #[49, 47, 50] } := by decide +kernel
theorem QS (v : Value) (w : World) (h : cZ w v (1 / 2) (1 / 2)) : Calls Tryz.prog 14 #[v] w (fun e w' => e = .returned (.string { data := #[91, 49, 47, 50, 44, 49, 47, 50, 93] }) ∧ Below w.heap.size w w') := by
 have HT : Hid (∀ W v, aA W v (1 / 2) → Calls Tryz.prog 26 #[v] W (fun e w' => e = .returned (.string { data := #[49, 47, 50] }) ∧ Below W.heap.size W w')) := fun W v h => by
  have := xC (1 / 2) v W h ⟨by decide +kernel, by decide +kernel⟩
  unfold Ja at this
  rw [acn] at this
  exact this
 obtain ⟨x, y, rfl, h1, h2⟩ := h
 have HX := ae h1
 have HY := ae h2
 clear h1 h2
 go_enter Tryz.func14, Tryz.ntmps14
 go_wp2_with fail
 have hal := gJ w (.cells (aY x y) 43)
 generalize hW0 : w.alloc (.cells (aY x y) 43) = W at *
 have hB : W.heap[w.heap.size]? = some (.cells (aY x y) 43 (0, 0)) := by rw [← hW0]; exact aV _ _ _
 obtain ⟨x0, x1, x2, y0, y1, y2, _, _, _, _, _, _⟩ := dO (x := x) (y := y) hB
 have HAD := ae hal.drew
 have N3 : Hid (w.heap.size ≤ W.heap.size) := hal.size
 clear hW0 hal hB
 refine wp_region_held_drew (S := (fun w' => Below (w.heap.size) W w' ∧ w'.cell? ⟨w.heap.size, 0, none⟩ = some (.bool x.b) ∧ w'.cell? ⟨w.heap.size, 1, none⟩ = some (.slice x.a x.n x.c) ∧ w'.cell? ⟨w.heap.size, 2, none⟩ = some (.slice x.d x.m x.e) ∧ w'.cell? ⟨w.heap.size, 3, none⟩ = some (.bool y.b) ∧ w'.cell? ⟨w.heap.size, 4, none⟩ = some (.slice y.a y.n y.c) ∧ w'.cell? ⟨w.heap.size, 5, none⟩ = some (.slice y.d y.m y.e))) (by kernel_rfl) ⟨(Below.refl _ _).drew, x0, x1, x2, y0, y1, y2⟩ (fun hh => ?_)
 clear x0 x1 x2 y0 y1 y2
 refine iI (i := 0) (v := ?vp0) rfl (Or.inl ⟨by rfl, ?wM⟩) (by assumption) ?NU
 case wM => intro w hSw; (try dsimp only at hSw); (go_simp <;> with_reducible rfl)
 try simp only [ag]
 refine iI (i := 1) (v := ?vp1) rfl (Or.inl ⟨by rfl, ?rQ⟩) (by assumption) ?Hl
 case rQ => intro w hSw; (try dsimp only at hSw); (go_simp <;> with_reducible rfl)
 try simp only [ag]
 refine iI (i := 5) (v := ?vp5) rfl (Or.inl ⟨by rfl, ?wP⟩) (by assumption) ?NW
 case wP => intro w hSw; (try dsimp only at hSw); (go_simp <;> with_reducible rfl)
 try simp only [ag]
 refine iI (i := 6) (v := ?vp6) rfl (Or.inl ⟨by rfl, ?JC⟩) (by assumption) ?ae8
 case JC => intro w hSw; (try dsimp only at hSw); (go_simp <;> with_reducible rfl)
 try simp only [ag]
 refine o8 (i := 2) rfl (fun K hK => ?_)
 go_simp
 go_wp2_with (go_at_call 26; (with_reducible refine (HT.out _ _ (HX.out.below HAD.out)).mono ?_); rintro e wA ⟨rfl, ji⟩)
 refine hK.out _ _ (kd6 N3.out ji hh) (fun hh => ?_)
 clear hK K
 try simp only [ag]
 have BA := ae (bt HAD.out ji)
 refine iI (i := 3) (v := ?vp3) rfl (Or.inl ⟨by rfl, ?Az⟩) (by assumption) ?U_
 case Az => intro w hSw; (try dsimp only at hSw); (go_simp <;> with_reducible rfl)
 try simp only [ag]
 refine iI (i := 4) (v := ?vp4) rfl (Or.inl ⟨by rfl, ?wO⟩) (by assumption) ?NV
 case wO => intro w hSw; (try dsimp only at hSw); (go_simp <;> with_reducible rfl)
 try simp only [ag]
 refine o8 (i := 7) rfl (fun K hK => ?_)
 go_simp
 go_wp2_with (go_at_call 26; (with_reducible refine (HT.out _ _ (HY.out.below BA.out)).mono ?_); rintro e wB ⟨rfl, hbB⟩)
 refine hK.out _ _ (kd6 N3.out hbB hh) (fun hh => ?_)
 clear hK K
 try simp only [ag]
 have BB := ae (bt BA.out hbB)
 refine iI (i := 8) (v := ?vp8) rfl (Or.inl ⟨by rfl, ?JE⟩) (by assumption) ?ae'
 case JE => intro w hSw; (try dsimp only at hSw); (go_simp <;> with_reducible rfl)
 try simp only [ag]
 refine iI (i := 9) (v := ?vp9) rfl (Or.inl ⟨by rfl, ?AA⟩) (by assumption) ?Va
 case AA => intro w hSw; (try dsimp only at hSw); (go_simp <;> with_reducible rfl)
 try simp only [ag]
 refine iI (i := 10) (v := ?akB) rfl (Or.inl ⟨by rfl, ?EN⟩) (by assumption) ?aaS
 case EN => intro w hSw; (try dsimp only at hSw); (go_simp <;> with_reducible rfl)
 try simp only [ag]
 refine wpAnyH_done (by kernel_rfl) ?_ _
 have hst : (({ data := #[91] } ++ { data := #[49, 47, 50] } ++ { data := #[44] } ++ { data := #[49, 47, 50] } ++ { data := #[93] } : ByteArray)) = { data := #[91, 49, 47, 50, 44, 49, 47, 50, 93] } := by decide +kernel
 go_wp2_with fail
 go_ret
 exact ⟨by rw [hst]; rfl, BB.out⟩
def afB : Ru := ⟨1, 2, 1, 1, 0, 0, 0, 2, 0, 0, 0, 0, 0⟩
theorem ajP : aav afB [1, 0, 2, 0, 3, 0, 0, 0] = (⟨5, 0, 0, 0, false, false, false, false⟩, 8, 0) := by kernel_rfl
theorem Us : gK (1 / 2) 4 = 1 / 2 := by decide +kernel
theorem afG : yu (1 / 2) 4 = 1 / 2 := by decide +kernel
theorem UZ (w : World) (a b c d e f g h : Int) (t : TypeId) : yL (w.alloc (.cells #[.int .i64 a, .int .i64 b, .int .i64 c, .int .i64 d, .int .i64 e, .int .i64 f, .int .i64 g, .int .i64 h] t)) (.slice (some ⟨w.heap.size, 0, none⟩) 8 8) [a, b, c, d, e, f, g, h] := by
 have hB := aV w #[.int .i64 a, .int .i64 b, .int .i64 c, .int .i64 d, .int .i64 e, .int .i64 f, .int .i64 g, .int .i64 h] t
 refine ⟨_, 8, rfl, fun _ => ⟨w.heap.size, 0, rfl, ai hB, fun i hi => ?_⟩⟩
 match i, hi with
 | 0, _ => exact af hB 0 _ rfl
 | 1, _ => exact af hB 1 _ rfl
 | 2, _ => exact af hB 2 _ rfl
 | 3, _ => exact af hB 3 _ rfl
 | 4, _ => exact af hB 4 _ rfl
 | 5, _ => exact af hB 5 _ rfl
 | 6, _ => exact af hB 6 _ rfl
 | 7, _ => exact af hB 7 _ rfl
 | i + 8, hi => simp at hi; omega
theorem qX (w : World) : Calls Tryz.prog 4 #[] w (ja true w) := by
 have HP : Hid (∀ W v, cZ W v 0 0 → Calls Tryz.prog 28 #[v] W (ja true W)) := fun W v h => Tf 0 0 v W h (by decide +kernel) (by decide +kernel) ⟨by decide +kernel, by decide +kernel⟩
 have HP2 : Hid (∀ W v, cZ W v (1 / 2) (1 / 2) → Calls Tryz.prog 28 #[v] W (ja true W)) := fun W v h => Tf _ _ v W h (by decide +kernel) (by decide +kernel) ⟨by decide +kernel, by decide +kernel⟩
 have HS : Hid (∀ W v u, cZ W v 0 0 → cZ W u (1 / 2) (1 / 2) → Calls Tryz.prog 29 #[v, u, .int .i64 (4 : Nat)] W (iK (1 / 2) (1 / 2) W)) := fun W v u h1 h2 => by
  have := Oj 0 0 (1 / 2) (1 / 2) 4 (by omega) 4 (by decide) v u W h1 h2 (1 / 2) (1 / 2) (by decide +kernel) (by decide +kernel) ⟨by decide +kernel, by decide +kernel⟩ ⟨by decide +kernel, by decide +kernel⟩ ⟨by decide +kernel, by decide +kernel⟩ ⟨by decide +kernel, by decide +kernel⟩ ⟨by decide +kernel, by decide +kernel⟩ ⟨by decide +kernel, by decide +kernel⟩ ⟨by decide +kernel, by decide +kernel⟩ ⟨by decide +kernel, by decide +kernel⟩ ⟨by decide +kernel, by decide +kernel⟩ ⟨by decide +kernel, by decide +kernel⟩ ⟨by decide +kernel, by decide +kernel⟩ (by decide +kernel)
  rw [Us, afG] at this
  exact this
 have HST : Hid (∀ W v u, cZ W v 0 0 → cZ W u (1 / 2) (1 / 2) → Calls Tryz.prog 16 #[v, u, .int .i64 4] W (I_ (1 / 2) (1 / 2) 0 W)) := fun W v u h1 h2 => adM 0 0 (1 / 2) (1 / 2) 4 v u W h1 h2 _ _ HP HP2 HS
 have HPL : Hid (∀ W v, yL W v [1, 0, 2, 0, 3, 0, 0, 0] → Calls Tryz.prog 17 #[rZ afB, v] W (RF (⟨5, 0, 0, 0, false, false, false, false⟩, 8, 0) W)) := fun W v h => by
  rw [← ajP]
  exact Xp afB _ v W h
 go_enter Tryz.func4, Tryz.ntmps4
 go_wp2_with fail
 refine (new_any 1 2 _ (by omega) (by omega) (by omega) (by omega) (by omega)).mono ?_
 rintro e w1 h1
 have h1' : ∃ v, e = .returned (.tuple #[v, .int .i64 0]) ∧ aA w1 v (1 / 2) ∧ Below w.heap.size w w1 := h1
 obtain ⟨v, rfl, hv, hb1⟩ := h1'
 obtain ⟨x, rfl⟩ := hv.bn
 have HV := ae (hv.below (gJ w1 (.cells x.arr 40)))
 have B1 := ae (ba (o := .cells x.arr 40) hb1)
 clear h1 hv hb1
 go_wp2_with fail
 refine (F_ (1 / 2) _ _ HV.out).mono ?_
 rintro e w2 ⟨v, rfl, hv, hb2⟩
 have B2 := ae (bt B1.out hb2)
 clear hb2
 go_wp2_with fail
 refine (HST.out _ _ _ ⟨dQ, dQ, rfl, aA.zero _, aA.zero _⟩ hv).mono ?_
 rintro e w3 ⟨v3, rfl, ⟨za, zb, rfl, hz1, hz2⟩, hb3⟩
 have B3 := ae (ba (o := .cells (aY za zb) 43) (bt B2.out hb3))
 have HZ : Hid (cZ (w3.alloc (.cells (aY za zb) 43)) (zg za zb) (1 / 2) (1 / 2)) := ⟨za, zb, rfl, hz1.below (gJ _ _), hz2.below (gJ _ _)⟩
 have E3 := ae (aV w3 (aY za zb) 43)
 clear hv hb3 hz1 hz2
 go_wp2_with fail
 have HI := UZ ((w3.alloc (.cells (aY za zb) 43)).alloc (.cells (yF afB) 63)) 1 0 2 0 3 0 0 0 3
 rw [World.size_alloc, World.size_alloc] at HI
 refine (HPL.out _ _ HI).mono ?_
 rintro e w4 ⟨rfl, hb4⟩
 have h5 : Below (w3.alloc (.cells (aY za zb) 43)).heap.size (w3.alloc (.cells (aY za zb) 43)) (w4.alloc (.cells (zf ⟨5, 0, 0, 0, false, false, false, false⟩) 66)) := ba (bt (below2 _ _ _) hb4)
 have E5 := ay E3.out h5 (ai E3.out)
 have HZ5 := ae (HZ.out.below h5)
 have B5 := ae (bt B3.out h5)
 obtain ⟨x0, x1, x2, x3, x4, x5, _, _, _, _, _, _⟩ := dO (x := za) (y := zb) E5
 clear HI h5 E5 hb4
 go_wp2_with fail
 refine (QS _ _ HZ5.out).mono ?_
 rintro e w6 ⟨rfl, hb6⟩
 have E6 := ay (aV w4 (zf ⟨5, 0, 0, 0, false, false, false, false⟩) 66) hb6 (by rw [World.size_alloc]; omega)
 have B6 := ae (bt B5.out hb6)
 obtain ⟨g0, _, _, _, _, _, _, _⟩ := rY E6
 clear x0 x1 x2 x3 x4 x5 hb6 E6
 go_wp2_with fail
 go_ret
 exact ⟨rfl, B6.out⟩
def g_ (lo hi : Rat) : Bool := decide (0 ≤ jG (decide (lo.num < 0)) lo.num.natAbs) && decide (dN hi 1 ≤ 0)
theorem KJ (q : Rat) : decide (0 ≤ jG (decide (q.num < 0)) q.num.natAbs) = decide (0 ≤ q) := by
 have h := acb q
 have e : (q.num < 0) ↔ q < 0 := by rw [Rat.lt_iff]; simp
 rw [decide_eq_decide] at h ⊢
 constructor
 ·
  intro h1
  have : ¬ q < 0 := fun h2 => by have := h.2 (e.2 h2); omega
  grind
 ·
  intro h1
  have : ¬ q.num < 0 := fun h2 => by have := e.1 h2; grind
  have h3 := fun h4 => this (h.1 h4)
  omega
theorem tu (lo hi : Rat) (v : Value) (w : World) (h : cZ w v lo hi) (s1 : bQ hi 274877906944) : Calls Tryz.prog 28 #[v] w (ja (g_ lo hi) w) := by
 have HR := ae h
 obtain ⟨x, y, rfl, _, _⟩ := h
 have S1 := ae s1
 have HF : Hid (g_ lo hi = (decide (0 ≤ jG (decide (lo.num < 0)) lo.num.natAbs) && decide (dN hi 1 ≤ 0))) := rfl
 clear s1
 have S2 : Hid (bQ 1 274877906944) := jb _ (by omega)
 go_enter Tryz.func28, Tryz.ntmps28
 go_wp2_with fail
 have hal := gJ w (.cells (aY x y) 43)
 generalize hW0 : w.alloc (.cells (aY x y) 43) = W at *
 have hB : W.heap[w.heap.size]? = some (.cells (aY x y) 43 (0, 0)) := by rw [← hW0]; exact aV _ _ _
 have pI := ae hal
 clear hW0 hal
 refine (ny lo hi _ _ (HR.out.below pI.out)).mono ?_
 rintro e wA ⟨vA, rfl, hvA, ji⟩
 have BA := ae (bt pI.out ji)
 have eA := ay hB ji (ai hB)
 have HVA := ae hvA
 obtain ⟨zA, rfl⟩ := hvA.bn
 clear hB hvA ji
 go_wp2_with fail
 refine (AZ lo _ _ HVA.out).mono ?_
 rintro e wB ⟨rfl, hbB⟩
 have BB := ae (bt BA.out hbB)
 have eB := ay eA hbB (ai eA)
 obtain ⟨x0, x1, x2, x3, x4, x5, _, _, _, _, _, _⟩ := dO (x := x) (y := y) eB
 clear eA hbB eB HVA
 generalize jG (decide (lo.num < 0)) lo.num.natAbs = sg at *
 by_cases c0 : 0 ≤ sg
 ·
  have t0 : decide (sg ≥ 0) = true := decide_eq_true c0
  have HF2 : Hid (g_ lo hi = decide (dN hi 1 ≤ 0)) := by show _ = _; rw [HF.out, decide_eq_true c0]; rfl
  clear c0 HF
  go_wp2_with fail
  refine (oL lo hi _ _ (HR.out.below BB.out)).mono ?_
  rintro e wC ⟨vC, rfl, CX, hbC⟩
  have BC := ae (bt BB.out hbC)
  have HVC := ae CX
  clear x0 x1 x2 x3 x4 x5 CX hbC
  go_wp2_with fail
  refine (one_any _).mono ?_
  rintro e wD ⟨vD, rfl, EM, hbD⟩
  have BD := ae (bt BC.out hbD)
  replace HVC := ae (HVC.out.below hbD)
  have HVD := ae EM
  clear EM hbD
  go_wp2_with fail
  refine (iM hi 1 _ _ _ HVC.out HVD.out S1.out S2.out).mono ?_
  rintro e wE ⟨rfl, Aw⟩
  have BE := ae (bt BD.out Aw)
  clear Aw
  go_wp2_with fail
  go_ret
  exact ⟨by rw [HF2.out]; simp, BE.out⟩
 ·
  have t0 : decide (sg ≥ 0) = false := decide_eq_false c0
  have HF2 : Hid (g_ lo hi = false) := by show _ = _; rw [HF.out, decide_eq_false c0]; rfl
  clear c0 HF
  go_wp2_with fail
  go_ret
  exact ⟨by rw [HF2.out]; rfl, BB.out⟩
theorem Kz {a r : Rat} (h1 : bQ a 10000) (h2 : bQ r 10000) : bQ (a + r * (1 - a)) 1000000 := aj (lN h1 (gZ h2 (oP (jb 1 (by omega)) h1))) (by omega)
abbrev lD := Int × Rat × Rat
def adE (R : World → Value → Rat → Prop) (w : World) (b o : Nat) (e : lD) : Prop :=
 ∃ x y : R3, w.cell? ⟨b, o, none⟩ = some (.int .i64 e.1) ∧ w.cell? ⟨b, o + 1, none⟩ = some (.bool x.b) ∧ w.cell? ⟨b, o + 2, none⟩ = some (.slice x.a x.n x.c) ∧ w.cell? ⟨b, o + 3, none⟩ = some (.slice x.d x.m x.e) ∧ w.cell? ⟨b, o + 4, none⟩ = some (.bool y.b) ∧ w.cell? ⟨b, o + 5, none⟩ = some (.slice y.a y.n y.c) ∧ w.cell? ⟨b, o + 6, none⟩ = some (.slice y.d y.m y.e) ∧ R w x.val e.2.1 ∧ R w y.val e.2.2
def kN (R : World → Value → Rat → Prop) (w : World) (v : Value) (es : List lD) : Prop :=
 ∃ ao cap, v = .slice ao es.length cap ∧ (0 < es.length → ∃ b off, ao = some ⟨b, off, none⟩ ∧ b < w.heap.size ∧ ∀ i, i < es.length → adE R w b (off + i * 7) (es.getD i (0, 0, 0)))
theorem adE.below {R : World → Value → Rat → Prop} (hR : ∀ w w' v q, R w v q → Below w.heap.size w w' → R w' v q) {w w' : World} {b o : Nat} {e : lD} (h : adE R w b o e) (hb : Below w.heap.size w w') (hl : b < w.heap.size) : adE R w' b o e := by
 obtain ⟨x, y, h0, h1, h2, h3, h4, h5, h6, h7, h8⟩ := h
 have c : ∀ j v, w.cell? ⟨b, j, none⟩ = some v → w'.cell? ⟨b, j, none⟩ = some v := fun j v h => (hb.cell (p := ⟨b, j, none⟩) hl).trans h
 exact ⟨x, y, c _ _ h0, c _ _ h1, c _ _ h2, c _ _ h3, c _ _ h4, c _ _ h5, c _ _ h6, hR _ _ _ _ h7 hb, hR _ _ _ _ h8 hb⟩
theorem kN.below {R : World → Value → Rat → Prop} (hR : ∀ w w' v q, R w v q → Below w.heap.size w w' → R w' v q) {w w' : World} {v : Value} {es : List lD} (h : kN R w v es) (hb : Below w.heap.size w w') : kN R w' v es := by
 obtain ⟨ao, cap, rfl, h⟩ := h
 refine ⟨ao, cap, rfl, fun hl => ?_⟩
 obtain ⟨b, off, rfl, hlt, h⟩ := h hl
 exact ⟨b, off, rfl, Nat.lt_of_lt_of_le hlt hb.size, fun i hi => (h i hi).below hR hb hlt⟩
def o9 (R : World → Value → Rat → Prop) (w : World) (xs : List Value) (es : List lD) : Prop :=
 xs.length = es.length * 7 ∧ ∀ j, j < es.length → ∃ x y : R3, xs[j * 7]? = some (.int .i64 (es.getD j (0, 0, 0)).1) ∧ xs[j * 7 + 1]? = some (.bool x.b) ∧ xs[j * 7 + 2]? = some (.slice x.a x.n x.c) ∧ xs[j * 7 + 3]? = some (.slice x.d x.m x.e) ∧ xs[j * 7 + 4]? = some (.bool y.b) ∧ xs[j * 7 + 5]? = some (.slice y.a y.n y.c) ∧ xs[j * 7 + 6]? = some (.slice y.d y.m y.e) ∧ R w x.val (es.getD j (0, 0, 0)).2.1 ∧ R w y.val (es.getD j (0, 0, 0)).2.2
theorem o9.mono {R : World → Value → Rat → Prop} {w w' : World} {xs : List Value} {es : List lD} (h : o9 R w xs es) (hr : ∀ v q, R w v q → R w' v q) : o9 R w' xs es :=
 ⟨h.1, fun j hj => by obtain ⟨x, y, h0, h1, h2, h3, h4, h5, h6, h7, h8⟩ := h.2 j hj; exact ⟨x, y, h0, h1, h2, h3, h4, h5, h6, hr _ _ h7, hr _ _ h8⟩⟩
theorem o9.nil (R : World → Value → Rat → Prop) (w : World) : o9 R w [] [] := ⟨rfl, fun j hj => absurd hj (by simp)⟩
theorem o9.snoc {R : World → Value → Rat → Prop} {w : World} {xs : List Value} {es : List lD} (h : o9 R w xs es) {f : Int} {x y : R3} {lo hi : Rat} (h1 : R w x.val lo) (h2 : R w y.val hi) :
  o9 R w (xs ++ [.int .i64 f, .bool x.b, .slice x.a x.n x.c, .slice x.d x.m x.e, .bool y.b, .slice y.a y.n y.c, .slice y.d y.m y.e]) (es ++ [(f, lo, hi)]) := by
 obtain ⟨hl, h⟩ := h
 refine ⟨by simp [hl]; omega, fun j hj => ?_⟩
 rcases Nat.lt_or_ge j es.length with hj1 | hj1
 ·
  obtain ⟨x', y', g0, g1, g2, g3, g4, g5, g6, g7, g8⟩ := h j hj1
  have e : ∀ k, k < 7 → (xs ++ [.int .i64 f, .bool x.b, .slice x.a x.n x.c, .slice x.d x.m x.e, .bool y.b, .slice y.a y.n y.c, .slice y.d y.m y.e])[j * 7 + k]? = xs[j * 7 + k]? := fun k hk => List.getElem?_append_left (by omega)
  have e2 : (es ++ [(f, lo, hi)]).getD j (0, 0, 0) = es.getD j (0, 0, 0) := by simp [List.getD, List.getElem?_append_left hj1]
  rw [e2]
  exact ⟨x', y', by rw [← g0]; exact e 0 (by omega), by rw [← g1]; exact e 1 (by omega), by rw [← g2]; exact e 2 (by omega), by rw [← g3]; exact e 3 (by omega), by rw [← g4]; exact e 4 (by omega), by rw [← g5]; exact e 5 (by omega), by rw [← g6]; exact e 6 (by omega), g7, g8⟩
 ·
  obtain rfl : j = es.length := by simp at hj; omega
  have e : ∀ k, (xs ++ [.int .i64 f, .bool x.b, .slice x.a x.n x.c, .slice x.d x.m x.e, .bool y.b, .slice y.a y.n y.c, .slice y.d y.m y.e])[es.length * 7 + k]? = ([.int .i64 f, .bool x.b, .slice x.a x.n x.c, .slice x.d x.m x.e, .bool y.b, .slice y.a y.n y.c, .slice y.d y.m y.e] : List Value)[k]? := fun k => by rw [List.getElem?_append_right (by omega), hl]; congr 1; omega
  have e2 : (es ++ [(f, lo, hi)]).getD es.length (0, 0, 0) = (f, lo, hi) := by simp [List.getD]
  rw [e2]
  exact ⟨x, y, e 0, e 1, e 2, e 3, e 4, e 5, e 6, h1, h2⟩
theorem kN.ofRow {R : World → Value → Rat → Prop} {w : World} {base : Nat} {e : TypeId} {v : Value} {xs : List Value} {es : List lD} (h : dL w base e 7 v es.length xs) (ht : o9 R w xs es) : kN R w v es := by
 rcases Nat.eq_zero_or_pos es.length with h0 | hp
 ·
  rcases h.1.2 with ⟨rfl, _⟩ | ⟨g, cap, cur, rfl, _⟩
  · exact ⟨none, 0, by rw [h0], fun h => absurd h (by omega)⟩
  · exact ⟨_, _, rfl, fun h => absurd h (by omega)⟩
 ·
  obtain ⟨g, cap, rfl⟩ := ownsRow_some h.1 hp
  have hc : ∀ j u, xs[j]? = some u → w.cell? ((⟨g, 0, none⟩ : Addr).add j) = some u := h.1.cells (g := g) rfl
  have hlt : g < w.heap.size := (h.lt rfl).1
  refine ⟨_, _, rfl, fun _ => ⟨g, 0, rfl, hlt, fun i hi => ?_⟩⟩
  obtain ⟨x, y, h0, h1, h2, h3, h4, h5, h6, h7, h8⟩ := ht.2 i hi
  have ea : ∀ j, (⟨g, 0, none⟩ : Addr).add j = ⟨g, 0 + j, none⟩ := fun j => by unfold Addr.add; split <;> simp_all
  have ec : ∀ k u, xs[i * 7 + k]? = some u → w.cell? ⟨g, 0 + i * 7 + k, none⟩ = some u := fun k u h => by rw [show 0 + i * 7 + k = 0 + (i * 7 + k) by omega, ← ea]; exact hc _ _ h
  exact ⟨x, y, ec 0 _ h0, ec 1 _ h1, ec 2 _ h2, ec 3 _ h3, ec 4 _ h4, ec 5 _ h5, ec 6 _ h6, h7, h8⟩
abbrev Xr := Int × (Int × Int) × (Int × Int)
def Ry (w : World) (b o : Nat) (r : Xr) : Prop :=
 w.cell? ⟨b, o, none⟩ = some (.int .i64 r.1) ∧ w.cell? ⟨b, o + 1, none⟩ = some (.int .i64 r.2.1.1) ∧ w.cell? ⟨b, o + 2, none⟩ = some (.int .i64 r.2.1.2) ∧ w.cell? ⟨b, o + 3, none⟩ = some (.int .i64 r.2.2.1) ∧ w.cell? ⟨b, o + 4, none⟩ = some (.int .i64 r.2.2.2)
def OI (w : World) (v : Value) (rs : List Xr) : Prop :=
 ∃ ao cap, v = .slice ao rs.length cap ∧ (0 < rs.length → ∃ b off, ao = some ⟨b, off, none⟩ ∧ b < w.heap.size ∧ ∀ i, i < rs.length → Ry w b (off + i * 5) (rs.getD i (0, (0, 0), (0, 0))))
theorem Ry.below {w w' : World} {b o : Nat} {r : Xr} {n : Nat} (h : Ry w b o r) (hb : Below n w w') (hl : b < n) : Ry w' b o r := by
 obtain ⟨h0, h1, h2, h3, h4⟩ := h
 have c : ∀ j v, w.cell? ⟨b, j, none⟩ = some v → w'.cell? ⟨b, j, none⟩ = some v := fun j v h => (hb.cell (p := ⟨b, j, none⟩) hl).trans h
 exact ⟨c _ _ h0, c _ _ h1, c _ _ h2, c _ _ h3, c _ _ h4⟩
theorem OI.below {w w' : World} {v : Value} {rs : List Xr} (h : OI w v rs) (hb : Below w.heap.size w w') : OI w' v rs := by
 obtain ⟨ao, cap, rfl, h⟩ := h
 refine ⟨ao, cap, rfl, fun hl => ?_⟩
 obtain ⟨b, off, rfl, hlt, h⟩ := h hl
 exact ⟨b, off, rfl, Nat.lt_of_lt_of_le hlt hb.size, fun i hi => (h i hi).below hb hlt⟩
def hiE (r : Xr) : Rat := qU (zJ r.2.1.1 r.2.1.2) (zJ r.2.2.1 r.2.2.2)
def p_ (es : List lD) (t : Rat) : Nat → Rat × Rat
 | 0 => (0, 0)
 | i + 1 => if dN ((es.getD i (0, 0, 0)).1 : Rat) t ≤ 0 then (es.getD i (0, 0, 0)).2 else p_ es t i
def fJ (es : List lD) (t : Rat) : Rat × Rat := p_ es t es.length
def Pq (es : List lD) : Prop := ∀ i, i < es.length → -9223372036854775808 ≤ (es.getD i (0, 0, 0)).1 ∧ (es.getD i (0, 0, 0)).1 ≤ 9223372036854775807
def Jq (es : List lD) : Prop := ∀ i, bQ (es.getD i (0, 0, 0)).2.1 10000 ∧ bQ (es.getD i (0, 0, 0)).2.2 10000
theorem ZY (n : Int) (h1 : -9223372036854775808 ≤ n) (h2 : n ≤ 9223372036854775807) (k : Nat) (hk : 1 ≤ k) : bQ (n : Rat) k := aj (uK (k := 1) (by unfold ak; omega) (by omega)) hk
theorem KF (es : List lD) (t : Rat) (i : Nat) : (p_ es t (i + 1)).1 = if dN ((es.getD i (0, 0, 0)).1 : Rat) t ≤ 0 then (es.getD i (0, 0, 0)).2.1 else (p_ es t i).1 := by
 show (if dN ((es.getD i (0, 0, 0)).1 : Rat) t ≤ 0 then (es.getD i (0, 0, 0)).2 else p_ es t i).1 = _
 split <;> rfl
theorem QR (es : List lD) (t : Rat) (i : Nat) : (p_ es t (i + 1)).2 = if dN ((es.getD i (0, 0, 0)).1 : Rat) t ≤ 0 then (es.getD i (0, 0, 0)).2.2 else (p_ es t i).2 := by
 show (if dN ((es.getD i (0, 0, 0)).1 : Rat) t ≤ 0 then (es.getD i (0, 0, 0)).2 else p_ es t i).2 = _
 split <;> rfl
theorem TL {es : List lD} (h : Jq es) (t : Rat) : ∀ n, bQ (p_ es t n).1 10000 ∧ bQ (p_ es t n).2 10000
 | 0 => ⟨h_ _ (by omega), h_ _ (by omega)⟩
 | n + 1 => by
  unfold p_
  split
  · exact h n
  · exact TL h t n
theorem x9 {es : List lD} (h : Jq es) (t : Rat) : bQ (fJ es t).1 10000 ∧ bQ (fJ es t).2 10000 := TL h t es.length
theorem kN.bP {w w' : World} {v : Value} {es : List lD} (h : kN aA w v es) (hb : Below w.heap.size w w') : kN aA w' v es := h.below (fun _ _ _ _ h hb => h.below hb) hb
theorem nS.bP {w w' : World} {v : Value} {es : List Rat} (h : nS aA w v es) (hb : Below w.heap.size w w') : nS aA w' v es := h.below (fun _ _ _ _ h hb => h.below hb) hb
theorem Ie (es : List lD) (t : Rat) (vt vx : Value) (w : World) (ht : kN aA w vt es) (hx : aA w vx t) (hl : es.length ≤ 1000) (hI : Pq es) (hZ : Jq es) (s1 : bQ t 10000) :
  Calls Tryz.prog 72 #[vt, vx] w (iK (fJ es t).1 (fJ es t).2 w) := by
 obtain ⟨x1, rfl⟩ := hx.bn
 have HS := ae ((Sx.init w).az hx)
 have HI := ae hI
 have HZ := ae hZ
 have S1 := ae s1
 obtain ⟨ao, cap, rfl, hE⟩ := ht
 have HE := ae hE
 clear hE hx hI hZ s1
 go_enter Tryz.func72, Tryz.ntmps72
 go_wp2_with fail
 generalize hW1 : (((w).alloc (.cells _ _)).alloc (.cells _ _)).alloc (.cells _ _) = W1 at *
 replace HS : Hid (Sx w W1 [(w.heap.size + 2, #[.bool false, .slice none 0 0, .slice none 0 0, .bool false, .slice none 0 0, .slice none 0 0], 43), (w.heap.size + 1, #[.bool false, .slice none 0 0, .slice none 0 0, .bool false, .slice none 0 0, .slice none 0 0], 43), (w.heap.size, x1.arr, 40)] [(true, x1.val, t)]) := by subst hW1; exact (((HS.out).alloc (B := w.heap.size) rfl (by rfl)).alloc (B := w.heap.size + 1) (by simp) (by rfl)).alloc (B := w.heap.size + 2) (by simp) (by rfl)
 clear hW1
 go_loopw [10] (fun u10 wr => ∃ (i : Nat) (y1 y2 : R3), i ≤ es.length ∧ u10 = .int .i64 i ∧ Hid (Sx w wr [(w.heap.size + 2, aY y1 y2, 43), (w.heap.size + 1, #[.bool false, .slice none 0 0, .slice none 0 0, .bool false, .slice none 0 0, .slice none 0 0], 43), (w.heap.size, x1.arr, 40)] [(true, y2.val, (p_ es t i).2), (true, y1.val, (p_ es t i).1), (true, x1.val, t)]))
  (fun u _ => es.length - (intOf u).toNat)
 case atStart => exact ⟨0, dQ, dQ, Nat.zero_le _, rfl, ae ((((HS.out.bare).az (HS.out.p 0 _ _ rfl)).az (xU _)).az (xU _))⟩
 case round =>
  obtain ⟨wr2, hwr2⟩ : ∃ z, z = wr := ⟨_, rfl⟩
  subst hwr2
  clear HS
  obtain ⟨i, y1, y2, hi, rfl, HS⟩ := hrel
  by_cases hlt : i < es.length
  ·
   have hlt' : (i : Int) < es.length := by omega
   have hge' : (0 : Int) ≤ i := by omega
   have gq := ae hlt
   obtain ⟨b, off, rfl, hbl, hEE⟩ := HE.out (by omega)
   have fU := ae hbl
   clear hbl
   obtain ⟨Ex, Ey, Eg0, Eg1, Eg2, Eg3, Eg4, Eg5, Eg6, Eh1, Eh2⟩ := hEE i hlt
   have E0 := ae Eg0
   have E1 := ae Eg1
   have E2 := ae Eg2
   have E3 := ae Eg3
   have E4 := ae Eg4
   have E5 := ae Eg5
   have E6 := ae Eg6
   clear Eg0 Eg1 Eg2 Eg3 Eg4 Eg5 Eg6
   replace HS := ae ((HS.out.az (Eh1.below HS.out.bel)).az (Eh2.below HS.out.bel))
   clear Eh1 Eh2
   have HF1 := ae (KF es t i)
   have HF2 := ae (QR es t i)
   have HII := ae (HI.out i hlt)
   clear hEE hlt
   generalize (es.getD i (0, 0, 0)).1 = f at *
   generalize (es.getD i (0, 0, 0)).2.1 = lo at *
   generalize (es.getD i (0, 0, 0)).2.2 = hi at *
   obtain ⟨hf1, hf2⟩ := HII.out
   have Ec0 := (HS.out.bel.cell (p := ⟨b, off + i * 7, none⟩) fU.out).trans E0.out
   have Ec1 := (HS.out.bel.cell (p := ⟨b, off + i * 7 + 1, none⟩) fU.out).trans E1.out
   have Ec2 := (HS.out.bel.cell (p := ⟨b, off + i * 7 + 2, none⟩) fU.out).trans E2.out
   have Ec3 := (HS.out.bel.cell (p := ⟨b, off + i * 7 + 3, none⟩) fU.out).trans E3.out
   have Ec4 := (HS.out.bel.cell (p := ⟨b, off + i * 7 + 4, none⟩) fU.out).trans E4.out
   have Ec5 := (HS.out.bel.cell (p := ⟨b, off + i * 7 + 5, none⟩) fU.out).trans E5.out
   have Ec6 := (HS.out.bel.cell (p := ⟨b, off + i * 7 + 6, none⟩) fU.out).trans E6.out
   go_wp2_with fail
   clear Ec0 Ec1 Ec2 Ec3 Ec4 Ec5 Ec6
   generalize hW3 : (wr2).alloc (.cells _ _) = W3 at *
   replace HS : Hid (Sx w W3 [(wr2.heap.size, #[.int .i64 f, .bool Ex.b, .slice Ex.a Ex.n Ex.c, .slice Ex.d Ex.m Ex.e, .bool Ey.b, .slice Ey.a Ey.n Ey.c, .slice Ey.d Ey.m Ey.e], 74), (w.heap.size + 2, aY y1 y2, 43), (w.heap.size + 1, #[.bool false, .slice none 0 0, .slice none 0 0, .bool false, .slice none 0 0, .slice none 0 0], 43), (w.heap.size, x1.arr, 40)] [(true, Ey.val, hi), (true, Ex.val, lo), (true, y2.val, (p_ es t i).2), (true, y1.val, (p_ es t i).1), (true, x1.val, t)]) := by subst hW3; exact (HS.out).alloc (B := wr2.heap.size) rfl (by rfl)
   clear hW3
   refine wp_region_held_drew (S := (fun w' => Sx w w' [(wr2.heap.size, #[.int .i64 f, .bool Ex.b, .slice Ex.a Ex.n Ex.c, .slice Ex.d Ex.m Ex.e, .bool Ey.b, .slice Ey.a Ey.n Ey.c, .slice Ey.d Ey.m Ey.e], 74), (w.heap.size + 2, aY y1 y2, 43), (w.heap.size + 1, #[.bool false, .slice none 0 0, .slice none 0 0, .bool false, .slice none 0 0, .slice none 0 0], 43), (w.heap.size, x1.arr, 40)] [])) (by kernel_rfl) ((HS.out.drew).bare) (fun hh => ?_)
   replace HS := ae HS.out.drew
   refine bW (i := 0) (v := ?akT) rfl (Or.inl ⟨by first | rfl | kernel_rfl, ?P8⟩) (by assumption) ?akp
   case P8 => (intro u aH; (go_simp <;> with_reducible rfl))
   try simp only [ag]
   refine bW (i := 1) (v := ?akU) rfl (Or.inl ⟨by first | rfl | kernel_rfl, ?P9⟩) (by assumption) ?akq
   case P9 => (intro u aH; (try dsimp only at aH); have zU := (aH.at 0 _ _ _ rfl); have agD := af zU 0 (.int .i64 f) rfl; have asQ := af zU 1 (.bool Ex.b) rfl; have asR := af zU 2 (.slice Ex.a Ex.n Ex.c) rfl; have asT := af zU 3 (.slice Ex.d Ex.m Ex.e) rfl; have asU := af zU 4 (.bool Ey.b) rfl; have asV := af zU 5 (.slice Ey.a Ey.n Ey.c) rfl; have asW := af zU 6 (.slice Ey.d Ey.m Ey.e) rfl; clear zU; clear aH; (go_simp <;> with_reducible rfl))
   try simp only [ag]
   refine bW (i := 3) (v := ?akK) rfl (Or.inl ⟨by first | rfl | kernel_rfl, ?Nq⟩) (by assumption) ?agT
   case Nq => (intro u aH; (try dsimp only at aH); obtain ⟨kH, kJ, kK, _⟩ := eu (x := x1) (aH.at 3 _ _ _ rfl); clear aH; (go_simp <;> with_reducible rfl))
   try simp only [ag]
   refine rdA (i := 2) rfl (fun K hK => ?_)
   go_simp
   go_wp2_with (go_at_call 11; (with_reducible refine (CY f _ hf1 hf2).mono ?_); rintro e w11 ⟨v11, rfl, PX, yV⟩; obtain ⟨z11, rfl⟩ := PX.bn)
   refine hK.out _ _ (Sx.below hh yV) (fun hh => ?_)
   clear hK K
   try simp only [ag]
   replace HS := ae (HS.out.below yV)
   clear yV
   replace HS := ae (HS.out.az PX)
   clear PX
   refine rdA (i := 4) rfl (fun K hK => ?_)
   go_simp
   obtain ⟨c12, hc12⟩ : ∃ c, c = dN (f : Rat) t := ⟨_, rfl⟩
   have W_ := ae hc12
   clear hc12
   have a13 := HS.out.p 0 _ _ rfl
   have a14 := HS.out.p 5 _ _ rfl
   go_wp2_with (go_at_call 36; (with_reducible refine (iM (f : Rat) t _ _ _ a13 a14 (aj (ZY f hf1 hf2 10000 (by omega)) (by omega)) (aj S1.out (by omega))).mono ?_); rw [← W_.out]; rintro e w12 ⟨rfl, aiB⟩)
   refine hK.out _ _ (Sx.below hh aiB) (fun hh => ?_)
   clear hK K
   try simp only [ag]
   replace HS := ae (HS.out.below aiB)
   clear aiB a13 a14
   by_cases Vm : c12 ≤ 0
   ·
    have t16 : decide (c12 ≤ 0) = true := decide_eq_true Vm
    have T16 := ae Vm
    clear Vm
    refine bW (i := 5) (v := ?akL) rfl (Or.inl ⟨by first | rfl | kernel_rfl, ?Nr⟩) (by assumption) ?agU
    case Nr => (intro u aH; (go_simp <;> with_reducible rfl))
    try simp only [ag]
    refine wpAnyH_done (by kernel_rfl) ?_ _
    have mX := (HS.out.at 0 _ _ _ rfl)
    have rH := af mX 0 (.int .i64 f) rfl
    have rJ := af mX 1 (.bool Ex.b) rfl
    have rM := af mX 2 (.slice Ex.a Ex.n Ex.c) rfl
    have Ya := af mX 3 (.slice Ex.d Ex.m Ex.e) rfl
    have Yb := af mX 4 (.bool Ey.b) rfl
    have Yc := af mX 5 (.slice Ey.a Ey.n Ey.c) rfl
    have ahN := af mX 6 (.slice Ey.d Ey.m Ey.e) rfl
    have ui := ah mX 0
    have uj := ah mX 1
    have uk := ah mX 2
    have Yd := ah mX 3
    have Ye := ah mX 4
    have Yf := ah mX 5
    have ahO := ah mX 6
    have Ji := ai mX
    clear mX
    obtain ⟨iy, iL, jD, jI, jU, kz⟩ := eu (x := x1) (HS.out.at 3 _ _ _ rfl)
    have rG := ai (HS.out.at 3 _ _ _ rfl)
    obtain ⟨jJ, lV, lW, qC, qE, qF, kP, pz, pF, vM, vN, vO⟩ := dO (x := y1) (y := y2) (HS.out.at 1 _ _ _ rfl)
    have vS := ai (HS.out.at 1 _ _ _ rfl)
    go_wp2_with fail
    clear rH rJ rM Ya Yb Yc ahN ui uj uk Yd Ye Yf ahO Ji iy iL jD jI jU kz rG jJ lV lW qC qE qF kP pz pF vM vN vO vS
    generalize Za : ((((((w12).setCell _ _).setCell _ _).setCell _ _).setCell _ _).setCell _ _).setCell _ _ = W18 at *
    replace HS : Hid (Sx w W18 [(wr2.heap.size, #[.int .i64 f, .bool Ex.b, .slice Ex.a Ex.n Ex.c, .slice Ex.d Ex.m Ex.e, .bool Ey.b, .slice Ey.a Ey.n Ey.c, .slice Ey.d Ey.m Ey.e], 74), (w.heap.size + 2, aY Ex Ey, 43), (w.heap.size + 1, #[.bool false, .slice none 0 0, .slice none 0 0, .bool false, .slice none 0 0, .slice none 0 0], 43), (w.heap.size, x1.arr, 40)] [(true, z11.val, (f : Rat)), (true, Ey.val, hi), (true, Ex.val, lo), (true, y2.val, (p_ es t i).2), (true, y1.val, (p_ es t i).1), (true, x1.val, t)]) := by subst Za; exact (HS.out).gp 1 y1 y2 Ex Ey rfl
    clear Za
    have EQ1 := ae (HF1.out.trans (if_pos (by rw [← W_.out]; exact T16.out)))
    have EQ2 := ae (HF2.out.trans (if_pos (by rw [← W_.out]; exact T16.out)))
    exact ⟨⟨i + 1, Ex, Ey, by have := gq.out; omega, by go_num, ae (((((HS.out).erase 0).az (HS.out.p 5 _ _ rfl)).az (by rw [EQ1.out]; exact (HS.out.p 2 _ _ rfl))).az (by rw [EQ2.out]; exact (HS.out.p 1 _ _ rfl)))⟩, bU gq.out⟩
   ·
    have t16 : decide (c12 ≤ 0) = false := decide_eq_false Vm
    have T16 := ae Vm
    clear Vm
    refine bW (i := 5) (v := ?akM) rfl (Or.inl ⟨by first | rfl | kernel_rfl, ?Ns⟩) (by assumption) ?agV
    case Ns => (intro u aH; (go_simp <;> with_reducible rfl))
    try simp only [ag]
    refine wpAnyH_done (by kernel_rfl) ?_ _
    have mX := (HS.out.at 0 _ _ _ rfl)
    have rH := af mX 0 (.int .i64 f) rfl
    have rJ := af mX 1 (.bool Ex.b) rfl
    have rM := af mX 2 (.slice Ex.a Ex.n Ex.c) rfl
    have Ya := af mX 3 (.slice Ex.d Ex.m Ex.e) rfl
    have Yb := af mX 4 (.bool Ey.b) rfl
    have Yc := af mX 5 (.slice Ey.a Ey.n Ey.c) rfl
    have ahN := af mX 6 (.slice Ey.d Ey.m Ey.e) rfl
    have ui := ah mX 0
    have uj := ah mX 1
    have uk := ah mX 2
    have Yd := ah mX 3
    have Ye := ah mX 4
    have Yf := ah mX 5
    have ahO := ah mX 6
    have Ji := ai mX
    clear mX
    obtain ⟨iy, iL, jD, jI, jU, kz⟩ := eu (x := x1) (HS.out.at 3 _ _ _ rfl)
    have rG := ai (HS.out.at 3 _ _ _ rfl)
    go_wp2_with fail
    clear rH rJ rM Ya Yb Yc ahN ui uj uk Yd Ye Yf ahO Ji iy iL jD jI jU kz rG
    have EQ1 := ae (HF1.out.trans (if_neg (by rw [← W_.out]; exact T16.out)))
    have EQ2 := ae (HF2.out.trans (if_neg (by rw [← W_.out]; exact T16.out)))
    exact ⟨⟨i + 1, y1, y2, by have := gq.out; omega, by go_num, ae (((((HS.out).erase 0).az (HS.out.p 5 _ _ rfl)).az (by rw [EQ1.out]; exact (HS.out.p 4 _ _ rfl))).az (by rw [EQ2.out]; exact (HS.out.p 3 _ _ rfl)))⟩, bU gq.out⟩
  ·
   obtain rfl : i = es.length := by omega
   obtain ⟨jJ, lV, lW, qC, qE, qF, kP, pz, pF, vM, vN, vO⟩ := dO (x := y1) (y := y2) (HS.out.at 0 _ _ _ rfl)
   have vS := ai (HS.out.at 0 _ _ _ rfl)
   have gW := (HS.out.at 1 _ _ _ rfl)
   have kC := af gW 0 (.bool false) rfl
   have kD := af gW 1 (.slice none 0 0) rfl
   have qB := af gW 2 (.slice none 0 0) rfl
   have Am := af gW 3 (.bool false) rfl
   have Ap := af gW 4 (.slice none 0 0) rfl
   have Aq := af gW 5 (.slice none 0 0) rfl
   have lT := ah gW 0
   have lU := ah gW 1
   have vK := ah gW 2
   have Jf := ah gW 3
   have Jg := ah gW 4
   have Jh := ah gW 5
   have yO := ai gW
   clear gW
   go_wp2_with fail
   clear jJ lV lW qC qE qF kP pz pF vM vN vO vS kC kD qB Am Ap Aq lT lU vK Jf Jg Jh yO
   generalize Uy : ((((((wr2).setCell _ _).setCell _ _).setCell _ _).setCell _ _).setCell _ _).setCell _ _ = W20 at *
   replace HS : Hid (Sx w W20 [(w.heap.size + 2, aY y1 y2, 43), (w.heap.size + 1, aY y1 y2, 43), (w.heap.size, x1.arr, 40)] [(true, y2.val, (p_ es t es.length).2), (true, y1.val, (p_ es t es.length).1), (true, x1.val, t)]) := by subst Uy; exact (HS.out).gp 1 dQ dQ y1 y2 rfl
   clear Uy
   obtain ⟨kC, kD, qB, Am, Ap, Aq, _⟩ := dO (x := y1) (y := y2) (HS.out.at 1 _ _ _ rfl)
   refine bodyPost_ret (v := .agg #[.bool y1.b, .slice y1.a y1.n y1.c, .slice y1.d y1.m y1.e, .bool y2.b, .slice y2.a y2.n y2.c, .slice y2.d y2.m y2.e]) (by simp [results, Tryz.results72, go_sem, kC, kD, qB, Am, Ap, Aq]) rfl ⟨_, rfl, (gB (HS.out.p 1 _ _ rfl) (HS.out.p 0 _ _ rfl)), HS.out.bel⟩
theorem aat (es : List lD) (lo hi : Rat) (vt vx : Value) (w : World) (ht : kN aA w vt es) (hx : cZ w vx lo hi) (hl : es.length ≤ 1000) (hI : Pq es) (hZ : Jq es) (s1 : bQ lo 10000) (s2 : bQ hi 10000) (hc : dN (fJ es lo).1 (fJ es hi).2 ≤ 0) :
  Calls Tryz.prog 42 #[vt, vx] w (iK (fJ es lo).1 (fJ es hi).2 w) := by
 obtain ⟨x1, x2, rfl, h1, h2⟩ := hx
 have HS := ae (((Sx.init w).az h1).az h2)
 have HT := ae ht
 have HI := ae hI
 have HZ := ae hZ
 have S1 := ae s1
 have S2 := ae s2
 have HC := ae hc
 obtain ⟨ao, cap, rfl, _⟩ := ht
 clear h1 h2 hI hZ s1 s2 hc
 go_enter Tryz.func42, Tryz.ntmps42
 go_wp2_with fail
 generalize hW1 : ((w).alloc (.cells _ _)).alloc (.cells _ _) = W1 at *
 replace HS : Hid (Sx w W1 [(w.heap.size + 1, #[.bool false, .slice none 0 0, .slice none 0 0, .bool false, .slice none 0 0, .slice none 0 0], 43), (w.heap.size, aY x1 x2, 43)] [(true, x2.val, hi), (true, x1.val, lo)]) := by subst hW1; exact ((HS.out).alloc (B := w.heap.size) rfl (by rfl)).alloc (B := w.heap.size + 1) (by simp) (by rfl)
 clear hW1
 refine wp_region_held_drew (S := (fun w' => Sx w w' [(w.heap.size, aY x1 x2, 43)] [])) (by kernel_rfl) ((HS.out.drew).erase 0) (fun hh => ?_)
 replace HS := ae HS.out.drew
 refine bW (i := 0) (v := ?IQ) rfl (Or.inl ⟨by first | rfl | kernel_rfl, ?qK⟩) (by assumption) ?Gj
 case qK => (intro u aH; (go_simp <;> with_reducible rfl))
 try simp only [ag]
 refine bW (i := 1) (v := ?IU) rfl (Or.inl ⟨by first | rfl | kernel_rfl, ?qL⟩) (by assumption) ?Gl
 case qL => (intro u aH; (try dsimp only at aH); obtain ⟨kH, kJ, kK, qN, ru, ry, _⟩ := dO (x := x1) (y := x2) (aH.at 0 _ _ _ rfl); clear aH; (go_simp <;> with_reducible rfl))
 try simp only [ag]
 refine bW (i := 5) (v := ?akP) rfl (Or.inl ⟨by first | rfl | kernel_rfl, ?PZ⟩) (by assumption) ?akl
 case PZ => (intro u aH; (go_simp <;> with_reducible rfl))
 try simp only [ag]
 refine bW (i := 6) (v := ?akC) rfl (Or.inl ⟨by first | rfl | kernel_rfl, ?Na⟩) (by assumption) ?agL
 case Na => (intro u aH; (try dsimp only at aH); obtain ⟨kH, kJ, kK, qN, ru, ry, _⟩ := dO (x := x1) (y := x2) (aH.at 0 _ _ _ rfl); clear aH; (go_simp <;> with_reducible rfl))
 try simp only [ag]
 refine rdA (i := 2) rfl (fun K hK => ?_)
 go_simp
 have a12 := HS.out.p 1 _ _ rfl
 have a13 := HS.out.p 0 _ _ rfl
 go_wp2_with (go_at_call 47; (with_reducible refine (ny lo hi _ _ (gB a12 a13)).mono ?_); rintro e w11 ⟨v11, rfl, PX, yV⟩; obtain ⟨z11, rfl⟩ := PX.bn)
 refine hK.out _ _ (Sx.below hh yV) (fun hh => ?_)
 clear hK K
 try simp only [ag]
 replace HS := ae (HS.out.below yV)
 clear yV a12 a13
 replace HS := ae (HS.out.az PX)
 clear PX
 refine rdA (i := 3) rfl (fun K hK => ?_)
 go_simp
 have a15 := HS.out.p 0 _ _ rfl
 go_wp2_with (go_at_call 72; (with_reducible refine (Ie es lo _ _ _ (HT.out.bP HS.out.bel) a15 hl HI.out HZ.out (aj S1.out (by omega))).mono ?_); rintro e w14 ⟨v14, rfl, ⟨asA, asB, rfl, ZR, anm⟩, Zj⟩)
 refine hK.out _ _ (Sx.below hh Zj) (fun hh => ?_)
 clear hK K
 try simp only [ag]
 replace HS := ae (HS.out.below Zj)
 clear Zj a15
 replace HS := ae (HS.out.az ZR)
 clear ZR
 replace HS := ae (HS.out.az anm)
 clear anm
 refine rdA (i := 4) rfl (fun K hK => ?_)
 go_simp
 have a17 := HS.out.p 1 _ _ rfl
 have a18 := HS.out.p 0 _ _ rfl
 go_wp2_with (go_at_call 47; (with_reducible refine (ny ((fJ es lo).1) ((fJ es lo).2) _ _ (gB a17 a18)).mono ?_); rintro e w16 ⟨v16, rfl, JB, hb16⟩; obtain ⟨yG, rfl⟩ := JB.bn)
 refine hK.out _ _ (Sx.below hh hb16) (fun hh => ?_)
 clear hK K
 try simp only [ag]
 replace HS := ae (HS.out.below hb16)
 clear hb16 a17 a18
 replace HS := ae (HS.out.az JB)
 clear JB
 refine rdA (i := 7) rfl (fun K hK => ?_)
 go_simp
 have a20 := HS.out.p 5 _ _ rfl
 have a21 := HS.out.p 4 _ _ rfl
 go_wp2_with (go_at_call 48; (with_reducible refine (oL lo hi _ _ (gB a20 a21)).mono ?_); rintro e w19 ⟨v19, rfl, GI, Ju⟩; obtain ⟨zo, rfl⟩ := GI.bn)
 refine hK.out _ _ (Sx.below hh Ju) (fun hh => ?_)
 clear hK K
 try simp only [ag]
 replace HS := ae (HS.out.below Ju)
 clear Ju a20 a21
 replace HS := ae (HS.out.az GI)
 clear GI
 refine rdA (i := 8) rfl (fun K hK => ?_)
 go_simp
 have a23 := HS.out.p 0 _ _ rfl
 go_wp2_with (go_at_call 72; (with_reducible refine (Ie es hi _ _ _ (HT.out.bP HS.out.bel) a23 hl HI.out HZ.out (aj S2.out (by omega))).mono ?_); rintro e w22 ⟨v22, rfl, ⟨jm, jo, rfl, EL, aeu⟩, EH⟩)
 refine hK.out _ _ (Sx.below hh EH) (fun hh => ?_)
 clear hK K
 try simp only [ag]
 replace HS := ae (HS.out.below EH)
 clear EH a23
 replace HS := ae (HS.out.az EL)
 clear EL
 replace HS := ae (HS.out.az aeu)
 clear aeu
 refine rdA (i := 9) rfl (fun K hK => ?_)
 go_simp
 have a25 := HS.out.p 1 _ _ rfl
 have a26 := HS.out.p 0 _ _ rfl
 go_wp2_with (go_at_call 48; (with_reducible refine (oL ((fJ es hi).1) ((fJ es hi).2) _ _ (gB a25 a26)).mono ?_); rintro e w24 ⟨v24, rfl, hv24, aiF⟩; obtain ⟨z24, rfl⟩ := hv24.bn)
 refine hK.out _ _ (Sx.below hh aiF) (fun hh => ?_)
 clear hK K
 try simp only [ag]
 replace HS := ae (HS.out.below aiF)
 clear aiF a25 a26
 replace HS := ae (HS.out.az hv24)
 clear hv24
 refine rdA (i := 10) rfl (fun K hK => ?_)
 go_simp
 have a28 := HS.out.p 4 _ _ rfl
 have a29 := HS.out.p 0 _ _ rfl
 go_wp2_with (go_at_call 46; (with_reducible refine (Gp ((fJ es lo).1) ((fJ es hi).2) _ _ _ a28 a29 (aj (x9 HZ.out lo).1 (by omega)) (aj (x9 HZ.out hi).2 (by omega)) HC.out).mono ?_); rintro e KP ⟨v27, rfl, ⟨A8, A_, rfl, hv27, ann⟩, Cb⟩)
 refine hK.out _ _ (Sx.below hh Cb) (fun hh => ?_)
 clear hK K
 try simp only [ag]
 replace HS := ae (HS.out.below Cb)
 clear Cb a28 a29
 replace HS := ae (HS.out.az hv27)
 clear hv27
 replace HS := ae (HS.out.az ann)
 clear ann
 refine rdA (i := 11) rfl (fun K hK => ?_)
 have gW := (HS.out.at 0 _ _ _ rfl)
 have kC := af gW 0 (.bool false) rfl
 have kD := af gW 1 (.slice none 0 0) rfl
 have qB := af gW 2 (.slice none 0 0) rfl
 have Am := af gW 3 (.bool false) rfl
 have Ap := af gW 4 (.slice none 0 0) rfl
 have Aq := af gW 5 (.slice none 0 0) rfl
 have lT := ah gW 0
 have lU := ah gW 1
 have vK := ah gW 2
 have Jf := ah gW 3
 have Jg := ah gW 4
 have Jh := ah gW 5
 have yO := ai gW
 clear gW
 go_simp
 refine hK.out _ _ ((((HS.out).gp 0 dQ dQ A8 A_ rfl)).erase 0) (fun hh => ?_)
 clear hK K kC kD qB Am Ap Aq lT lU vK Jf Jg Jh yO
 try simp only [ag]
 generalize al3 : ((((((KP).setCell _ _).setCell _ _).setCell _ _).setCell _ _).setCell _ _).setCell _ _ = W30 at *
 replace HS : Hid (Sx w W30 [(w.heap.size + 1, aY A8 A_, 43), (w.heap.size, aY x1 x2, 43)] [(true, A_.val, (fJ es hi).2), (true, A8.val, (fJ es lo).1), (true, z24.val, (fJ es hi).2), (true, jo.val, (fJ es hi).2), (true, jm.val, (fJ es hi).1), (true, zo.val, hi), (true, yG.val, (fJ es lo).1), (true, asB.val, (fJ es lo).2), (true, asA.val, (fJ es lo).1), (true, z11.val, lo), (true, x2.val, hi), (true, x1.val, lo)]) := by subst al3; exact (HS.out).gp 0 dQ dQ A8 A_ rfl
 clear al3
 refine wpAnyH_done (by kernel_rfl) ?_ _
 obtain ⟨kC, kD, qB, Am, Ap, Aq, lT, lU, vK, Jf, Jg, Jh⟩ := dO (x := A8) (y := A_) (HS.out.at 0 _ _ _ rfl)
 have yO := ai (HS.out.at 0 _ _ _ rfl)
 go_wp2_with fail
 clear kC kD qB Am Ap Aq lT lU vK Jf Jg Jh yO
 obtain ⟨kC, kD, qB, Am, Ap, Aq, _⟩ := dO (x := A8) (y := A_) (HS.out.at 0 _ _ _ rfl)
 refine bodyPost_ret (v := .agg #[.bool A8.b, .slice A8.a A8.n A8.c, .slice A8.d A8.m A8.e, .bool A_.b, .slice A_.a A_.n A_.c, .slice A_.d A_.m A_.e]) (by simp [results, Tryz.results42, go_sem, kC, kD, qB, Am, Ap, Aq]) rfl ⟨_, rfl, (gB (HS.out.p 1 _ _ rfl) (HS.out.p 0 _ _ rfl)), HS.out.bel⟩
end Go.Proofs.YtkblihocfapklaaGreat
