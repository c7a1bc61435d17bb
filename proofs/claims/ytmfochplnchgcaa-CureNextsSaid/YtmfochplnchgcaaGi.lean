/- Part i of the lemmas and walks. -/
import Derived.Laws.StructEq
import Derived.ProofKit
import Derived.OpenShut
import Derived.ChangeOld
import Derived.Deep.Slices
import Derived.Test.YtmfochplnchgcaaGd
import Derived.Test.YtmfochplnchgcaaGe
import Derived.Test.YtmfochplnchgcaaGh

/- THE WALKS of ratio's Down, Up, Range.Round, Range.Text and cure's step; printed by wip/tools/gen_co.py. -/
namespace Go.Proofs.Ytmfochplnchgcaa
open Go.RowKit

theorem one_szR (k : Nat) (hk : 1 ≤ k) : szR 1 k := ⟨Nat.le_trans (by decide +kernel) hk, Nat.le_trans (by decide +kernel) hk⟩
theorem kd1 {n : Nat} {W a b : World} {B0 j0 : Nat} {v0 : Value} (hn : n ≤ W.heap.size) (hb : Below a.heap.size a b) (h : Below n W a ∧ a.cell? ⟨B0, j0, none⟩ = some (v0)) : Below n W b ∧ b.cell? ⟨B0, j0, none⟩ = some (v0) := by
  obtain ⟨h0, k0⟩ := h
  have e : ∀ B j v, a.cell? ⟨B, j, none⟩ = some v → b.cell? ⟨B, j, none⟩ = some v := fun B j v h => (hb.cell (p := ⟨B, j, none⟩) (World.block_lt_of_cell? (h := h))).trans h
  have hs := h0.size
  exact ⟨h0.trans (hb.mono (by omega)), e _ _ _ k0⟩
theorem ks1 {n B : Nat} {W a b : World} {B0 j0 : Nat} {v0 : Value} (hn : n ≤ B) (l0 : B0 < B) (hb : Below B a b) (h : Below n W a ∧ a.cell? ⟨B0, j0, none⟩ = some (v0)) : Below n W b ∧ b.cell? ⟨B0, j0, none⟩ = some (v0) := by
  obtain ⟨h0, k0⟩ := h
  have e : ∀ B' j v, B' < B → a.cell? ⟨B', j, none⟩ = some v → b.cell? ⟨B', j, none⟩ = some v := fun B' j v hl h => (hb.cell (p := ⟨B', j, none⟩) hl).trans h
  exact ⟨h0.trans (hb.mono hn), e _ _ _ l0 k0⟩
theorem kd2 {n : Nat} {W a b : World} {B0 j0 B1 j1 : Nat} {v0 v1 : Value} (hn : n ≤ W.heap.size) (hb : Below a.heap.size a b) (h : Below n W a ∧ a.cell? ⟨B0, j0, none⟩ = some (v0) ∧ a.cell? ⟨B1, j1, none⟩ = some (v1)) : Below n W b ∧ b.cell? ⟨B0, j0, none⟩ = some (v0) ∧ b.cell? ⟨B1, j1, none⟩ = some (v1) := by
  obtain ⟨h0, k0, k1⟩ := h
  have e : ∀ B j v, a.cell? ⟨B, j, none⟩ = some v → b.cell? ⟨B, j, none⟩ = some v := fun B j v h => (hb.cell (p := ⟨B, j, none⟩) (World.block_lt_of_cell? (h := h))).trans h
  have hs := h0.size
  exact ⟨h0.trans (hb.mono (by omega)), e _ _ _ k0, e _ _ _ k1⟩
theorem ks2 {n B : Nat} {W a b : World} {B0 j0 B1 j1 : Nat} {v0 v1 : Value} (hn : n ≤ B) (l0 : B0 < B) (l1 : B1 < B) (hb : Below B a b) (h : Below n W a ∧ a.cell? ⟨B0, j0, none⟩ = some (v0) ∧ a.cell? ⟨B1, j1, none⟩ = some (v1)) : Below n W b ∧ b.cell? ⟨B0, j0, none⟩ = some (v0) ∧ b.cell? ⟨B1, j1, none⟩ = some (v1) := by
  obtain ⟨h0, k0, k1⟩ := h
  have e : ∀ B' j v, B' < B → a.cell? ⟨B', j, none⟩ = some v → b.cell? ⟨B', j, none⟩ = some v := fun B' j v hl h => (hb.cell (p := ⟨B', j, none⟩) hl).trans h
  exact ⟨h0.trans (hb.mono hn), e _ _ _ l0 k0, e _ _ _ l1 k1⟩
theorem kd6 {n : Nat} {W a b : World} {B0 j0 B1 j1 B2 j2 B3 j3 B4 j4 B5 j5 : Nat} {v0 v1 v2 v3 v4 v5 : Value} (hn : n ≤ W.heap.size) (hb : Below a.heap.size a b) (h : Below n W a ∧ a.cell? ⟨B0, j0, none⟩ = some (v0) ∧ a.cell? ⟨B1, j1, none⟩ = some (v1) ∧ a.cell? ⟨B2, j2, none⟩ = some (v2) ∧ a.cell? ⟨B3, j3, none⟩ = some (v3) ∧ a.cell? ⟨B4, j4, none⟩ = some (v4) ∧ a.cell? ⟨B5, j5, none⟩ = some (v5)) : Below n W b ∧ b.cell? ⟨B0, j0, none⟩ = some (v0) ∧ b.cell? ⟨B1, j1, none⟩ = some (v1) ∧ b.cell? ⟨B2, j2, none⟩ = some (v2) ∧ b.cell? ⟨B3, j3, none⟩ = some (v3) ∧ b.cell? ⟨B4, j4, none⟩ = some (v4) ∧ b.cell? ⟨B5, j5, none⟩ = some (v5) := by
  obtain ⟨h0, k0, k1, k2, k3, k4, k5⟩ := h
  have e : ∀ B j v, a.cell? ⟨B, j, none⟩ = some v → b.cell? ⟨B, j, none⟩ = some v := fun B j v h => (hb.cell (p := ⟨B, j, none⟩) (World.block_lt_of_cell? (h := h))).trans h
  have hs := h0.size
  exact ⟨h0.trans (hb.mono (by omega)), e _ _ _ k0, e _ _ _ k1, e _ _ _ k2, e _ _ _ k3, e _ _ _ k4, e _ _ _ k5⟩
theorem ks6 {n B : Nat} {W a b : World} {B0 j0 B1 j1 B2 j2 B3 j3 B4 j4 B5 j5 : Nat} {v0 v1 v2 v3 v4 v5 : Value} (hn : n ≤ B) (l0 : B0 < B) (l1 : B1 < B) (l2 : B2 < B) (l3 : B3 < B) (l4 : B4 < B) (l5 : B5 < B) (hb : Below B a b) (h : Below n W a ∧ a.cell? ⟨B0, j0, none⟩ = some (v0) ∧ a.cell? ⟨B1, j1, none⟩ = some (v1) ∧ a.cell? ⟨B2, j2, none⟩ = some (v2) ∧ a.cell? ⟨B3, j3, none⟩ = some (v3) ∧ a.cell? ⟨B4, j4, none⟩ = some (v4) ∧ a.cell? ⟨B5, j5, none⟩ = some (v5)) : Below n W b ∧ b.cell? ⟨B0, j0, none⟩ = some (v0) ∧ b.cell? ⟨B1, j1, none⟩ = some (v1) ∧ b.cell? ⟨B2, j2, none⟩ = some (v2) ∧ b.cell? ⟨B3, j3, none⟩ = some (v3) ∧ b.cell? ⟨B4, j4, none⟩ = some (v4) ∧ b.cell? ⟨B5, j5, none⟩ = some (v5) := by
  obtain ⟨h0, k0, k1, k2, k3, k4, k5⟩ := h
  have e : ∀ B' j v, B' < B → a.cell? ⟨B', j, none⟩ = some v → b.cell? ⟨B', j, none⟩ = some v := fun B' j v hl h => (hb.cell (p := ⟨B', j, none⟩) hl).trans h
  exact ⟨h0.trans (hb.mono hn), e _ _ _ l0 k0, e _ _ _ l1 k1, e _ _ _ l2 k2, e _ _ _ l3 k3, e _ _ _ l4 k4, e _ _ _ l5 k5⟩
theorem kd12 {n : Nat} {W a b : World} {B0 j0 B1 j1 B2 j2 B3 j3 B4 j4 B5 j5 B6 j6 B7 j7 B8 j8 B9 j9 B10 j10 B11 j11 : Nat} {v0 v1 v2 v3 v4 v5 v6 v7 v8 v9 v10 v11 : Value} (hn : n ≤ W.heap.size) (hb : Below a.heap.size a b) (h : Below n W a ∧ a.cell? ⟨B0, j0, none⟩ = some (v0) ∧ a.cell? ⟨B1, j1, none⟩ = some (v1) ∧ a.cell? ⟨B2, j2, none⟩ = some (v2) ∧ a.cell? ⟨B3, j3, none⟩ = some (v3) ∧ a.cell? ⟨B4, j4, none⟩ = some (v4) ∧ a.cell? ⟨B5, j5, none⟩ = some (v5) ∧ a.cell? ⟨B6, j6, none⟩ = some (v6) ∧ a.cell? ⟨B7, j7, none⟩ = some (v7) ∧ a.cell? ⟨B8, j8, none⟩ = some (v8) ∧ a.cell? ⟨B9, j9, none⟩ = some (v9) ∧ a.cell? ⟨B10, j10, none⟩ = some (v10) ∧ a.cell? ⟨B11, j11, none⟩ = some (v11)) : Below n W b ∧ b.cell? ⟨B0, j0, none⟩ = some (v0) ∧ b.cell? ⟨B1, j1, none⟩ = some (v1) ∧ b.cell? ⟨B2, j2, none⟩ = some (v2) ∧ b.cell? ⟨B3, j3, none⟩ = some (v3) ∧ b.cell? ⟨B4, j4, none⟩ = some (v4) ∧ b.cell? ⟨B5, j5, none⟩ = some (v5) ∧ b.cell? ⟨B6, j6, none⟩ = some (v6) ∧ b.cell? ⟨B7, j7, none⟩ = some (v7) ∧ b.cell? ⟨B8, j8, none⟩ = some (v8) ∧ b.cell? ⟨B9, j9, none⟩ = some (v9) ∧ b.cell? ⟨B10, j10, none⟩ = some (v10) ∧ b.cell? ⟨B11, j11, none⟩ = some (v11) := by
  obtain ⟨h0, k0, k1, k2, k3, k4, k5, k6, k7, k8, k9, k10, k11⟩ := h
  have e : ∀ B j v, a.cell? ⟨B, j, none⟩ = some v → b.cell? ⟨B, j, none⟩ = some v := fun B j v h => (hb.cell (p := ⟨B, j, none⟩) (World.block_lt_of_cell? (h := h))).trans h
  have hs := h0.size
  exact ⟨h0.trans (hb.mono (by omega)), e _ _ _ k0, e _ _ _ k1, e _ _ _ k2, e _ _ _ k3, e _ _ _ k4, e _ _ _ k5, e _ _ _ k6, e _ _ _ k7, e _ _ _ k8, e _ _ _ k9, e _ _ _ k10, e _ _ _ k11⟩
theorem ks12 {n B : Nat} {W a b : World} {B0 j0 B1 j1 B2 j2 B3 j3 B4 j4 B5 j5 B6 j6 B7 j7 B8 j8 B9 j9 B10 j10 B11 j11 : Nat} {v0 v1 v2 v3 v4 v5 v6 v7 v8 v9 v10 v11 : Value} (hn : n ≤ B) (l0 : B0 < B) (l1 : B1 < B) (l2 : B2 < B) (l3 : B3 < B) (l4 : B4 < B) (l5 : B5 < B) (l6 : B6 < B) (l7 : B7 < B) (l8 : B8 < B) (l9 : B9 < B) (l10 : B10 < B) (l11 : B11 < B) (hb : Below B a b) (h : Below n W a ∧ a.cell? ⟨B0, j0, none⟩ = some (v0) ∧ a.cell? ⟨B1, j1, none⟩ = some (v1) ∧ a.cell? ⟨B2, j2, none⟩ = some (v2) ∧ a.cell? ⟨B3, j3, none⟩ = some (v3) ∧ a.cell? ⟨B4, j4, none⟩ = some (v4) ∧ a.cell? ⟨B5, j5, none⟩ = some (v5) ∧ a.cell? ⟨B6, j6, none⟩ = some (v6) ∧ a.cell? ⟨B7, j7, none⟩ = some (v7) ∧ a.cell? ⟨B8, j8, none⟩ = some (v8) ∧ a.cell? ⟨B9, j9, none⟩ = some (v9) ∧ a.cell? ⟨B10, j10, none⟩ = some (v10) ∧ a.cell? ⟨B11, j11, none⟩ = some (v11)) : Below n W b ∧ b.cell? ⟨B0, j0, none⟩ = some (v0) ∧ b.cell? ⟨B1, j1, none⟩ = some (v1) ∧ b.cell? ⟨B2, j2, none⟩ = some (v2) ∧ b.cell? ⟨B3, j3, none⟩ = some (v3) ∧ b.cell? ⟨B4, j4, none⟩ = some (v4) ∧ b.cell? ⟨B5, j5, none⟩ = some (v5) ∧ b.cell? ⟨B6, j6, none⟩ = some (v6) ∧ b.cell? ⟨B7, j7, none⟩ = some (v7) ∧ b.cell? ⟨B8, j8, none⟩ = some (v8) ∧ b.cell? ⟨B9, j9, none⟩ = some (v9) ∧ b.cell? ⟨B10, j10, none⟩ = some (v10) ∧ b.cell? ⟨B11, j11, none⟩ = some (v11) := by
  obtain ⟨h0, k0, k1, k2, k3, k4, k5, k6, k7, k8, k9, k10, k11⟩ := h
  have e : ∀ B' j v, B' < B → a.cell? ⟨B', j, none⟩ = some v → b.cell? ⟨B', j, none⟩ = some v := fun B' j v hl h => (hb.cell (p := ⟨B', j, none⟩) hl).trans h
  exact ⟨h0.trans (hb.mono hn), e _ _ _ l0 k0, e _ _ _ l1 k1, e _ _ _ l2 k2, e _ _ _ l3 k3, e _ _ _ l4 k4, e _ _ _ l5 k5, e _ _ _ l6 k6, e _ _ _ l7 k7, e _ _ _ l8 k8, e _ _ _ l9 k9, e _ _ _ l10 k10, e _ _ _ l11 k11⟩
set_option maxRecDepth 100000 in
set_option maxHeartbeats 2000000 in
theorem stepf_any (a p : Rat) (va vp : Value) (w : World) (ha : IsRat w va a) (hp : IsRat w vp p) (s1 : szR a 68719476736) (s2 : szR p 68719476736) (s3 : szR (1 - a) 68719476736) (s4 : szR (p * (1 - a)) 68719476736) :
    Calls Try.prog 71 #[va, vp] w (RetRat (a + p * (1 - a)) w) := by
  obtain ⟨x, rfl⟩ := ha.open3
  obtain ⟨y, rfl⟩ := hp.open3
  have HX := Lib.hid ha
  have HY := Lib.hid hp
  have S1 := Lib.hid s1
  have S2 := Lib.hid s2
  have S3 := Lib.hid s3
  have S4 := Lib.hid s4
  clear ha hp s1 s2 s3 s4
  have S0 : Hid (szR 1 68719476736) := one_szR _ (by omega)
  obtain ⟨q, hq⟩ : ∃ q, q = a + p * (1 - a) := ⟨_, rfl⟩
  have HQ := Lib.hid hq
  rw [← hq]
  clear hq
  go_enter Try.func71, Try.ntmps71
  go_wp2_with fail
  generalize hW0 : ((w.alloc (.cells x.arr 56)).alloc (.cells y.arr 56)).alloc (.cells _ _) = W at *
  obtain ⟨hal, hB1, hB2, hB3, hWs⟩ := boxesF w _ _ _ _ W hW0.symm
  have HAL := Lib.hid hal
  have HB3 := Lib.hid hB3
  have N3 : Hid (w.heap.size + 1 + 1 ≤ W.heap.size) := by show _ ≤ _; omega
  have N0 : Hid (w.heap.size < w.heap.size + 1 + 1) := by show _ < _; omega
  have N1 : Hid (w.heap.size + 1 < w.heap.size + 1 + 1) := by show _ < _; omega
  obtain ⟨x0, x1, x2, _, _, _⟩ := fac3 (x := x) hB1
  obtain ⟨y0, y1, y2, _, _, _⟩ := fac3 (x := y) hB2
  have HAD := Lib.hid (hal.drew)
  clear hW0 hal hB1 hB2 hB3 hWs
  refine wp_region_held_drew (S := (fun w' => Below (w.heap.size + 1 + 1) W w' ∧ w'.cell? ⟨w.heap.size, 0, none⟩ = some (.bool x.b) ∧ w'.cell? ⟨w.heap.size, 1, none⟩ = some (.slice x.a x.n x.c) ∧ w'.cell? ⟨w.heap.size, 2, none⟩ = some (.slice x.d x.m x.e) ∧ w'.cell? ⟨w.heap.size + 1, 0, none⟩ = some (.bool y.b) ∧ w'.cell? ⟨w.heap.size + 1, 1, none⟩ = some (.slice y.a y.n y.c) ∧ w'.cell? ⟨w.heap.size + 1, 2, none⟩ = some (.slice y.d y.m y.e))) (by kernel_rfl) ⟨(Below.refl _ _).drew, x0, x1, x2, y0, y1, y2⟩ (fun hh => ?_)
  clear x0 x1 x2 y0 y1 y2
  refine wpAnyH_take (i := 0) (v := ?vp0) rfl (by kernel_rfl) (by kernel_rfl) (by kernel_rfl) (fun _ _ _ h => h) (Or.inl ⟨by rfl, ?hyp0⟩) (by assumption) ?rep0
  case hyp0 => first | (intro w hSw; (try dsimp only at hSw); go_simp; done) | (intro w hSw; (try dsimp only at hSw); go_simp; with_reducible rfl)
  try simp only [List.getElem_toArray, List.getElem_cons_zero, List.getElem_cons_succ, Act.put, List.setIfInBounds_toArray, List.set_cons_zero, List.set_cons_succ]
  refine wpAnyH_take (i := 1) (v := ?vp1) rfl (by kernel_rfl) (by kernel_rfl) (by kernel_rfl) (fun _ _ _ h => h) (Or.inl ⟨by rfl, ?hyp1⟩) (by assumption) ?rep1
  case hyp1 => first | (intro w hSw; (try dsimp only at hSw); go_simp; done) | (intro w hSw; (try dsimp only at hSw); go_simp; with_reducible rfl)
  try simp only [List.getElem_toArray, List.getElem_cons_zero, List.getElem_cons_succ, Act.put, List.setIfInBounds_toArray, List.set_cons_zero, List.set_cons_succ]
  refine wpAnyH_take (i := 3) (v := ?vp3) rfl (by kernel_rfl) (by kernel_rfl) (by kernel_rfl) (fun _ _ _ h => h) (Or.inl ⟨by rfl, ?hyp3⟩) (by assumption) ?rep3
  case hyp3 => first | (intro w hSw; (try dsimp only at hSw); go_simp; done) | (intro w hSw; (try dsimp only at hSw); go_simp; with_reducible rfl)
  try simp only [List.getElem_toArray, List.getElem_cons_zero, List.getElem_cons_succ, Act.put, List.setIfInBounds_toArray, List.set_cons_zero, List.set_cons_succ]
  refine wpAnyH_ready (rs := [2]) (by kernel_rfl) (by simp) ?_
  refine AllReadyH.cons rfl (fun K hK => ?_) AllReadyH.nil
  go_simp
  go_wp2_with (go_at_call 70; (with_reducible refine (one_any _).mono ?_); rintro e wA ⟨vA, rfl, hvA, hbA⟩)
  refine hK.out _ _ (kd6 N3.out hbA hh) (fun hh => ?_)
  clear hK K
  try simp only [List.getElem_toArray, List.getElem_cons_zero, List.getElem_cons_succ, Act.put, List.setIfInBounds_toArray, List.set_cons_zero, List.set_cons_succ]
  have BA := Lib.hid (bt HAD.out hbA)
  refine wpAnyH_ready (rs := [4]) (by kernel_rfl) (by simp) ?_
  refine AllReadyH.cons rfl (fun K hK => ?_) AllReadyH.nil
  go_simp
  go_wp2_with (go_at_call 21; (with_reducible refine (subRat_any 1 a _ _ _ hvA (HX.out.below BA.out) S0.out S1.out).mono ?_); rintro e wB ⟨vB, rfl, hvB, hbB⟩)
  refine hK.out _ _ (kd6 N3.out hbB hh) (fun hh => ?_)
  clear hK K
  try simp only [List.getElem_toArray, List.getElem_cons_zero, List.getElem_cons_succ, Act.put, List.setIfInBounds_toArray, List.set_cons_zero, List.set_cons_succ]
  have BB := Lib.hid (bt BA.out hbB)
  refine wpAnyH_ready (rs := [5]) (by kernel_rfl) (by simp) ?_
  refine AllReadyH.cons rfl (fun K hK => ?_) AllReadyH.nil
  go_simp
  go_wp2_with (go_at_call 22; (with_reducible refine (mulRat_any p (1 - a) _ _ _ (HY.out.below BB.out) hvB S2.out S3.out).mono ?_); rintro e wC ⟨vC, rfl, hvC, hbC⟩)
  refine hK.out _ _ (kd6 N3.out hbC hh) (fun hh => ?_)
  clear hK K
  try simp only [List.getElem_toArray, List.getElem_cons_zero, List.getElem_cons_succ, Act.put, List.setIfInBounds_toArray, List.set_cons_zero, List.set_cons_succ]
  have BC := Lib.hid (bt BB.out hbC)
  refine wpAnyH_ready (rs := [6]) (by kernel_rfl) (by simp) ?_
  refine AllReadyH.cons rfl (fun K hK => ?_) AllReadyH.nil
  go_simp
  go_wp2_with (go_at_call 19; (with_reducible refine (addRat_any a (p * (1 - a)) _ _ _ (HX.out.below BC.out) hvC S1.out S4.out).mono ?_); rintro e wD ⟨vD, rfl, hvD, hbD⟩)
  refine hK.out _ _ (kd6 N3.out hbD hh) (fun hh => ?_)
  clear hK K
  try simp only [List.getElem_toArray, List.getElem_cons_zero, List.getElem_cons_succ, Act.put, List.setIfInBounds_toArray, List.set_cons_zero, List.set_cons_succ]
  rw [← HQ.out] at hvD
  obtain ⟨z, rfl⟩ := hvD.open3
  have e0 : W.drew.heap[w.heap.size + 1 + 1]? = _ := HB3.out
  have eA := blk_keep e0 hbA (blk_lt e0)
  have eB := blk_keep eA hbB (blk_lt eA)
  have eC := blk_keep eB hbC (blk_lt eB)
  have eD := blk_keep eC hbD (blk_lt eC)
  have E : Hid (wD.heap[w.heap.size + 1 + 1]? = some (.cells r30.arr 56 (0, 0))) := eD
  have HV := Lib.hid hvD
  have BZ := Lib.hid (bt BC.out hbD)
  obtain ⟨g0, g1, g2, f0, f1, f2⟩ := fac3 (x := r30) E.out
  refine wpAnyH_ready (rs := [7]) (by kernel_rfl) (by simp) ?_
  refine AllReadyH.cons rfl (fun K hK => ?_) AllReadyH.nil
  go_simp
  refine hK.out _ _ (ks6 (Nat.le_refl _) N0.out N0.out N0.out N1.out N1.out N1.out (below3r (Below.refl _ _) (Nat.le_refl _)) hh) (fun hh => ?_)
  clear hK K
  try simp only [List.getElem_toArray, List.getElem_cons_zero, List.getElem_cons_succ, Act.put, List.setIfInBounds_toArray, List.set_cons_zero, List.set_cons_succ]
  refine wpAnyH_done (by kernel_rfl) ?_ _
  obtain ⟨h0, h1, h2, _, _, _⟩ := fac3 (x := z) (set3r (x := z) E.out)
  go_wp2_with fail
  refine bodyPost_ret (v := z.val) (by simp [results, Try.results71, go_sem, h0, h1, h2]) rfl ⟨_, rfl, IsRat.set3r HV.out E.out, below3r BZ.out (by omega)⟩
def downN (x : Rat) (k : Nat) : Nat := if x.num < 0 ∧ x.num.natAbs * 2 ^ k % x.den ≠ 0 then x.num.natAbs * 2 ^ k / x.den + 1 else x.num.natAbs * 2 ^ k / x.den
def downQ (x : Rat) (k : Nat) : Rat := mkQ (decide (x.num < 0)) (downN x k) (2 ^ k)
def upQ (x : Rat) (k : Nat) : Rat := -(downQ (-x) k)
theorem len_pow2 {k : Nat} (hk : k ≤ 256) : (dig b64 (2 ^ k)).length ≤ 5 := by
  have h := dig_length_mono b64_two (show 2 ^ k ≤ 2 ^ 256 from Nat.pow_le_pow_right (by omega) hk)
  have e : (dig b64 (2 ^ 256)).length = 5 := by decide +kernel
  omega
theorem len_shift {m k : Nat} (hk : k ≤ 256) (d : Nat) : (dig b64 (m * 2 ^ k)).length ≤ (dig b64 m).length + 5 ∧ (dig b64 (m * 2 ^ k / d)).length ≤ (dig b64 m).length + 5 ∧ (dig b64 (m * 2 ^ k / d + 1)).length ≤ (dig b64 m).length + 7 := by
  have h1 := dig_length_mul b64_two m (2 ^ k)
  have h2 := len_pow2 hk
  have h3 := dig_length_mono b64_two (Nat.div_le_self (m * 2 ^ k) d)
  have h5 := dig_length_add b64_two (m * 2 ^ k / d) 1 ((dig b64 (m * 2 ^ k / d)).length + 1) (by omega) (by
    have : (dig b64 1).length = 1 := by decide +kernel
    omega)
  omega
theorem word1_any (w : World) : Calls Try.prog 52 #[.int .u64 1] w (RetNat .u64 b64 1 w) := word_any 1 w (by unfold b64; omega)
theorem boxesD (w : World) (x : R3) (cs : Array Value) (T : Nat) (W : World) (hW : W = (w.alloc (.cells x.arr 56)).alloc (.cells cs T)) :
    Below w.heap.size w W ∧ W.heap[w.heap.size]? = some (.cells x.arr 56 (0, 0)) ∧ W.heap[w.heap.size + 1]? = some (.cells cs T (0, 0)) := by
  subst hW
  have e1 : (w.alloc (.cells x.arr 56)).heap.size = w.heap.size + 1 := World.size_alloc ..
  have a1 := blk_new w x.arr 56
  have a2 := blk_new (w.alloc (.cells x.arr 56)) cs T
  rw [e1] at a2
  exact ⟨below2 _ _ _, (heap_alloc_old _ _ (blk_lt a1)).trans a1, a2⟩
set_option maxRecDepth 100000 in
set_option maxHeartbeats 2000000 in
theorem down_f (x0 : Rat) (k : Nat) (hk : k ≤ 256) (xa : Option Addr) (xn xc : Nat) (xd : Option Addr) (xm xe : Nat) (w : World) (hx : IsRat w (R3.val (⟨false, xa, xn, xc, xd, xm, xe⟩ : R3)) x0) (hs : szR x0 68719476736) (Q : Rat) (hQ : mkQ false (x0.num.natAbs * 2 ^ k / x0.den) (2 ^ k) = Q) :
    Calls Try.prog 27 #[(R3.val (⟨false, xa, xn, xc, xd, xm, xe⟩ : R3)), .int .i64 k] w (RetRat Q w) := by
  obtain ⟨vn, vd, hxe, n1, n2⟩ := hx
  have hxa : Value.slice xa xn xc = vn ∧ Value.slice xd xm xe = vd := by
    injection hxe with hxe
    simp only [Array.mk.injEq, List.cons.injEq] at hxe
    exact ⟨hxe.2.1, hxe.2.2.1⟩
  rw [← hxa.1] at n1
  rw [← hxa.2] at n2
  have H1 := Lib.hid n1
  have H2 := Lib.hid n2
  have hls := len_shift (m := x0.num.natAbs) hk x0.den
  have hs1 := hs.1
  have hl2 := len_pow2 hk
  have HL : Hid ((dig b64 (x0.num.natAbs * 2 ^ k)).length ≤ 274877906944) := by show _ ≤ _; omega
  have HL2 : Hid ((dig b64 (2 ^ k)).length ≤ 274877906944) := by show _ ≤ _; omega
  have HLM : Hid ((dig b64 x0.num.natAbs).length ≤ 549755813888) := by show _ ≤ _; omega
  have HLQ : Hid ((dig b64 (x0.num.natAbs * 2 ^ k / x0.den)).length ≤ 1099511627776) := by show _ ≤ _; omega
  have HLN : Hid ((dig b64 (x0.num.natAbs * 2 ^ k / x0.den)).length ≤ 274877906944) := by show _ ≤ _; omega
  have HL1 : Hid ((dig b64 1).length ≤ 549755813888) := by show _ ≤ _; rw [show (dig b64 1).length = 1 from by decide +kernel]; omega
  have HLO : Hid ((dig b64 1).length ≤ 1099511627776) := by show _ ≤ _; rw [show (dig b64 1).length = 1 from by decide +kernel]; omega
  have HK2 : Hid (k ≤ 549755813888) := by show _ ≤ _; omega
  have HQ := Lib.hid hQ
  have hmx : max (k : Int) 0 = k := by omega
  have hmn : min (k : Int) 256 = k := by omega
  clear hxe hxa n1 n2 hls hs1 hs hl2 hQ
  go_enter Try.func27, Try.ntmps27
  go_wp2_with fail
  generalize hW0 : (w.alloc (.cells (R3.arr (⟨false, xa, xn, xc, xd, xm, xe⟩ : R3)) 56)).alloc (.cells _ _) = W at *
  obtain ⟨hal, hB1, hB2⟩ := boxesD w _ _ _ W hW0.symm
  obtain ⟨x0', x1, x2, _, _, _⟩ := fac3 (x := (⟨false, xa, xn, xc, xd, xm, xe⟩ : R3)) hB1
  have HB1 := Lib.hid hB1
  have HB2 := Lib.hid hB2
  have HAL := Lib.hid hal
  have HAD := Lib.hid hal.drew
  have N3 : Hid (w.heap.size ≤ W.heap.size) := hal.size
  clear hW0 hal hB1 hB2
  refine wp_region_held_drew (S := (fun w' => Below (w.heap.size) W w' ∧ w'.cell? ⟨w.heap.size, 1, none⟩ = some (.slice xa xn xc) ∧ w'.cell? ⟨w.heap.size, 2, none⟩ = some (.slice xd xm xe))) (by kernel_rfl) ⟨(Below.refl _ _).drew, x1, x2⟩ (fun hh => ?_)
  clear x0' x1 x2
  refine wpAnyH_take (i := 0) (v := ?vp0) rfl (by kernel_rfl) (by kernel_rfl) (by kernel_rfl) (fun _ _ _ h => h) (Or.inl ⟨by rfl, ?hyp0⟩) (by assumption) ?rep0
  case hyp0 => first | (intro w hSw; (try dsimp only at hSw); go_simp; done) | (intro w hSw; (try dsimp only at hSw); go_simp; with_reducible rfl)
  try simp only [List.getElem_toArray, List.getElem_cons_zero, List.getElem_cons_succ, Act.put, List.setIfInBounds_toArray, List.set_cons_zero, List.set_cons_succ]
  refine wpAnyH_take (i := 1) (v := ?vp1) rfl (by kernel_rfl) (by kernel_rfl) (by kernel_rfl) (fun _ _ _ h => h) (Or.inl ⟨by rfl, ?hyp1⟩) (by assumption) ?rep1
  case hyp1 => first | (intro w hSw; (try dsimp only at hSw); go_simp; done) | (intro w hSw; (try dsimp only at hSw); go_simp; with_reducible rfl)
  try simp only [List.getElem_toArray, List.getElem_cons_zero, List.getElem_cons_succ, Act.put, List.setIfInBounds_toArray, List.set_cons_zero, List.set_cons_succ]
  refine wpAnyH_take (i := 2) (v := ?vp2) rfl (by kernel_rfl) (by kernel_rfl) (by kernel_rfl) (fun _ _ _ h => h) (Or.inl ⟨by rfl, ?hyp2⟩) (by assumption) ?rep2
  case hyp2 => first | (intro w hSw; (try dsimp only at hSw); go_simp; done) | (intro w hSw; (try dsimp only at hSw); go_simp; with_reducible rfl)
  try simp only [List.getElem_toArray, List.getElem_cons_zero, List.getElem_cons_succ, Act.put, List.setIfInBounds_toArray, List.set_cons_zero, List.set_cons_succ]
  refine wpAnyH_take (i := 4) (v := ?vp4) rfl (by kernel_rfl) (by kernel_rfl) (by kernel_rfl) (fun _ _ _ h => h) (Or.inl ⟨by rfl, ?hyp4⟩) (by assumption) ?rep4
  case hyp4 => first | (intro w hSw; (try dsimp only at hSw); go_simp; done) | (intro w hSw; (try dsimp only at hSw); go_simp; with_reducible rfl)
  try simp only [List.getElem_toArray, List.getElem_cons_zero, List.getElem_cons_succ, Act.put, List.setIfInBounds_toArray, List.set_cons_zero, List.set_cons_succ]
  refine wpAnyH_take (i := 5) (v := ?vp5) rfl (by kernel_rfl) (by kernel_rfl) (by kernel_rfl) (fun _ _ _ h => h) (Or.inl ⟨by rfl, ?hyp5⟩) (by assumption) ?rep5
  case hyp5 => first | (intro w hSw; (try dsimp only at hSw); go_simp; done) | (intro w hSw; (try dsimp only at hSw); go_simp; with_reducible rfl)
  try simp only [List.getElem_toArray, List.getElem_cons_zero, List.getElem_cons_succ, Act.put, List.setIfInBounds_toArray, List.set_cons_zero, List.set_cons_succ]
  refine wpAnyH_ready (rs := [3]) (by kernel_rfl) (by simp) ?_
  refine AllReadyH.cons rfl (fun K hK => ?_) AllReadyH.nil
  go_simp
  go_wp2_with (go_at_call 50; (with_reducible refine (left_any x0.num.natAbs k _ _ (H1.out.below HAD.out) HLM.out HK2.out).mono ?_); rintro e wA ⟨vA, rfl, hvA, hbA⟩)
  refine hK.out _ _ (kd2 N3.out hbA hh) (fun hh => ?_)
  clear hK K
  try simp only [List.getElem_toArray, List.getElem_cons_zero, List.getElem_cons_succ, Act.put, List.setIfInBounds_toArray, List.set_cons_zero, List.set_cons_succ]
  have BA := Lib.hid (bt HAD.out hbA)
  refine wpAnyH_ready (rs := [6]) (by kernel_rfl) (by simp) ?_
  refine AllReadyH.cons rfl (fun K hK => ?_) AllReadyH.nil
  go_simp
  go_wp2_with (go_at_call 39; (with_reducible refine (under_any x0.den _ _ (H2.out.below BA.out) x0.den_pos).mono ?_); rintro e wB ⟨vB, rfl, hvB, hbB⟩)
  refine hK.out _ _ (kd2 N3.out hbB hh) (fun hh => ?_)
  clear hK K
  try simp only [List.getElem_toArray, List.getElem_cons_zero, List.getElem_cons_succ, Act.put, List.setIfInBounds_toArray, List.set_cons_zero, List.set_cons_succ]
  have BB := Lib.hid (bt BA.out hbB)
  refine wpAnyH_ready (rs := [7]) (by kernel_rfl) (by simp) ?_
  refine AllReadyH.cons rfl (fun K hK => ?_) AllReadyH.nil
  go_simp
  go_wp2_with (go_at_call 51; (with_reducible refine (divide_any (x0.num.natAbs * 2 ^ k) x0.den _ _ _ (hvA.below hbB) hvB x0.den_pos HL.out).mono ?_); rintro e wC ⟨vQ, vR, rfl, hvQ, hvR, hbC⟩; obtain ⟨ar, cr, rfl, _⟩ := IsRow.opened hvR; obtain ⟨aq, cq, rfl, _⟩ := IsRow.opened hvQ)
  refine hK.out _ _ (kd2 N3.out hbC hh) (fun hh => ?_)
  clear hK K
  try simp only [List.getElem_toArray, List.getElem_cons_zero, List.getElem_cons_succ, Act.put, List.setIfInBounds_toArray, List.set_cons_zero, List.set_cons_succ]
  refine wpAnyH_take (i := 8) (v := ?vp8) rfl (by kernel_rfl) (by kernel_rfl) (by kernel_rfl) (fun _ _ _ h => h) (Or.inl ⟨by rfl, ?hyp8⟩) (by assumption) ?rep8
  case hyp8 => first | (intro w hSw; (try dsimp only at hSw); go_simp; done) | (intro w hSw; (try dsimp only at hSw); go_simp; with_reducible rfl)
  try simp only [List.getElem_toArray, List.getElem_cons_zero, List.getElem_cons_succ, Act.put, List.setIfInBounds_toArray, List.set_cons_zero, List.set_cons_succ]
  refine wpAnyH_take (i := 9) (v := ?vp9) rfl (by kernel_rfl) (by kernel_rfl) (by kernel_rfl) (fun _ _ _ h => h) (Or.inl ⟨by rfl, ?hyp9⟩) (by assumption) ?rep9
  case hyp9 => first | (intro w hSw; (try dsimp only at hSw); go_simp; done) | (intro w hSw; (try dsimp only at hSw); go_simp; with_reducible rfl)
  try simp only [List.getElem_toArray, List.getElem_cons_zero, List.getElem_cons_succ, Act.put, List.setIfInBounds_toArray, List.set_cons_zero, List.set_cons_succ]
  refine wpAnyH_take (i := 10) (v := ?vp10) rfl (by kernel_rfl) (by kernel_rfl) (by kernel_rfl) (fun _ _ _ h => h) (Or.inl ⟨by rfl, ?hyp10⟩) (by assumption) ?rep10
  case hyp10 => first | (intro w hSw; (try dsimp only at hSw); go_simp; done) | (intro w hSw; (try dsimp only at hSw); go_simp; with_reducible rfl)
  try simp only [List.getElem_toArray, List.getElem_cons_zero, List.getElem_cons_succ, Act.put, List.setIfInBounds_toArray, List.set_cons_zero, List.set_cons_succ]
  refine wpAnyH_take (i := 11) (v := ?vp11) rfl (by kernel_rfl) (by kernel_rfl) (by kernel_rfl) (fun _ _ _ h => h) (Or.inl ⟨by rfl, ?hyp11⟩) (by assumption) ?rep11
  case hyp11 => first | (intro w hSw; (try dsimp only at hSw); go_simp; done) | (intro w hSw; (try dsimp only at hSw); go_simp; with_reducible rfl)
  try simp only [List.getElem_toArray, List.getElem_cons_zero, List.getElem_cons_succ, Act.put, List.setIfInBounds_toArray, List.set_cons_zero, List.set_cons_succ]
  refine wpAnyH_take (i := 12) (v := ?vp12) rfl (by kernel_rfl) (by kernel_rfl) (by kernel_rfl) (fun _ _ _ h => h) (Or.inl ⟨by rfl, ?hyp12⟩) (by assumption) ?rep12
  case hyp12 => first | (intro w hSw; (try dsimp only at hSw); go_simp; done) | (intro w hSw; (try dsimp only at hSw); go_simp; with_reducible rfl)
  try simp only [List.getElem_toArray, List.getElem_cons_zero, List.getElem_cons_succ, Act.put, List.setIfInBounds_toArray, List.set_cons_zero, List.set_cons_succ]
  refine wpAnyH_done (by kernel_rfl) ?_ _
  have e1 : W.drew.heap[w.heap.size]? = _ := HB1.out
  have e1A := blk_keep e1 hbA (blk_lt e1)
  have e1B := blk_keep e1A hbB (blk_lt e1A)
  have D1 := Lib.hid (blk_keep e1B hbC (blk_lt e1B))
  have e2 : W.drew.heap[w.heap.size + 1]? = _ := HB2.out
  have e2A := blk_keep e2 hbA (blk_lt e2)
  have e2B := blk_keep e2A hbB (blk_lt e2A)
  have D2 := Lib.hid (blk_keep e2B hbC (blk_lt e2B))
  have HB := Lib.hid (bt BB.out hbC)
  obtain ⟨x0', x1, x2, _, _, _⟩ := fac3 (x := (⟨false, xa, xn, xc, xd, xm, xe⟩ : R3)) D1.out
  have HVQ := Lib.hid hvQ
  clear e1 e1A e1B e2 e2A e2B hh hvA hvB hvQ hvR hbA hbB hbC BA BB HAD N3
  go_wp2_with fail
  generalize wC = W at *
  have hVQ := HVQ.out
  obtain ⟨x0, x1, x2, _, _, _⟩ := fac3 (x := (⟨false, xa, xn, xc, xd, xm, xe⟩ : R3)) D1.out
  have N3 : Hid (w.heap.size + 1 ≤ W.heap.size) := by
    show _ ≤ _
    have := blk_lt D2.out
    omega
  have N0 : Hid (w.heap.size < w.heap.size + 1) := by show _ < _; omega
  have HAD := Lib.hid (HB.out.drew)
  refine wp_region_held_drew (S := (fun w' => Below (w.heap.size + 1) W w' ∧ w'.cell? ⟨w.heap.size, 0, none⟩ = some (.bool false))) (by kernel_rfl) ⟨(Below.refl _ _).drew, x0⟩ (fun hh => ?_)
  clear x0 x1 x2
  refine wpAnyH_take (i := 0) (v := ?vpq0) rfl (by kernel_rfl) (by kernel_rfl) (by kernel_rfl) (fun _ _ _ h => h) (Or.inl ⟨by rfl, ?hypq0⟩) (by assumption) ?repq0
  case hypq0 => first | (intro w hSw; (try dsimp only at hSw); go_simp; done) | (intro w hSw; (try dsimp only at hSw); go_simp; with_reducible rfl)
  try simp only [List.getElem_toArray, List.getElem_cons_zero, List.getElem_cons_succ, Act.put, List.setIfInBounds_toArray, List.set_cons_zero, List.set_cons_succ]
  refine wpAnyH_take (i := 1) (v := ?vpq1) rfl (by kernel_rfl) (by kernel_rfl) (by kernel_rfl) (fun _ _ _ h => h) (Or.inl ⟨by rfl, ?hypq1⟩) (by assumption) ?repq1
  case hypq1 => first | (intro w hSw; (try dsimp only at hSw); go_simp; done) | (intro w hSw; (try dsimp only at hSw); go_simp; with_reducible rfl)
  try simp only [List.getElem_toArray, List.getElem_cons_zero, List.getElem_cons_succ, Act.put, List.setIfInBounds_toArray, List.set_cons_zero, List.set_cons_succ]
  refine wpAnyH_take (i := 2) (v := ?vpq2) rfl (by kernel_rfl) (by kernel_rfl) (by kernel_rfl) (fun _ _ _ h => h) (Or.inl ⟨by rfl, ?hypq2⟩) (by assumption) ?repq2
  case hypq2 => first | (intro w hSw; (try dsimp only at hSw); go_simp; done) | (intro w hSw; (try dsimp only at hSw); go_simp; with_reducible rfl)
  try simp only [List.getElem_toArray, List.getElem_cons_zero, List.getElem_cons_succ, Act.put, List.setIfInBounds_toArray, List.set_cons_zero, List.set_cons_succ]
  refine wpAnyH_take (i := 4) (v := ?vpq4) rfl (by kernel_rfl) (by kernel_rfl) (by kernel_rfl) (fun _ _ _ h => h) (Or.inl ⟨by rfl, ?hypq4⟩) (by assumption) ?repq4
  case hypq4 => first | (intro w hSw; (try dsimp only at hSw); go_simp; done) | (intro w hSw; (try dsimp only at hSw); go_simp; with_reducible rfl)
  try simp only [List.getElem_toArray, List.getElem_cons_zero, List.getElem_cons_succ, Act.put, List.setIfInBounds_toArray, List.set_cons_zero, List.set_cons_succ]
  refine wpAnyH_ready (rs := [3]) (by kernel_rfl) (by simp) ?_
  refine AllReadyH.cons rfl (fun K hK => ?_) AllReadyH.nil
  go_simp
  go_wp2_with (go_at_call 52; (with_reducible refine (word1_any _).mono ?_); rintro e wF ⟨vF, rfl, hvF, hbF⟩)
  refine hK.out _ _ (kd1 N3.out hbF hh) (fun hh => ?_)
  clear hK K
  try simp only [List.getElem_toArray, List.getElem_cons_zero, List.getElem_cons_succ, Act.put, List.setIfInBounds_toArray, List.set_cons_zero, List.set_cons_succ]
  have BF := Lib.hid (bt HAD.out hbF)
  refine wpAnyH_ready (rs := [5]) (by kernel_rfl) (by simp) ?_
  refine AllReadyH.cons rfl (fun K hK => ?_) AllReadyH.nil
  go_simp
  go_wp2_with (go_at_call 50; (with_reducible refine (left_any 1 k _ _ hvF HL1.out HK2.out).mono ?_); rintro e wG ⟨vG, rfl, hvG, hbG⟩)
  refine hK.out _ _ (kd1 N3.out hbG hh) (fun hh => ?_)
  clear hK K
  try simp only [List.getElem_toArray, List.getElem_cons_zero, List.getElem_cons_succ, Act.put, List.setIfInBounds_toArray, List.set_cons_zero, List.set_cons_succ]
  have BG := Lib.hid (bt BF.out hbG)
  rw [Nat.one_mul] at hvG
  refine wpAnyH_ready (rs := [6]) (by kernel_rfl) (by simp) ?_
  refine AllReadyH.cons rfl (fun K hK => ?_) AllReadyH.nil
  go_simp
  go_wp2_with (go_at_call 41; (with_reducible refine (reduced_any false (x0.num.natAbs * 2 ^ k / x0.den) (2 ^ k) _ _ _ (hVQ.below (bt (Below.refl _ _).drew (bt hbF hbG))) hvG (Nat.two_pow_pos k) HLN.out HL2.out).mono ?_); rintro e wI ⟨vI, rfl, hvI, hbI⟩)
  refine hK.out _ _ (kd1 N3.out hbI hh) (fun hh => ?_)
  clear hK K
  try simp only [List.getElem_toArray, List.getElem_cons_zero, List.getElem_cons_succ, Act.put, List.setIfInBounds_toArray, List.set_cons_zero, List.set_cons_succ]
  rw [HQ.out] at hvI
  obtain ⟨z, rfl⟩ := hvI.open3
  have e0 : W.drew.heap[w.heap.size + 1]? = _ := D2.out
  have eF := blk_keep e0 hbF (blk_lt e0)
  have eG := blk_keep eF hbG (blk_lt eF)
  have eI := blk_keep eG hbI (blk_lt eG)
  have E : Hid (wI.heap[w.heap.size + 1]? = some (.cells r30.arr 56 (0, 0))) := eI
  have HV := Lib.hid hvI
  have BZ := Lib.hid (bt BG.out hbI)
  obtain ⟨g0, g1, g2, f0, f1, f2⟩ := fac3 (x := r30) E.out
  refine wpAnyH_ready (rs := [7]) (by kernel_rfl) (by simp) ?_
  refine AllReadyH.cons rfl (fun K hK => ?_) AllReadyH.nil
  go_simp
  refine hK.out _ _ (ks1 (Nat.le_refl _) N0.out (below3r (Below.refl _ _) (Nat.le_refl _)) hh) (fun hh => ?_)
  clear hK K
  try simp only [List.getElem_toArray, List.getElem_cons_zero, List.getElem_cons_succ, Act.put, List.setIfInBounds_toArray, List.set_cons_zero, List.set_cons_succ]
  refine wpAnyH_done (by kernel_rfl) ?_ _
  obtain ⟨h0, h1, h2, _, _, _⟩ := fac3 (x := z) (set3r (x := z) E.out)
  go_wp2_with fail
  refine bodyPost_ret (v := z.val) (by simp [results, Try.results27, go_sem, h0, h1, h2]) rfl ⟨_, rfl, IsRat.set3r HV.out E.out, below3r BZ.out (by omega)⟩
set_option maxRecDepth 100000 in
set_option maxHeartbeats 2000000 in
theorem down_z (x0 : Rat) (k : Nat) (hk : k ≤ 256) (xa : Option Addr) (xn xc : Nat) (xd : Option Addr) (xm xe : Nat) (w : World) (hx : IsRat w (R3.val (⟨true, xa, xn, xc, xd, xm, xe⟩ : R3)) x0) (hs : szR x0 68719476736) (hr : x0.num.natAbs * 2 ^ k % x0.den = 0) (Q : Rat) (hQ : mkQ true (x0.num.natAbs * 2 ^ k / x0.den) (2 ^ k) = Q) :
    Calls Try.prog 27 #[(R3.val (⟨true, xa, xn, xc, xd, xm, xe⟩ : R3)), .int .i64 k] w (RetRat Q w) := by
  obtain ⟨vn, vd, hxe, n1, n2⟩ := hx
  have hxa : Value.slice xa xn xc = vn ∧ Value.slice xd xm xe = vd := by
    injection hxe with hxe
    simp only [Array.mk.injEq, List.cons.injEq] at hxe
    exact ⟨hxe.2.1, hxe.2.2.1⟩
  rw [← hxa.1] at n1
  rw [← hxa.2] at n2
  have H1 := Lib.hid n1
  have H2 := Lib.hid n2
  have hls := len_shift (m := x0.num.natAbs) hk x0.den
  have hs1 := hs.1
  have hl2 := len_pow2 hk
  have HL : Hid ((dig b64 (x0.num.natAbs * 2 ^ k)).length ≤ 274877906944) := by show _ ≤ _; omega
  have HL2 : Hid ((dig b64 (2 ^ k)).length ≤ 274877906944) := by show _ ≤ _; omega
  have HLM : Hid ((dig b64 x0.num.natAbs).length ≤ 549755813888) := by show _ ≤ _; omega
  have HLQ : Hid ((dig b64 (x0.num.natAbs * 2 ^ k / x0.den)).length ≤ 1099511627776) := by show _ ≤ _; omega
  have HLN : Hid ((dig b64 (x0.num.natAbs * 2 ^ k / x0.den)).length ≤ 274877906944) := by show _ ≤ _; omega
  have HL1 : Hid ((dig b64 1).length ≤ 549755813888) := by show _ ≤ _; rw [show (dig b64 1).length = 1 from by decide +kernel]; omega
  have HLO : Hid ((dig b64 1).length ≤ 1099511627776) := by show _ ≤ _; rw [show (dig b64 1).length = 1 from by decide +kernel]; omega
  have HK2 : Hid (k ≤ 549755813888) := by show _ ≤ _; omega
  have HQ := Lib.hid hQ
  have hmx : max (k : Int) 0 = k := by omega
  have hmn : min (k : Int) 256 = k := by omega
  have HR := Lib.hid hr
  clear hr
  clear hxe hxa n1 n2 hls hs1 hs hl2 hQ
  go_enter Try.func27, Try.ntmps27
  go_wp2_with fail
  generalize hW0 : (w.alloc (.cells (R3.arr (⟨true, xa, xn, xc, xd, xm, xe⟩ : R3)) 56)).alloc (.cells _ _) = W at *
  obtain ⟨hal, hB1, hB2⟩ := boxesD w _ _ _ W hW0.symm
  obtain ⟨x0', x1, x2, _, _, _⟩ := fac3 (x := (⟨true, xa, xn, xc, xd, xm, xe⟩ : R3)) hB1
  have HB1 := Lib.hid hB1
  have HB2 := Lib.hid hB2
  have HAL := Lib.hid hal
  have HAD := Lib.hid hal.drew
  have N3 : Hid (w.heap.size ≤ W.heap.size) := hal.size
  clear hW0 hal hB1 hB2
  refine wp_region_held_drew (S := (fun w' => Below (w.heap.size) W w' ∧ w'.cell? ⟨w.heap.size, 1, none⟩ = some (.slice xa xn xc) ∧ w'.cell? ⟨w.heap.size, 2, none⟩ = some (.slice xd xm xe))) (by kernel_rfl) ⟨(Below.refl _ _).drew, x1, x2⟩ (fun hh => ?_)
  clear x0' x1 x2
  refine wpAnyH_take (i := 0) (v := ?vp0) rfl (by kernel_rfl) (by kernel_rfl) (by kernel_rfl) (fun _ _ _ h => h) (Or.inl ⟨by rfl, ?hyp0⟩) (by assumption) ?rep0
  case hyp0 => first | (intro w hSw; (try dsimp only at hSw); go_simp; done) | (intro w hSw; (try dsimp only at hSw); go_simp; with_reducible rfl)
  try simp only [List.getElem_toArray, List.getElem_cons_zero, List.getElem_cons_succ, Act.put, List.setIfInBounds_toArray, List.set_cons_zero, List.set_cons_succ]
  refine wpAnyH_take (i := 1) (v := ?vp1) rfl (by kernel_rfl) (by kernel_rfl) (by kernel_rfl) (fun _ _ _ h => h) (Or.inl ⟨by rfl, ?hyp1⟩) (by assumption) ?rep1
  case hyp1 => first | (intro w hSw; (try dsimp only at hSw); go_simp; done) | (intro w hSw; (try dsimp only at hSw); go_simp; with_reducible rfl)
  try simp only [List.getElem_toArray, List.getElem_cons_zero, List.getElem_cons_succ, Act.put, List.setIfInBounds_toArray, List.set_cons_zero, List.set_cons_succ]
  refine wpAnyH_take (i := 2) (v := ?vp2) rfl (by kernel_rfl) (by kernel_rfl) (by kernel_rfl) (fun _ _ _ h => h) (Or.inl ⟨by rfl, ?hyp2⟩) (by assumption) ?rep2
  case hyp2 => first | (intro w hSw; (try dsimp only at hSw); go_simp; done) | (intro w hSw; (try dsimp only at hSw); go_simp; with_reducible rfl)
  try simp only [List.getElem_toArray, List.getElem_cons_zero, List.getElem_cons_succ, Act.put, List.setIfInBounds_toArray, List.set_cons_zero, List.set_cons_succ]
  refine wpAnyH_take (i := 4) (v := ?vp4) rfl (by kernel_rfl) (by kernel_rfl) (by kernel_rfl) (fun _ _ _ h => h) (Or.inl ⟨by rfl, ?hyp4⟩) (by assumption) ?rep4
  case hyp4 => first | (intro w hSw; (try dsimp only at hSw); go_simp; done) | (intro w hSw; (try dsimp only at hSw); go_simp; with_reducible rfl)
  try simp only [List.getElem_toArray, List.getElem_cons_zero, List.getElem_cons_succ, Act.put, List.setIfInBounds_toArray, List.set_cons_zero, List.set_cons_succ]
  refine wpAnyH_take (i := 5) (v := ?vp5) rfl (by kernel_rfl) (by kernel_rfl) (by kernel_rfl) (fun _ _ _ h => h) (Or.inl ⟨by rfl, ?hyp5⟩) (by assumption) ?rep5
  case hyp5 => first | (intro w hSw; (try dsimp only at hSw); go_simp; done) | (intro w hSw; (try dsimp only at hSw); go_simp; with_reducible rfl)
  try simp only [List.getElem_toArray, List.getElem_cons_zero, List.getElem_cons_succ, Act.put, List.setIfInBounds_toArray, List.set_cons_zero, List.set_cons_succ]
  refine wpAnyH_ready (rs := [3]) (by kernel_rfl) (by simp) ?_
  refine AllReadyH.cons rfl (fun K hK => ?_) AllReadyH.nil
  go_simp
  go_wp2_with (go_at_call 50; (with_reducible refine (left_any x0.num.natAbs k _ _ (H1.out.below HAD.out) HLM.out HK2.out).mono ?_); rintro e wA ⟨vA, rfl, hvA, hbA⟩)
  refine hK.out _ _ (kd2 N3.out hbA hh) (fun hh => ?_)
  clear hK K
  try simp only [List.getElem_toArray, List.getElem_cons_zero, List.getElem_cons_succ, Act.put, List.setIfInBounds_toArray, List.set_cons_zero, List.set_cons_succ]
  have BA := Lib.hid (bt HAD.out hbA)
  refine wpAnyH_ready (rs := [6]) (by kernel_rfl) (by simp) ?_
  refine AllReadyH.cons rfl (fun K hK => ?_) AllReadyH.nil
  go_simp
  go_wp2_with (go_at_call 39; (with_reducible refine (under_any x0.den _ _ (H2.out.below BA.out) x0.den_pos).mono ?_); rintro e wB ⟨vB, rfl, hvB, hbB⟩)
  refine hK.out _ _ (kd2 N3.out hbB hh) (fun hh => ?_)
  clear hK K
  try simp only [List.getElem_toArray, List.getElem_cons_zero, List.getElem_cons_succ, Act.put, List.setIfInBounds_toArray, List.set_cons_zero, List.set_cons_succ]
  have BB := Lib.hid (bt BA.out hbB)
  refine wpAnyH_ready (rs := [7]) (by kernel_rfl) (by simp) ?_
  refine AllReadyH.cons rfl (fun K hK => ?_) AllReadyH.nil
  go_simp
  go_wp2_with (go_at_call 51; (with_reducible refine (divide_any (x0.num.natAbs * 2 ^ k) x0.den _ _ _ (hvA.below hbB) hvB x0.den_pos HL.out).mono ?_); rintro e wC ⟨vQ, vR, rfl, hvQ, hvR, hbC⟩; obtain ⟨ar, cr, rfl, _⟩ := IsRow.opened hvR; obtain ⟨aq, cq, rfl, _⟩ := IsRow.opened hvQ)
  refine hK.out _ _ (kd2 N3.out hbC hh) (fun hh => ?_)
  clear hK K
  try simp only [List.getElem_toArray, List.getElem_cons_zero, List.getElem_cons_succ, Act.put, List.setIfInBounds_toArray, List.set_cons_zero, List.set_cons_succ]
  refine wpAnyH_take (i := 8) (v := ?vp8) rfl (by kernel_rfl) (by kernel_rfl) (by kernel_rfl) (fun _ _ _ h => h) (Or.inl ⟨by rfl, ?hyp8⟩) (by assumption) ?rep8
  case hyp8 => first | (intro w hSw; (try dsimp only at hSw); go_simp; done) | (intro w hSw; (try dsimp only at hSw); go_simp; with_reducible rfl)
  try simp only [List.getElem_toArray, List.getElem_cons_zero, List.getElem_cons_succ, Act.put, List.setIfInBounds_toArray, List.set_cons_zero, List.set_cons_succ]
  refine wpAnyH_take (i := 9) (v := ?vp9) rfl (by kernel_rfl) (by kernel_rfl) (by kernel_rfl) (fun _ _ _ h => h) (Or.inl ⟨by rfl, ?hyp9⟩) (by assumption) ?rep9
  case hyp9 => first | (intro w hSw; (try dsimp only at hSw); go_simp; done) | (intro w hSw; (try dsimp only at hSw); go_simp; with_reducible rfl)
  try simp only [List.getElem_toArray, List.getElem_cons_zero, List.getElem_cons_succ, Act.put, List.setIfInBounds_toArray, List.set_cons_zero, List.set_cons_succ]
  refine wpAnyH_take (i := 10) (v := ?vp10) rfl (by kernel_rfl) (by kernel_rfl) (by kernel_rfl) (fun _ _ _ h => h) (Or.inl ⟨by rfl, ?hyp10⟩) (by assumption) ?rep10
  case hyp10 => first | (intro w hSw; (try dsimp only at hSw); go_simp; done) | (intro w hSw; (try dsimp only at hSw); go_simp; with_reducible rfl)
  try simp only [List.getElem_toArray, List.getElem_cons_zero, List.getElem_cons_succ, Act.put, List.setIfInBounds_toArray, List.set_cons_zero, List.set_cons_succ]
  refine wpAnyH_take (i := 11) (v := ?vp11) rfl (by kernel_rfl) (by kernel_rfl) (by kernel_rfl) (fun _ _ _ h => h) (Or.inl ⟨by rfl, ?hyp11⟩) (by assumption) ?rep11
  case hyp11 => first | (intro w hSw; (try dsimp only at hSw); go_simp; done) | (intro w hSw; (try dsimp only at hSw); go_simp; with_reducible rfl)
  try simp only [List.getElem_toArray, List.getElem_cons_zero, List.getElem_cons_succ, Act.put, List.setIfInBounds_toArray, List.set_cons_zero, List.set_cons_succ]
  refine wpAnyH_take (i := 12) (v := ?vp12) rfl (by kernel_rfl) (by kernel_rfl) (by kernel_rfl) (fun _ _ _ h => h) (Or.inl ⟨by rfl, ?hyp12⟩) (by assumption) ?rep12
  case hyp12 => first | (intro w hSw; (try dsimp only at hSw); go_simp; done) | (intro w hSw; (try dsimp only at hSw); go_simp; with_reducible rfl)
  try simp only [List.getElem_toArray, List.getElem_cons_zero, List.getElem_cons_succ, Act.put, List.setIfInBounds_toArray, List.set_cons_zero, List.set_cons_succ]
  refine wpAnyH_done (by kernel_rfl) ?_ _
  have e1 : W.drew.heap[w.heap.size]? = _ := HB1.out
  have e1A := blk_keep e1 hbA (blk_lt e1)
  have e1B := blk_keep e1A hbB (blk_lt e1A)
  have D1 := Lib.hid (blk_keep e1B hbC (blk_lt e1B))
  have e2 : W.drew.heap[w.heap.size + 1]? = _ := HB2.out
  have e2A := blk_keep e2 hbA (blk_lt e2)
  have e2B := blk_keep e2A hbB (blk_lt e2A)
  have D2 := Lib.hid (blk_keep e2B hbC (blk_lt e2B))
  have HB := Lib.hid (bt BB.out hbC)
  obtain ⟨x0', x1, x2, _, _, _⟩ := fac3 (x := (⟨true, xa, xn, xc, xd, xm, xe⟩ : R3)) D1.out
  have HVQ := Lib.hid hvQ
  clear e1 e1A e1B e2 e2A e2B hh hvA hvB hvQ hvR hbA hbB hbC BA BB HAD N3
  rw [show (dig b64 (x0.num.natAbs * 2 ^ k % x0.den)).length = 0 from by rw [HR.out]; rfl]
  go_wp2_with fail
  generalize wC = W at *
  have hVQ := HVQ.out
  obtain ⟨x0, x1, x2, _, _, _⟩ := fac3 (x := (⟨true, xa, xn, xc, xd, xm, xe⟩ : R3)) D1.out
  have N3 : Hid (w.heap.size + 1 ≤ W.heap.size) := by
    show _ ≤ _
    have := blk_lt D2.out
    omega
  have N0 : Hid (w.heap.size < w.heap.size + 1) := by show _ < _; omega
  have HAD := Lib.hid (HB.out.drew)
  refine wp_region_held_drew (S := (fun w' => Below (w.heap.size + 1) W w' ∧ w'.cell? ⟨w.heap.size, 0, none⟩ = some (.bool true))) (by kernel_rfl) ⟨(Below.refl _ _).drew, x0⟩ (fun hh => ?_)
  clear x0 x1 x2
  refine wpAnyH_take (i := 0) (v := ?vpq0) rfl (by kernel_rfl) (by kernel_rfl) (by kernel_rfl) (fun _ _ _ h => h) (Or.inl ⟨by rfl, ?hypq0⟩) (by assumption) ?repq0
  case hypq0 => first | (intro w hSw; (try dsimp only at hSw); go_simp; done) | (intro w hSw; (try dsimp only at hSw); go_simp; with_reducible rfl)
  try simp only [List.getElem_toArray, List.getElem_cons_zero, List.getElem_cons_succ, Act.put, List.setIfInBounds_toArray, List.set_cons_zero, List.set_cons_succ]
  refine wpAnyH_take (i := 1) (v := ?vpq1) rfl (by kernel_rfl) (by kernel_rfl) (by kernel_rfl) (fun _ _ _ h => h) (Or.inl ⟨by rfl, ?hypq1⟩) (by assumption) ?repq1
  case hypq1 => first | (intro w hSw; (try dsimp only at hSw); go_simp; done) | (intro w hSw; (try dsimp only at hSw); go_simp; with_reducible rfl)
  try simp only [List.getElem_toArray, List.getElem_cons_zero, List.getElem_cons_succ, Act.put, List.setIfInBounds_toArray, List.set_cons_zero, List.set_cons_succ]
  refine wpAnyH_take (i := 2) (v := ?vpq2) rfl (by kernel_rfl) (by kernel_rfl) (by kernel_rfl) (fun _ _ _ h => h) (Or.inl ⟨by rfl, ?hypq2⟩) (by assumption) ?repq2
  case hypq2 => first | (intro w hSw; (try dsimp only at hSw); go_simp; done) | (intro w hSw; (try dsimp only at hSw); go_simp; with_reducible rfl)
  try simp only [List.getElem_toArray, List.getElem_cons_zero, List.getElem_cons_succ, Act.put, List.setIfInBounds_toArray, List.set_cons_zero, List.set_cons_succ]
  refine wpAnyH_take (i := 4) (v := ?vpq4) rfl (by kernel_rfl) (by kernel_rfl) (by kernel_rfl) (fun _ _ _ h => h) (Or.inl ⟨by rfl, ?hypq4⟩) (by assumption) ?repq4
  case hypq4 => first | (intro w hSw; (try dsimp only at hSw); go_simp; done) | (intro w hSw; (try dsimp only at hSw); go_simp; with_reducible rfl)
  try simp only [List.getElem_toArray, List.getElem_cons_zero, List.getElem_cons_succ, Act.put, List.setIfInBounds_toArray, List.set_cons_zero, List.set_cons_succ]
  refine wpAnyH_ready (rs := [3]) (by kernel_rfl) (by simp) ?_
  refine AllReadyH.cons rfl (fun K hK => ?_) AllReadyH.nil
  go_simp
  go_wp2_with (go_at_call 52; (with_reducible refine (word1_any _).mono ?_); rintro e wF ⟨vF, rfl, hvF, hbF⟩)
  refine hK.out _ _ (kd1 N3.out hbF hh) (fun hh => ?_)
  clear hK K
  try simp only [List.getElem_toArray, List.getElem_cons_zero, List.getElem_cons_succ, Act.put, List.setIfInBounds_toArray, List.set_cons_zero, List.set_cons_succ]
  have BF := Lib.hid (bt HAD.out hbF)
  refine wpAnyH_ready (rs := [5]) (by kernel_rfl) (by simp) ?_
  refine AllReadyH.cons rfl (fun K hK => ?_) AllReadyH.nil
  go_simp
  go_wp2_with (go_at_call 50; (with_reducible refine (left_any 1 k _ _ hvF HL1.out HK2.out).mono ?_); rintro e wG ⟨vG, rfl, hvG, hbG⟩)
  refine hK.out _ _ (kd1 N3.out hbG hh) (fun hh => ?_)
  clear hK K
  try simp only [List.getElem_toArray, List.getElem_cons_zero, List.getElem_cons_succ, Act.put, List.setIfInBounds_toArray, List.set_cons_zero, List.set_cons_succ]
  have BG := Lib.hid (bt BF.out hbG)
  rw [Nat.one_mul] at hvG
  refine wpAnyH_ready (rs := [6]) (by kernel_rfl) (by simp) ?_
  refine AllReadyH.cons rfl (fun K hK => ?_) AllReadyH.nil
  go_simp
  go_wp2_with (go_at_call 41; (with_reducible refine (reduced_any true (x0.num.natAbs * 2 ^ k / x0.den) (2 ^ k) _ _ _ (hVQ.below (bt (Below.refl _ _).drew (bt hbF hbG))) hvG (Nat.two_pow_pos k) HLN.out HL2.out).mono ?_); rintro e wI ⟨vI, rfl, hvI, hbI⟩)
  refine hK.out _ _ (kd1 N3.out hbI hh) (fun hh => ?_)
  clear hK K
  try simp only [List.getElem_toArray, List.getElem_cons_zero, List.getElem_cons_succ, Act.put, List.setIfInBounds_toArray, List.set_cons_zero, List.set_cons_succ]
  rw [HQ.out] at hvI
  obtain ⟨z, rfl⟩ := hvI.open3
  have e0 : W.drew.heap[w.heap.size + 1]? = _ := D2.out
  have eF := blk_keep e0 hbF (blk_lt e0)
  have eG := blk_keep eF hbG (blk_lt eF)
  have eI := blk_keep eG hbI (blk_lt eG)
  have E : Hid (wI.heap[w.heap.size + 1]? = some (.cells r30.arr 56 (0, 0))) := eI
  have HV := Lib.hid hvI
  have BZ := Lib.hid (bt BG.out hbI)
  obtain ⟨g0, g1, g2, f0, f1, f2⟩ := fac3 (x := r30) E.out
  refine wpAnyH_ready (rs := [7]) (by kernel_rfl) (by simp) ?_
  refine AllReadyH.cons rfl (fun K hK => ?_) AllReadyH.nil
  go_simp
  refine hK.out _ _ (ks1 (Nat.le_refl _) N0.out (below3r (Below.refl _ _) (Nat.le_refl _)) hh) (fun hh => ?_)
  clear hK K
  try simp only [List.getElem_toArray, List.getElem_cons_zero, List.getElem_cons_succ, Act.put, List.setIfInBounds_toArray, List.set_cons_zero, List.set_cons_succ]
  refine wpAnyH_done (by kernel_rfl) ?_ _
  obtain ⟨h0, h1, h2, _, _, _⟩ := fac3 (x := z) (set3r (x := z) E.out)
  go_wp2_with fail
  refine bodyPost_ret (v := z.val) (by simp [results, Try.results27, go_sem, h0, h1, h2]) rfl ⟨_, rfl, IsRat.set3r HV.out E.out, below3r BZ.out (by omega)⟩
set_option maxRecDepth 100000 in
set_option maxHeartbeats 2000000 in
theorem down_1 (x0 : Rat) (k : Nat) (hk : k ≤ 256) (xa : Option Addr) (xn xc : Nat) (xd : Option Addr) (xm xe : Nat) (w : World) (hx : IsRat w (R3.val (⟨true, xa, xn, xc, xd, xm, xe⟩ : R3)) x0) (hs : szR x0 68719476736) (hr : 0 < (dig b64 (x0.num.natAbs * 2 ^ k % x0.den)).length) (Q : Rat) (hQ : mkQ true (x0.num.natAbs * 2 ^ k / x0.den + 1) (2 ^ k) = Q) :
    Calls Try.prog 27 #[(R3.val (⟨true, xa, xn, xc, xd, xm, xe⟩ : R3)), .int .i64 k] w (RetRat Q w) := by
  obtain ⟨vn, vd, hxe, n1, n2⟩ := hx
  have hxa : Value.slice xa xn xc = vn ∧ Value.slice xd xm xe = vd := by
    injection hxe with hxe
    simp only [Array.mk.injEq, List.cons.injEq] at hxe
    exact ⟨hxe.2.1, hxe.2.2.1⟩
  rw [← hxa.1] at n1
  rw [← hxa.2] at n2
  have H1 := Lib.hid n1
  have H2 := Lib.hid n2
  have hls := len_shift (m := x0.num.natAbs) hk x0.den
  have hs1 := hs.1
  have hl2 := len_pow2 hk
  have HL : Hid ((dig b64 (x0.num.natAbs * 2 ^ k)).length ≤ 274877906944) := by show _ ≤ _; omega
  have HL2 : Hid ((dig b64 (2 ^ k)).length ≤ 274877906944) := by show _ ≤ _; omega
  have HLM : Hid ((dig b64 x0.num.natAbs).length ≤ 549755813888) := by show _ ≤ _; omega
  have HLQ : Hid ((dig b64 (x0.num.natAbs * 2 ^ k / x0.den)).length ≤ 1099511627776) := by show _ ≤ _; omega
  have HLN : Hid ((dig b64 (x0.num.natAbs * 2 ^ k / x0.den + 1)).length ≤ 274877906944) := by show _ ≤ _; omega
  have HL1 : Hid ((dig b64 1).length ≤ 549755813888) := by show _ ≤ _; rw [show (dig b64 1).length = 1 from by decide +kernel]; omega
  have HLO : Hid ((dig b64 1).length ≤ 1099511627776) := by show _ ≤ _; rw [show (dig b64 1).length = 1 from by decide +kernel]; omega
  have HK2 : Hid (k ≤ 549755813888) := by show _ ≤ _; omega
  have HQ := Lib.hid hQ
  have hmx : max (k : Int) 0 = k := by omega
  have hmn : min (k : Int) 256 = k := by omega
  have HR := Lib.hid hr
  clear hr
  clear hxe hxa n1 n2 hls hs1 hs hl2 hQ
  go_enter Try.func27, Try.ntmps27
  go_wp2_with fail
  generalize hW0 : (w.alloc (.cells (R3.arr (⟨true, xa, xn, xc, xd, xm, xe⟩ : R3)) 56)).alloc (.cells _ _) = W at *
  obtain ⟨hal, hB1, hB2⟩ := boxesD w _ _ _ W hW0.symm
  obtain ⟨x0', x1, x2, _, _, _⟩ := fac3 (x := (⟨true, xa, xn, xc, xd, xm, xe⟩ : R3)) hB1
  have HB1 := Lib.hid hB1
  have HB2 := Lib.hid hB2
  have HAL := Lib.hid hal
  have HAD := Lib.hid hal.drew
  have N3 : Hid (w.heap.size ≤ W.heap.size) := hal.size
  clear hW0 hal hB1 hB2
  refine wp_region_held_drew (S := (fun w' => Below (w.heap.size) W w' ∧ w'.cell? ⟨w.heap.size, 1, none⟩ = some (.slice xa xn xc) ∧ w'.cell? ⟨w.heap.size, 2, none⟩ = some (.slice xd xm xe))) (by kernel_rfl) ⟨(Below.refl _ _).drew, x1, x2⟩ (fun hh => ?_)
  clear x0' x1 x2
  refine wpAnyH_take (i := 0) (v := ?vp0) rfl (by kernel_rfl) (by kernel_rfl) (by kernel_rfl) (fun _ _ _ h => h) (Or.inl ⟨by rfl, ?hyp0⟩) (by assumption) ?rep0
  case hyp0 => first | (intro w hSw; (try dsimp only at hSw); go_simp; done) | (intro w hSw; (try dsimp only at hSw); go_simp; with_reducible rfl)
  try simp only [List.getElem_toArray, List.getElem_cons_zero, List.getElem_cons_succ, Act.put, List.setIfInBounds_toArray, List.set_cons_zero, List.set_cons_succ]
  refine wpAnyH_take (i := 1) (v := ?vp1) rfl (by kernel_rfl) (by kernel_rfl) (by kernel_rfl) (fun _ _ _ h => h) (Or.inl ⟨by rfl, ?hyp1⟩) (by assumption) ?rep1
  case hyp1 => first | (intro w hSw; (try dsimp only at hSw); go_simp; done) | (intro w hSw; (try dsimp only at hSw); go_simp; with_reducible rfl)
  try simp only [List.getElem_toArray, List.getElem_cons_zero, List.getElem_cons_succ, Act.put, List.setIfInBounds_toArray, List.set_cons_zero, List.set_cons_succ]
  refine wpAnyH_take (i := 2) (v := ?vp2) rfl (by kernel_rfl) (by kernel_rfl) (by kernel_rfl) (fun _ _ _ h => h) (Or.inl ⟨by rfl, ?hyp2⟩) (by assumption) ?rep2
  case hyp2 => first | (intro w hSw; (try dsimp only at hSw); go_simp; done) | (intro w hSw; (try dsimp only at hSw); go_simp; with_reducible rfl)
  try simp only [List.getElem_toArray, List.getElem_cons_zero, List.getElem_cons_succ, Act.put, List.setIfInBounds_toArray, List.set_cons_zero, List.set_cons_succ]
  refine wpAnyH_take (i := 4) (v := ?vp4) rfl (by kernel_rfl) (by kernel_rfl) (by kernel_rfl) (fun _ _ _ h => h) (Or.inl ⟨by rfl, ?hyp4⟩) (by assumption) ?rep4
  case hyp4 => first | (intro w hSw; (try dsimp only at hSw); go_simp; done) | (intro w hSw; (try dsimp only at hSw); go_simp; with_reducible rfl)
  try simp only [List.getElem_toArray, List.getElem_cons_zero, List.getElem_cons_succ, Act.put, List.setIfInBounds_toArray, List.set_cons_zero, List.set_cons_succ]
  refine wpAnyH_take (i := 5) (v := ?vp5) rfl (by kernel_rfl) (by kernel_rfl) (by kernel_rfl) (fun _ _ _ h => h) (Or.inl ⟨by rfl, ?hyp5⟩) (by assumption) ?rep5
  case hyp5 => first | (intro w hSw; (try dsimp only at hSw); go_simp; done) | (intro w hSw; (try dsimp only at hSw); go_simp; with_reducible rfl)
  try simp only [List.getElem_toArray, List.getElem_cons_zero, List.getElem_cons_succ, Act.put, List.setIfInBounds_toArray, List.set_cons_zero, List.set_cons_succ]
  refine wpAnyH_ready (rs := [3]) (by kernel_rfl) (by simp) ?_
  refine AllReadyH.cons rfl (fun K hK => ?_) AllReadyH.nil
  go_simp
  go_wp2_with (go_at_call 50; (with_reducible refine (left_any x0.num.natAbs k _ _ (H1.out.below HAD.out) HLM.out HK2.out).mono ?_); rintro e wA ⟨vA, rfl, hvA, hbA⟩)
  refine hK.out _ _ (kd2 N3.out hbA hh) (fun hh => ?_)
  clear hK K
  try simp only [List.getElem_toArray, List.getElem_cons_zero, List.getElem_cons_succ, Act.put, List.setIfInBounds_toArray, List.set_cons_zero, List.set_cons_succ]
  have BA := Lib.hid (bt HAD.out hbA)
  refine wpAnyH_ready (rs := [6]) (by kernel_rfl) (by simp) ?_
  refine AllReadyH.cons rfl (fun K hK => ?_) AllReadyH.nil
  go_simp
  go_wp2_with (go_at_call 39; (with_reducible refine (under_any x0.den _ _ (H2.out.below BA.out) x0.den_pos).mono ?_); rintro e wB ⟨vB, rfl, hvB, hbB⟩)
  refine hK.out _ _ (kd2 N3.out hbB hh) (fun hh => ?_)
  clear hK K
  try simp only [List.getElem_toArray, List.getElem_cons_zero, List.getElem_cons_succ, Act.put, List.setIfInBounds_toArray, List.set_cons_zero, List.set_cons_succ]
  have BB := Lib.hid (bt BA.out hbB)
  refine wpAnyH_ready (rs := [7]) (by kernel_rfl) (by simp) ?_
  refine AllReadyH.cons rfl (fun K hK => ?_) AllReadyH.nil
  go_simp
  go_wp2_with (go_at_call 51; (with_reducible refine (divide_any (x0.num.natAbs * 2 ^ k) x0.den _ _ _ (hvA.below hbB) hvB x0.den_pos HL.out).mono ?_); rintro e wC ⟨vQ, vR, rfl, hvQ, hvR, hbC⟩; obtain ⟨ar, cr, rfl, _⟩ := IsRow.opened hvR; obtain ⟨aq, cq, rfl, _⟩ := IsRow.opened hvQ)
  refine hK.out _ _ (kd2 N3.out hbC hh) (fun hh => ?_)
  clear hK K
  try simp only [List.getElem_toArray, List.getElem_cons_zero, List.getElem_cons_succ, Act.put, List.setIfInBounds_toArray, List.set_cons_zero, List.set_cons_succ]
  refine wpAnyH_take (i := 8) (v := ?vp8) rfl (by kernel_rfl) (by kernel_rfl) (by kernel_rfl) (fun _ _ _ h => h) (Or.inl ⟨by rfl, ?hyp8⟩) (by assumption) ?rep8
  case hyp8 => first | (intro w hSw; (try dsimp only at hSw); go_simp; done) | (intro w hSw; (try dsimp only at hSw); go_simp; with_reducible rfl)
  try simp only [List.getElem_toArray, List.getElem_cons_zero, List.getElem_cons_succ, Act.put, List.setIfInBounds_toArray, List.set_cons_zero, List.set_cons_succ]
  refine wpAnyH_take (i := 9) (v := ?vp9) rfl (by kernel_rfl) (by kernel_rfl) (by kernel_rfl) (fun _ _ _ h => h) (Or.inl ⟨by rfl, ?hyp9⟩) (by assumption) ?rep9
  case hyp9 => first | (intro w hSw; (try dsimp only at hSw); go_simp; done) | (intro w hSw; (try dsimp only at hSw); go_simp; with_reducible rfl)
  try simp only [List.getElem_toArray, List.getElem_cons_zero, List.getElem_cons_succ, Act.put, List.setIfInBounds_toArray, List.set_cons_zero, List.set_cons_succ]
  refine wpAnyH_take (i := 10) (v := ?vp10) rfl (by kernel_rfl) (by kernel_rfl) (by kernel_rfl) (fun _ _ _ h => h) (Or.inl ⟨by rfl, ?hyp10⟩) (by assumption) ?rep10
  case hyp10 => first | (intro w hSw; (try dsimp only at hSw); go_simp; done) | (intro w hSw; (try dsimp only at hSw); go_simp; with_reducible rfl)
  try simp only [List.getElem_toArray, List.getElem_cons_zero, List.getElem_cons_succ, Act.put, List.setIfInBounds_toArray, List.set_cons_zero, List.set_cons_succ]
  refine wpAnyH_take (i := 11) (v := ?vp11) rfl (by kernel_rfl) (by kernel_rfl) (by kernel_rfl) (fun _ _ _ h => h) (Or.inl ⟨by rfl, ?hyp11⟩) (by assumption) ?rep11
  case hyp11 => first | (intro w hSw; (try dsimp only at hSw); go_simp; done) | (intro w hSw; (try dsimp only at hSw); go_simp; with_reducible rfl)
  try simp only [List.getElem_toArray, List.getElem_cons_zero, List.getElem_cons_succ, Act.put, List.setIfInBounds_toArray, List.set_cons_zero, List.set_cons_succ]
  refine wpAnyH_take (i := 12) (v := ?vp12) rfl (by kernel_rfl) (by kernel_rfl) (by kernel_rfl) (fun _ _ _ h => h) (Or.inl ⟨by rfl, ?hyp12⟩) (by assumption) ?rep12
  case hyp12 => first | (intro w hSw; (try dsimp only at hSw); go_simp; done) | (intro w hSw; (try dsimp only at hSw); go_simp; with_reducible rfl)
  try simp only [List.getElem_toArray, List.getElem_cons_zero, List.getElem_cons_succ, Act.put, List.setIfInBounds_toArray, List.set_cons_zero, List.set_cons_succ]
  refine wpAnyH_done (by kernel_rfl) ?_ _
  have e1 : W.drew.heap[w.heap.size]? = _ := HB1.out
  have e1A := blk_keep e1 hbA (blk_lt e1)
  have e1B := blk_keep e1A hbB (blk_lt e1A)
  have D1 := Lib.hid (blk_keep e1B hbC (blk_lt e1B))
  have e2 : W.drew.heap[w.heap.size + 1]? = _ := HB2.out
  have e2A := blk_keep e2 hbA (blk_lt e2)
  have e2B := blk_keep e2A hbB (blk_lt e2A)
  have D2 := Lib.hid (blk_keep e2B hbC (blk_lt e2B))
  have HB := Lib.hid (bt BB.out hbC)
  obtain ⟨x0', x1, x2, _, _, _⟩ := fac3 (x := (⟨true, xa, xn, xc, xd, xm, xe⟩ : R3)) D1.out
  have HVQ := Lib.hid hvQ
  clear e1 e1A e1B e2 e2A e2B hh hvA hvB hvQ hvR hbA hbB hbC BA BB HAD N3
  have hlr : decide (((dig b64 (x0.num.natAbs * 2 ^ k % x0.den)).length : Int) > 0) = true := decide_eq_true (by have := HR.out; omega)
  have hlr2 : decide (0 < (dig b64 (x0.num.natAbs * 2 ^ k % x0.den)).length) = true := decide_eq_true HR.out
  go_wp2_with fail
  refine (word1_any _).mono ?_
  rintro e wD ⟨vD, rfl, hvD, hbD⟩
  go_wp2_with fail
  refine (plus_any (x0.num.natAbs * 2 ^ k / x0.den) 1 _ _ _ (HVQ.out.below hbD) hvD HLQ.out HLO.out).mono ?_
  rintro e wE ⟨vE, rfl, hvE, hbE⟩
  have D1' := Lib.hid (blk_keep (blk_keep D1.out hbD (blk_lt D1.out)) hbE (by have := blk_lt (blk_keep D1.out hbD (blk_lt D1.out)); exact this))
  have D2' := Lib.hid (blk_keep (blk_keep D2.out hbD (blk_lt D2.out)) hbE (by have := blk_lt (blk_keep D2.out hbD (blk_lt D2.out)); exact this))
  have HB' := Lib.hid (bt (bt HB.out hbD) hbE)
  have HVE := Lib.hid hvE
  clear x0' x1 x2 hlr hlr2 D1 D2 HB hvD hvE hbD hbE
  go_wp2_with fail
  generalize wE = W at *
  have hVQ := HVE.out
  have D1 := Lib.hid D1'.out
  have D2 := Lib.hid D2'.out
  have HB := Lib.hid HB'.out
  obtain ⟨x0, x1, x2, _, _, _⟩ := fac3 (x := (⟨true, xa, xn, xc, xd, xm, xe⟩ : R3)) D1.out
  have N3 : Hid (w.heap.size + 1 ≤ W.heap.size) := by
    show _ ≤ _
    have := blk_lt D2.out
    omega
  have N0 : Hid (w.heap.size < w.heap.size + 1) := by show _ < _; omega
  have HAD := Lib.hid (HB.out.drew)
  refine wp_region_held_drew (S := (fun w' => Below (w.heap.size + 1) W w' ∧ w'.cell? ⟨w.heap.size, 0, none⟩ = some (.bool true))) (by kernel_rfl) ⟨(Below.refl _ _).drew, x0⟩ (fun hh => ?_)
  clear x0 x1 x2
  refine wpAnyH_take (i := 0) (v := ?vpq0) rfl (by kernel_rfl) (by kernel_rfl) (by kernel_rfl) (fun _ _ _ h => h) (Or.inl ⟨by rfl, ?hypq0⟩) (by assumption) ?repq0
  case hypq0 => first | (intro w hSw; (try dsimp only at hSw); go_simp; done) | (intro w hSw; (try dsimp only at hSw); go_simp; with_reducible rfl)
  try simp only [List.getElem_toArray, List.getElem_cons_zero, List.getElem_cons_succ, Act.put, List.setIfInBounds_toArray, List.set_cons_zero, List.set_cons_succ]
  refine wpAnyH_take (i := 1) (v := ?vpq1) rfl (by kernel_rfl) (by kernel_rfl) (by kernel_rfl) (fun _ _ _ h => h) (Or.inl ⟨by rfl, ?hypq1⟩) (by assumption) ?repq1
  case hypq1 => first | (intro w hSw; (try dsimp only at hSw); go_simp; done) | (intro w hSw; (try dsimp only at hSw); go_simp; with_reducible rfl)
  try simp only [List.getElem_toArray, List.getElem_cons_zero, List.getElem_cons_succ, Act.put, List.setIfInBounds_toArray, List.set_cons_zero, List.set_cons_succ]
  refine wpAnyH_take (i := 2) (v := ?vpq2) rfl (by kernel_rfl) (by kernel_rfl) (by kernel_rfl) (fun _ _ _ h => h) (Or.inl ⟨by rfl, ?hypq2⟩) (by assumption) ?repq2
  case hypq2 => first | (intro w hSw; (try dsimp only at hSw); go_simp; done) | (intro w hSw; (try dsimp only at hSw); go_simp; with_reducible rfl)
  try simp only [List.getElem_toArray, List.getElem_cons_zero, List.getElem_cons_succ, Act.put, List.setIfInBounds_toArray, List.set_cons_zero, List.set_cons_succ]
  refine wpAnyH_take (i := 4) (v := ?vpq4) rfl (by kernel_rfl) (by kernel_rfl) (by kernel_rfl) (fun _ _ _ h => h) (Or.inl ⟨by rfl, ?hypq4⟩) (by assumption) ?repq4
  case hypq4 => first | (intro w hSw; (try dsimp only at hSw); go_simp; done) | (intro w hSw; (try dsimp only at hSw); go_simp; with_reducible rfl)
  try simp only [List.getElem_toArray, List.getElem_cons_zero, List.getElem_cons_succ, Act.put, List.setIfInBounds_toArray, List.set_cons_zero, List.set_cons_succ]
  refine wpAnyH_ready (rs := [3]) (by kernel_rfl) (by simp) ?_
  refine AllReadyH.cons rfl (fun K hK => ?_) AllReadyH.nil
  go_simp
  go_wp2_with (go_at_call 52; (with_reducible refine (word1_any _).mono ?_); rintro e wF ⟨vF, rfl, hvF, hbF⟩)
  refine hK.out _ _ (kd1 N3.out hbF hh) (fun hh => ?_)
  clear hK K
  try simp only [List.getElem_toArray, List.getElem_cons_zero, List.getElem_cons_succ, Act.put, List.setIfInBounds_toArray, List.set_cons_zero, List.set_cons_succ]
  have BF := Lib.hid (bt HAD.out hbF)
  refine wpAnyH_ready (rs := [5]) (by kernel_rfl) (by simp) ?_
  refine AllReadyH.cons rfl (fun K hK => ?_) AllReadyH.nil
  go_simp
  go_wp2_with (go_at_call 50; (with_reducible refine (left_any 1 k _ _ hvF HL1.out HK2.out).mono ?_); rintro e wG ⟨vG, rfl, hvG, hbG⟩)
  refine hK.out _ _ (kd1 N3.out hbG hh) (fun hh => ?_)
  clear hK K
  try simp only [List.getElem_toArray, List.getElem_cons_zero, List.getElem_cons_succ, Act.put, List.setIfInBounds_toArray, List.set_cons_zero, List.set_cons_succ]
  have BG := Lib.hid (bt BF.out hbG)
  rw [Nat.one_mul] at hvG
  refine wpAnyH_ready (rs := [6]) (by kernel_rfl) (by simp) ?_
  refine AllReadyH.cons rfl (fun K hK => ?_) AllReadyH.nil
  go_simp
  go_wp2_with (go_at_call 41; (with_reducible refine (reduced_any true (x0.num.natAbs * 2 ^ k / x0.den + 1) (2 ^ k) _ _ _ (hVQ.below (bt (Below.refl _ _).drew (bt hbF hbG))) hvG (Nat.two_pow_pos k) HLN.out HL2.out).mono ?_); rintro e wI ⟨vI, rfl, hvI, hbI⟩)
  refine hK.out _ _ (kd1 N3.out hbI hh) (fun hh => ?_)
  clear hK K
  try simp only [List.getElem_toArray, List.getElem_cons_zero, List.getElem_cons_succ, Act.put, List.setIfInBounds_toArray, List.set_cons_zero, List.set_cons_succ]
  rw [HQ.out] at hvI
  obtain ⟨z, rfl⟩ := hvI.open3
  have e0 : W.drew.heap[w.heap.size + 1]? = _ := D2.out
  have eF := blk_keep e0 hbF (blk_lt e0)
  have eG := blk_keep eF hbG (blk_lt eF)
  have eI := blk_keep eG hbI (blk_lt eG)
  have E : Hid (wI.heap[w.heap.size + 1]? = some (.cells r30.arr 56 (0, 0))) := eI
  have HV := Lib.hid hvI
  have BZ := Lib.hid (bt BG.out hbI)
  obtain ⟨g0, g1, g2, f0, f1, f2⟩ := fac3 (x := r30) E.out
  refine wpAnyH_ready (rs := [7]) (by kernel_rfl) (by simp) ?_
  refine AllReadyH.cons rfl (fun K hK => ?_) AllReadyH.nil
  go_simp
  refine hK.out _ _ (ks1 (Nat.le_refl _) N0.out (below3r (Below.refl _ _) (Nat.le_refl _)) hh) (fun hh => ?_)
  clear hK K
  try simp only [List.getElem_toArray, List.getElem_cons_zero, List.getElem_cons_succ, Act.put, List.setIfInBounds_toArray, List.set_cons_zero, List.set_cons_succ]
  refine wpAnyH_done (by kernel_rfl) ?_ _
  obtain ⟨h0, h1, h2, _, _, _⟩ := fac3 (x := z) (set3r (x := z) E.out)
  go_wp2_with fail
  refine bodyPost_ret (v := z.val) (by simp [results, Try.results27, go_sem, h0, h1, h2]) rfl ⟨_, rfl, IsRat.set3r HV.out E.out, below3r BZ.out (by omega)⟩
end Go.Proofs.Ytmfochplnchgcaa

/- THE WALKS of Ratio.Up, Range.Round, Range.Text and cure's step; printed by wip/tools/gen_cp.py. -/
namespace Go.Proofs.Ytmfochplnchgcaa
open Go.RowKit

theorem IsRat.neg3 {w : World} {x : R3} {q : Rat} (h : IsRat w x.val q) : x.b = decide (q.num < 0) := by
  obtain ⟨vn, vd, hxe, _, _⟩ := h
  injection hxe with hxe
  simp only [Array.mk.injEq, List.cons.injEq] at hxe
  have := hxe.1
  injection this
theorem down_any (q : Rat) (k : Nat) (hk : k ≤ 256) (v : Value) (w : World) (h : IsRat w v q) (hs : szR q 68719476736) : Calls Try.prog 27 #[v, .int .i64 k] w (RetRat (downQ q k) w) := by
  obtain ⟨x, rfl⟩ := h.open3
  have hb := h.neg3
  obtain ⟨b, xa, xn, xc, xd, xm, xe⟩ := x
  cases b with
  | false =>
    have hn : decide (q.num < 0) = false := hb.symm
    refine down_f q k hk xa xn xc xd xm xe w h hs _ ?_
    unfold downQ downN
    rw [hn, if_neg (fun h => by rw [decide_eq_false_iff_not] at hn; exact hn h.1)]
  | true =>
    have hn : decide (q.num < 0) = true := hb.symm
    by_cases hr : q.num.natAbs * 2 ^ k % q.den = 0
    · refine down_z q k hk xa xn xc xd xm xe w h hs hr _ ?_
      unfold downQ downN
      rw [hn, if_neg (fun h => h.2 hr)]
    · have hl : 0 < (dig b64 (q.num.natAbs * 2 ^ k % q.den)).length := by
        rcases Nat.eq_zero_or_pos (dig b64 (q.num.natAbs * 2 ^ k % q.den)).length with h0 | h0
        · exfalso
          have e := List.eq_nil_of_length_eq_zero h0
          have := lv_dig b64_two (q.num.natAbs * 2 ^ k % q.den)
          rw [e] at this
          exact hr this.symm
        · exact h0
      refine down_1 q k hk xa xn xc xd xm xe w h hs hl _ ?_
      unfold downQ downN
      rw [hn, if_pos ⟨of_decide_eq_true hn, hr⟩]
set_option maxRecDepth 100000 in
set_option maxHeartbeats 2000000 in
theorem up_any (q : Rat) (k : Nat) (hk : k ≤ 256) (v : Value) (w : World) (h : IsRat w v q) (hs : szR (-q) 68719476736) : Calls Try.prog 85 #[v, .int .i64 k] w (RetRat (upQ q k) w) := by
  obtain ⟨x, rfl⟩ := h.open3
  have HX := Lib.hid h
  have HS := Lib.hid hs
  have HK := Lib.hid hk
  clear h hs hk
  go_enter Try.func85, Try.ntmps85
  go_wp2_with fail
  generalize hW0 : (w.alloc (.cells x.arr 56)).alloc (.cells _ _) = W at *
  obtain ⟨hal, hB1, hB2⟩ := boxesD w _ _ _ W hW0.symm
  have HB2 := Lib.hid hB2
  have HAL := Lib.hid hal
  clear hW0 hal hB1 hB2
  refine (negRat_any q _ _ (HX.out.below HAL.out)).mono ?_
  rintro e wA ⟨vA, rfl, hvA, hbA⟩
  have EA := Lib.hid (blk_keep HB2.out hbA (blk_lt HB2.out))
  have BA := Lib.hid (bt HAL.out hbA)
  go_wp2_with fail
  refine (down_any (-q) k HK.out _ _ hvA HS.out).mono ?_
  rintro e wB ⟨vB, rfl, hvB, hbB⟩
  have EB := Lib.hid (blk_keep EA.out hbB (blk_lt EA.out))
  have BB := Lib.hid (bt BA.out hbB)
  go_wp2_with fail
  refine (negRat_any (downQ (-q) k) _ _ hvB).mono ?_
  rintro e wC ⟨vC, rfl, hvC, hbC⟩
  have E : Hid (wC.heap[w.heap.size + 1]? = some (.cells r30.arr 56 (0, 0))) := blk_keep EB.out hbC (blk_lt EB.out)
  have BC := Lib.hid (bt BB.out hbC)
  obtain ⟨z, rfl⟩ := hvC.open3
  have HV : Hid (IsRat wC z.val (upQ q k)) := hvC
  clear hvA hvB hvC hbA hbB hbC
  obtain ⟨g0, g1, g2, f0, f1, f2⟩ := fac3 (x := r30) E.out
  go_wp2_with fail
  obtain ⟨h0, h1, h2, _, _, _⟩ := fac3 (x := z) (set3r (x := z) E.out)
  refine bodyPost_ret (v := z.val) (by simp [results, Try.results85, go_sem, h0, h1, h2]) rfl ⟨_, rfl, IsRat.set3r HV.out E.out, below3r BC.out (by omega)⟩
theorem boxesR (w : World) (x y : R3) (cs : Array Value) (T : Nat) (W : World) (hW : W = (w.alloc (.cells (arr6 x y) 58)).alloc (.cells cs T)) :
    Below w.heap.size w W ∧ W.heap[w.heap.size]? = some (.cells (arr6 x y) 58 (0, 0)) ∧ W.heap[w.heap.size + 1]? = some (.cells cs T (0, 0)) := by
  subst hW
  have e1 : (w.alloc (.cells (arr6 x y) 58)).heap.size = w.heap.size + 1 := World.size_alloc ..
  have a1 := blk_new w (arr6 x y) 58
  have a2 := blk_new (w.alloc (.cells (arr6 x y) 58)) cs T
  rw [e1] at a2
  exact ⟨below2 _ _ _, (heap_alloc_old _ _ (blk_lt a1)).trans a1, a2⟩
set_option maxRecDepth 100000 in
set_option maxHeartbeats 2000000 in
theorem rround_any (lo hi : Rat) (k : Nat) (hk : k ≤ 256) (v : Value) (w : World) (h : IsRng w v lo hi) (s1 : szR lo 68719476736) (s2 : szR (-hi) 68719476736) : Calls Try.prog 73 #[v, .int .i64 k] w (RetRng (downQ lo k) (upQ hi k) w) := by
  obtain ⟨x, y, rfl, h1, h2⟩ := h
  have HX := Lib.hid h1
  have HY := Lib.hid h2
  have S1 := Lib.hid s1
  have S2 := Lib.hid s2
  have HK := Lib.hid hk
  clear h1 h2 s1 s2 hk
  go_enter Try.func73, Try.ntmps73
  go_wp2_with fail
  generalize hW0 : (w.alloc (.cells (arr6 x y) 58)).alloc (.cells _ _) = W at *
  obtain ⟨hal, hB1, hB2⟩ := boxesR w _ _ _ _ W hW0.symm
  obtain ⟨x0, x1, x2, y0, y1, y2, _, _, _, _, _, _⟩ := fac6 (x := x) (y := y) hB1
  have HB2 := Lib.hid hB2
  have HAD := Lib.hid hal.drew
  have N3 : Hid (w.heap.size + 1 ≤ W.heap.size) := by
    show _ ≤ _
    have := blk_lt hB2
    omega
  have N0 : Hid (w.heap.size < w.heap.size + 1) := by show _ < _; omega
  clear hW0 hal hB1 hB2
  refine wp_region_held_drew (S := (fun w' => Below (w.heap.size + 1) W w' ∧ w'.cell? ⟨w.heap.size, 0, none⟩ = some (.bool x.b) ∧ w'.cell? ⟨w.heap.size, 1, none⟩ = some (.slice x.a x.n x.c) ∧ w'.cell? ⟨w.heap.size, 2, none⟩ = some (.slice x.d x.m x.e) ∧ w'.cell? ⟨w.heap.size, 3, none⟩ = some (.bool y.b) ∧ w'.cell? ⟨w.heap.size, 4, none⟩ = some (.slice y.a y.n y.c) ∧ w'.cell? ⟨w.heap.size, 5, none⟩ = some (.slice y.d y.m y.e))) (by kernel_rfl) ⟨(Below.refl _ _).drew, x0, x1, x2, y0, y1, y2⟩ (fun hh => ?_)
  clear x0 x1 x2 y0 y1 y2
  refine wpAnyH_take (i := 0) (v := ?vp0) rfl (by kernel_rfl) (by kernel_rfl) (by kernel_rfl) (fun _ _ _ h => h) (Or.inl ⟨by rfl, ?hyp0⟩) (by assumption) ?rep0
  case hyp0 => first | (intro w hSw; (try dsimp only at hSw); go_simp; done) | (intro w hSw; (try dsimp only at hSw); go_simp; with_reducible rfl)
  try simp only [List.getElem_toArray, List.getElem_cons_zero, List.getElem_cons_succ, Act.put, List.setIfInBounds_toArray, List.set_cons_zero, List.set_cons_succ]
  refine wpAnyH_take (i := 1) (v := ?vp1) rfl (by kernel_rfl) (by kernel_rfl) (by kernel_rfl) (fun _ _ _ h => h) (Or.inl ⟨by rfl, ?hyp1⟩) (by assumption) ?rep1
  case hyp1 => first | (intro w hSw; (try dsimp only at hSw); go_simp; done) | (intro w hSw; (try dsimp only at hSw); go_simp; with_reducible rfl)
  try simp only [List.getElem_toArray, List.getElem_cons_zero, List.getElem_cons_succ, Act.put, List.setIfInBounds_toArray, List.set_cons_zero, List.set_cons_succ]
  refine wpAnyH_take (i := 2) (v := ?vp2) rfl (by kernel_rfl) (by kernel_rfl) (by kernel_rfl) (fun _ _ _ h => h) (Or.inl ⟨by rfl, ?hyp2⟩) (by assumption) ?rep2
  case hyp2 => first | (intro w hSw; (try dsimp only at hSw); go_simp; done) | (intro w hSw; (try dsimp only at hSw); go_simp; with_reducible rfl)
  try simp only [List.getElem_toArray, List.getElem_cons_zero, List.getElem_cons_succ, Act.put, List.setIfInBounds_toArray, List.set_cons_zero, List.set_cons_succ]
  refine wpAnyH_take (i := 4) (v := ?vp4) rfl (by kernel_rfl) (by kernel_rfl) (by kernel_rfl) (fun _ _ _ h => h) (Or.inl ⟨by rfl, ?hyp4⟩) (by assumption) ?rep4
  case hyp4 => first | (intro w hSw; (try dsimp only at hSw); go_simp; done) | (intro w hSw; (try dsimp only at hSw); go_simp; with_reducible rfl)
  try simp only [List.getElem_toArray, List.getElem_cons_zero, List.getElem_cons_succ, Act.put, List.setIfInBounds_toArray, List.set_cons_zero, List.set_cons_succ]
  refine wpAnyH_take (i := 5) (v := ?vp5) rfl (by kernel_rfl) (by kernel_rfl) (by kernel_rfl) (fun _ _ _ h => h) (Or.inl ⟨by rfl, ?hyp5⟩) (by assumption) ?rep5
  case hyp5 => first | (intro w hSw; (try dsimp only at hSw); go_simp; done) | (intro w hSw; (try dsimp only at hSw); go_simp; with_reducible rfl)
  try simp only [List.getElem_toArray, List.getElem_cons_zero, List.getElem_cons_succ, Act.put, List.setIfInBounds_toArray, List.set_cons_zero, List.set_cons_succ]
  refine wpAnyH_take (i := 6) (v := ?vp6) rfl (by kernel_rfl) (by kernel_rfl) (by kernel_rfl) (fun _ _ _ h => h) (Or.inl ⟨by rfl, ?hyp6⟩) (by assumption) ?rep6
  case hyp6 => first | (intro w hSw; (try dsimp only at hSw); go_simp; done) | (intro w hSw; (try dsimp only at hSw); go_simp; with_reducible rfl)
  try simp only [List.getElem_toArray, List.getElem_cons_zero, List.getElem_cons_succ, Act.put, List.setIfInBounds_toArray, List.set_cons_zero, List.set_cons_succ]
  refine wpAnyH_ready (rs := [3]) (by kernel_rfl) (by simp) ?_
  refine AllReadyH.cons rfl (fun K hK => ?_) AllReadyH.nil
  go_simp
  go_wp2_with (go_at_call 27; (with_reducible refine (down_any lo k HK.out _ _ (HX.out.below HAD.out) S1.out).mono ?_); rintro e wA ⟨vA, rfl, hvA, hbA⟩)
  refine hK.out _ _ (kd6 N3.out hbA hh) (fun hh => ?_)
  clear hK K
  try simp only [List.getElem_toArray, List.getElem_cons_zero, List.getElem_cons_succ, Act.put, List.setIfInBounds_toArray, List.set_cons_zero, List.set_cons_succ]
  have BA := Lib.hid (bt HAD.out hbA)
  refine wpAnyH_ready (rs := [7]) (by kernel_rfl) (by simp) ?_
  refine AllReadyH.cons rfl (fun K hK => ?_) AllReadyH.nil
  go_simp
  go_wp2_with (go_at_call 85; (with_reducible refine (up_any hi k HK.out _ _ (HY.out.below BA.out) S2.out).mono ?_); rintro e wB ⟨vB, rfl, hvB, hbB⟩; obtain ⟨za, rfl⟩ := hvA.open3; obtain ⟨zb, rfl⟩ := hvB.open3)
  refine hK.out _ _ (kd6 N3.out hbB hh) (fun hh => ?_)
  clear hK K
  try simp only [List.getElem_toArray, List.getElem_cons_zero, List.getElem_cons_succ, Act.put, List.setIfInBounds_toArray, List.set_cons_zero, List.set_cons_succ]
  have BB := Lib.hid (bt BA.out hbB)
  refine wpAnyH_take (i := 8) (v := ?vp8) rfl (by kernel_rfl) (by kernel_rfl) (by kernel_rfl) (fun _ _ _ h => h) (Or.inl ⟨by rfl, ?hyp8⟩) (by assumption) ?rep8
  case hyp8 => first | (intro w hSw; (try dsimp only at hSw); go_simp; done) | (intro w hSw; (try dsimp only at hSw); go_simp; with_reducible rfl)
  try simp only [List.getElem_toArray, List.getElem_cons_zero, List.getElem_cons_succ, Act.put, List.setIfInBounds_toArray, List.set_cons_zero, List.set_cons_succ]
  have e0 : W.drew.heap[w.heap.size + 1]? = _ := HB2.out
  have eA := blk_keep e0 hbA (blk_lt e0)
  have E : Hid (wB.heap[w.heap.size + 1]? = some (.cells (arr6 r30 r30) 58 (0, 0))) := blk_keep eA hbB (blk_lt eA)
  have HV1 := Lib.hid (hvA.below hbB)
  have HV2 := Lib.hid hvB
  obtain ⟨g0, g1, g2, g3, g4, g5, f0, f1, f2, f3, f4, f5⟩ := fac6 (x := r30) (y := r30) E.out
  clear e0 eA hvA hvB hbA hbB
  refine wpAnyH_ready (rs := [9]) (by kernel_rfl) (by simp) ?_
  refine AllReadyH.cons rfl (fun K hK => ?_) AllReadyH.nil
  go_simp
  refine hK.out _ _ (ks6 (Nat.le_refl _) N0.out N0.out N0.out N0.out N0.out N0.out (below6r (Below.refl _ _) (Nat.le_refl _)) hh) (fun hh => ?_)
  clear hK K
  try simp only [List.getElem_toArray, List.getElem_cons_zero, List.getElem_cons_succ, Act.put, List.setIfInBounds_toArray, List.set_cons_zero, List.set_cons_succ]
  refine wpAnyH_done (by kernel_rfl) ?_ _
  obtain ⟨h0, h1, h2, h3, h4, h5, _, _, _, _, _, _⟩ := fac6 (x := za) (y := zb) (set6r (x := za) (y := zb) E.out)
  go_wp2_with fail
  refine bodyPost_ret (v := rngV za zb) (by simp [results, Try.results73, go_sem, h0, h1, h2, h3, h4, h5]) rfl ⟨_, rfl, ⟨za, zb, rfl, IsRat.set6r HV1.out E.out, IsRat.set6r HV2.out E.out⟩, below6r BB.out (by omega)⟩
theorem boxesS (w : World) (x y x2 y2 : R3) (cs : Array Value) (T : Nat) (W : World) (hW : W = ((w.alloc (.cells (arr6 x y) 58)).alloc (.cells (arr6 x2 y2) 58)).alloc (.cells cs T)) :
    Below w.heap.size w W ∧ W.heap[w.heap.size]? = some (.cells (arr6 x y) 58 (0, 0)) ∧ W.heap[w.heap.size + 1]? = some (.cells (arr6 x2 y2) 58 (0, 0)) ∧ W.heap[w.heap.size + 1 + 1]? = some (.cells cs T (0, 0)) ∧ W.heap.size = w.heap.size + 3 := by
  subst hW
  have e1 : (w.alloc (.cells (arr6 x y) 58)).heap.size = w.heap.size + 1 := World.size_alloc ..
  have e2 : ((w.alloc (.cells (arr6 x y) 58)).alloc (.cells (arr6 x2 y2) 58)).heap.size = w.heap.size + 1 + 1 := by rw [World.size_alloc, e1]
  have a1 := blk_new w (arr6 x y) 58
  have a2 := blk_new (w.alloc (.cells (arr6 x y) 58)) (arr6 x2 y2) 58
  have a3 := blk_new ((w.alloc (.cells (arr6 x y) 58)).alloc (.cells (arr6 x2 y2) 58)) cs T
  rw [e1] at a2
  rw [e2] at a3
  have a1' := (heap_alloc_old _ (.cells (arr6 x2 y2) 58) (blk_lt a1)).trans a1
  exact ⟨ba (below2 _ _ _), (heap_alloc_old _ _ (blk_lt a1')).trans a1', (heap_alloc_old _ _ (blk_lt a2)).trans a2, a3, by rw [World.size_alloc, e2]⟩
set_option maxRecDepth 100000 in
set_option maxHeartbeats 2000000 in
theorem step_any (a0 a1 p0 p1 : Rat) (k : Nat) (hk : k ≤ 256) (vc vr : Value) (w : World) (hc : IsRng w vc a0 a1) (hr : IsRng w vr p0 p1) (q0 q1 : Rat) (hq0 : a0 + p0 * (1 - a0) = q0) (hq1 : a1 + p1 * (1 - a1) = q1)
    (s1 : szR a0 68719476736) (s2 : szR p0 68719476736) (s3 : szR (1 - a0) 68719476736) (s4 : szR (p0 * (1 - a0)) 68719476736) (s5 : szR a1 68719476736) (s6 : szR p1 68719476736) (s7 : szR (1 - a1) 68719476736) (s8 : szR (p1 * (1 - a1)) 68719476736) (s9 : szR q0 68719476736) (s10 : szR q1 68719476736) (s11 : szR (-q1) 68719476736) (hcm : cmpR q0 q1 ≤ 0) :
    Calls Try.prog 47 #[vc, vr, .int .i64 k] w (RetRng (downQ q0 k) (upQ q1 k) w) := by
  obtain ⟨x, y, rfl, h1, h2⟩ := hc
  obtain ⟨x', y', rfl, h3, h4⟩ := hr
  have HX := Lib.hid (show IsRng w (rngV x y) a0 a1 from ⟨x, y, rfl, h1, h2⟩)
  have HY := Lib.hid (show IsRng w (rngV x' y') p0 p1 from ⟨x', y', rfl, h3, h4⟩)
  clear h1 h2 h3 h4
  have S1 := Lib.hid s1
  have S2 := Lib.hid s2
  have S3 := Lib.hid s3
  have S4 := Lib.hid s4
  have S5 := Lib.hid s5
  have S6 := Lib.hid s6
  have S7 := Lib.hid s7
  have S8 := Lib.hid s8
  have S9 := Lib.hid s9
  have S10 := Lib.hid s10
  have S11 := Lib.hid s11
  have HK := Lib.hid hk
  have HCM := Lib.hid hcm
  have HQ0 := Lib.hid hq0
  have HQ1 := Lib.hid hq1
  clear s1 s2 s3 s4 s5 s6 s7 s8 s9 s10 s11 hk hcm hq0 hq1
  have S12 : Hid (szR q0 274877906944) := ⟨Nat.le_trans S9.out.1 (by omega), Nat.le_trans S9.out.2 (by omega)⟩
  have S13 : Hid (szR q1 274877906944) := ⟨Nat.le_trans S10.out.1 (by omega), Nat.le_trans S10.out.2 (by omega)⟩
  go_enter Try.func47, Try.ntmps47
  go_wp2_with fail
  generalize hW0 : ((w.alloc (.cells (arr6 x y) 58)).alloc (.cells (arr6 x' y') 58)).alloc (.cells _ _) = W at *
  obtain ⟨hal, hB1, hB2, hB3, hWs⟩ := boxesS w _ _ _ _ _ _ W hW0.symm
  obtain ⟨x0, x1, x2, x3, x4, x5, _, _, _, _, _, _⟩ := fac6 (x := x) (y := y) hB1
  obtain ⟨y0, y1, y2, y3, y4, y5, _, _, _, _, _, _⟩ := fac6 (x := x') (y := y') hB2
  have HB3 := Lib.hid hB3
  have HAD := Lib.hid hal.drew
  have N3 : Hid (w.heap.size + 1 + 1 ≤ W.heap.size) := by show _ ≤ _; omega
  have N0 : Hid (w.heap.size < w.heap.size + 1 + 1) := by show _ < _; omega
  have N1 : Hid (w.heap.size + 1 < w.heap.size + 1 + 1) := by show _ < _; omega
  clear hW0 hal hB1 hB2 hB3 hWs
  refine wp_region_held_drew (S := (fun w' => Below (w.heap.size + 1 + 1) W w' ∧ w'.cell? ⟨w.heap.size, 0, none⟩ = some (.bool x.b) ∧ w'.cell? ⟨w.heap.size, 1, none⟩ = some (.slice x.a x.n x.c) ∧ w'.cell? ⟨w.heap.size, 2, none⟩ = some (.slice x.d x.m x.e) ∧ w'.cell? ⟨w.heap.size, 3, none⟩ = some (.bool y.b) ∧ w'.cell? ⟨w.heap.size, 4, none⟩ = some (.slice y.a y.n y.c) ∧ w'.cell? ⟨w.heap.size, 5, none⟩ = some (.slice y.d y.m y.e) ∧ w'.cell? ⟨w.heap.size + 1, 0, none⟩ = some (.bool x'.b) ∧ w'.cell? ⟨w.heap.size + 1, 1, none⟩ = some (.slice x'.a x'.n x'.c) ∧ w'.cell? ⟨w.heap.size + 1, 2, none⟩ = some (.slice x'.d x'.m x'.e) ∧ w'.cell? ⟨w.heap.size + 1, 3, none⟩ = some (.bool y'.b) ∧ w'.cell? ⟨w.heap.size + 1, 4, none⟩ = some (.slice y'.a y'.n y'.c) ∧ w'.cell? ⟨w.heap.size + 1, 5, none⟩ = some (.slice y'.d y'.m y'.e))) (by kernel_rfl) ⟨(Below.refl _ _).drew, x0, x1, x2, x3, x4, x5, y0, y1, y2, y3, y4, y5⟩ (fun hh => ?_)
  clear x0 x1 x2 x3 x4 x5 y0 y1 y2 y3 y4 y5
  refine wpAnyH_take (i := 0) (v := ?vp0) rfl (by kernel_rfl) (by kernel_rfl) (by kernel_rfl) (fun _ _ _ h => h) (Or.inl ⟨by rfl, ?hyp0⟩) (by assumption) ?rep0
  case hyp0 => first | (intro w hSw; (try dsimp only at hSw); go_simp; done) | (intro w hSw; (try dsimp only at hSw); go_simp; with_reducible rfl)
  try simp only [List.getElem_toArray, List.getElem_cons_zero, List.getElem_cons_succ, Act.put, List.setIfInBounds_toArray, List.set_cons_zero, List.set_cons_succ]
  refine wpAnyH_take (i := 1) (v := ?vp1) rfl (by kernel_rfl) (by kernel_rfl) (by kernel_rfl) (fun _ _ _ h => h) (Or.inl ⟨by rfl, ?hyp1⟩) (by assumption) ?rep1
  case hyp1 => first | (intro w hSw; (try dsimp only at hSw); go_simp; done) | (intro w hSw; (try dsimp only at hSw); go_simp; with_reducible rfl)
  try simp only [List.getElem_toArray, List.getElem_cons_zero, List.getElem_cons_succ, Act.put, List.setIfInBounds_toArray, List.set_cons_zero, List.set_cons_succ]
  refine wpAnyH_take (i := 3) (v := ?vp3) rfl (by kernel_rfl) (by kernel_rfl) (by kernel_rfl) (fun _ _ _ h => h) (Or.inl ⟨by rfl, ?hyp3⟩) (by assumption) ?rep3
  case hyp3 => first | (intro w hSw; (try dsimp only at hSw); go_simp; done) | (intro w hSw; (try dsimp only at hSw); go_simp; with_reducible rfl)
  try simp only [List.getElem_toArray, List.getElem_cons_zero, List.getElem_cons_succ, Act.put, List.setIfInBounds_toArray, List.set_cons_zero, List.set_cons_succ]
  refine wpAnyH_take (i := 6) (v := ?vp6) rfl (by kernel_rfl) (by kernel_rfl) (by kernel_rfl) (fun _ _ _ h => h) (Or.inl ⟨by rfl, ?hyp6⟩) (by assumption) ?rep6
  case hyp6 => first | (intro w hSw; (try dsimp only at hSw); go_simp; done) | (intro w hSw; (try dsimp only at hSw); go_simp; with_reducible rfl)
  try simp only [List.getElem_toArray, List.getElem_cons_zero, List.getElem_cons_succ, Act.put, List.setIfInBounds_toArray, List.set_cons_zero, List.set_cons_succ]
  refine wpAnyH_take (i := 7) (v := ?vp7) rfl (by kernel_rfl) (by kernel_rfl) (by kernel_rfl) (fun _ _ _ h => h) (Or.inl ⟨by rfl, ?hyp7⟩) (by assumption) ?rep7
  case hyp7 => first | (intro w hSw; (try dsimp only at hSw); go_simp; done) | (intro w hSw; (try dsimp only at hSw); go_simp; with_reducible rfl)
  try simp only [List.getElem_toArray, List.getElem_cons_zero, List.getElem_cons_succ, Act.put, List.setIfInBounds_toArray, List.set_cons_zero, List.set_cons_succ]
  refine wpAnyH_take (i := 9) (v := ?vp9) rfl (by kernel_rfl) (by kernel_rfl) (by kernel_rfl) (fun _ _ _ h => h) (Or.inl ⟨by rfl, ?hyp9⟩) (by assumption) ?rep9
  case hyp9 => first | (intro w hSw; (try dsimp only at hSw); go_simp; done) | (intro w hSw; (try dsimp only at hSw); go_simp; with_reducible rfl)
  try simp only [List.getElem_toArray, List.getElem_cons_zero, List.getElem_cons_succ, Act.put, List.setIfInBounds_toArray, List.set_cons_zero, List.set_cons_succ]
  refine wpAnyH_take (i := 13) (v := ?vp13) rfl (by kernel_rfl) (by kernel_rfl) (by kernel_rfl) (fun _ _ _ h => h) (Or.inl ⟨by rfl, ?hyp13⟩) (by assumption) ?rep13
  case hyp13 => first | (intro w hSw; (try dsimp only at hSw); go_simp; done) | (intro w hSw; (try dsimp only at hSw); go_simp; with_reducible rfl)
  try simp only [List.getElem_toArray, List.getElem_cons_zero, List.getElem_cons_succ, Act.put, List.setIfInBounds_toArray, List.set_cons_zero, List.set_cons_succ]
  refine wpAnyH_ready (rs := [2]) (by kernel_rfl) (by simp) ?_
  refine AllReadyH.cons rfl (fun K hK => ?_) AllReadyH.nil
  go_simp
  go_wp2_with (go_at_call 25; (with_reducible refine (rlo_any a0 a1 _ _ (HX.out.below HAD.out)).mono ?_); rintro e wA ⟨vA, rfl, hvA, hbA⟩)
  refine hK.out _ _ (kd12 N3.out hbA hh) (fun hh => ?_)
  clear hK K
  try simp only [List.getElem_toArray, List.getElem_cons_zero, List.getElem_cons_succ, Act.put, List.setIfInBounds_toArray, List.set_cons_zero, List.set_cons_succ]
  have BA := Lib.hid (bt HAD.out hbA)
  refine wpAnyH_ready (rs := [4]) (by kernel_rfl) (by simp) ?_
  refine AllReadyH.cons rfl (fun K hK => ?_) AllReadyH.nil
  go_simp
  go_wp2_with (go_at_call 25; (with_reducible refine (rlo_any p0 p1 _ _ (HY.out.below BA.out)).mono ?_); rintro e wB ⟨vB, rfl, hvB, hbB⟩)
  refine hK.out _ _ (kd12 N3.out hbB hh) (fun hh => ?_)
  clear hK K
  try simp only [List.getElem_toArray, List.getElem_cons_zero, List.getElem_cons_succ, Act.put, List.setIfInBounds_toArray, List.set_cons_zero, List.set_cons_succ]
  have BB := Lib.hid (bt BA.out hbB)
  refine wpAnyH_ready (rs := [5]) (by kernel_rfl) (by simp) ?_
  refine AllReadyH.cons rfl (fun K hK => ?_) AllReadyH.nil
  go_simp
  go_wp2_with (go_at_call 71; (with_reducible refine (stepf_any a0 p0 _ _ _ (hvA.below hbB) hvB S1.out S2.out S3.out S4.out).mono ?_); rintro e wC ⟨vC, rfl, hvC, hbC⟩)
  refine hK.out _ _ (kd12 N3.out hbC hh) (fun hh => ?_)
  clear hK K
  try simp only [List.getElem_toArray, List.getElem_cons_zero, List.getElem_cons_succ, Act.put, List.setIfInBounds_toArray, List.set_cons_zero, List.set_cons_succ]
  have BC := Lib.hid (bt BB.out hbC)
  rw [HQ0.out] at hvC
  refine wpAnyH_ready (rs := [8]) (by kernel_rfl) (by simp) ?_
  refine AllReadyH.cons rfl (fun K hK => ?_) AllReadyH.nil
  go_simp
  go_wp2_with (go_at_call 20; (with_reducible refine (rhi_any a0 a1 _ _ (HX.out.below BC.out)).mono ?_); rintro e wD ⟨vD, rfl, hvD, hbD⟩)
  refine hK.out _ _ (kd12 N3.out hbD hh) (fun hh => ?_)
  clear hK K
  try simp only [List.getElem_toArray, List.getElem_cons_zero, List.getElem_cons_succ, Act.put, List.setIfInBounds_toArray, List.set_cons_zero, List.set_cons_succ]
  have BD := Lib.hid (bt BC.out hbD)
  refine wpAnyH_ready (rs := [10]) (by kernel_rfl) (by simp) ?_
  refine AllReadyH.cons rfl (fun K hK => ?_) AllReadyH.nil
  go_simp
  go_wp2_with (go_at_call 20; (with_reducible refine (rhi_any p0 p1 _ _ (HY.out.below BD.out)).mono ?_); rintro e wF ⟨vF, rfl, hvF, hbF⟩)
  refine hK.out _ _ (kd12 N3.out hbF hh) (fun hh => ?_)
  clear hK K
  try simp only [List.getElem_toArray, List.getElem_cons_zero, List.getElem_cons_succ, Act.put, List.setIfInBounds_toArray, List.set_cons_zero, List.set_cons_succ]
  have BF := Lib.hid (bt BD.out hbF)
  refine wpAnyH_ready (rs := [11]) (by kernel_rfl) (by simp) ?_
  refine AllReadyH.cons rfl (fun K hK => ?_) AllReadyH.nil
  go_simp
  go_wp2_with (go_at_call 71; (with_reducible refine (stepf_any a1 p1 _ _ _ (hvD.below hbF) hvF S5.out S6.out S7.out S8.out).mono ?_); rintro e wG ⟨vG, rfl, hvG, hbG⟩)
  refine hK.out _ _ (kd12 N3.out hbG hh) (fun hh => ?_)
  clear hK K
  try simp only [List.getElem_toArray, List.getElem_cons_zero, List.getElem_cons_succ, Act.put, List.setIfInBounds_toArray, List.set_cons_zero, List.set_cons_succ]
  have BG := Lib.hid (bt BF.out hbG)
  rw [HQ1.out] at hvG
  refine wpAnyH_ready (rs := [12]) (by kernel_rfl) (by simp) ?_
  refine AllReadyH.cons rfl (fun K hK => ?_) AllReadyH.nil
  go_simp
  go_wp2_with (go_at_call 72; (with_reducible refine (span_any q0 q1 _ _ _ (hvC.below (bt (bt hbD hbF) hbG)) hvG S12.out S13.out HCM.out).mono ?_); rintro e wI ⟨vI, rfl, hvI, hbI⟩)
  refine hK.out _ _ (kd12 N3.out hbI hh) (fun hh => ?_)
  clear hK K
  try simp only [List.getElem_toArray, List.getElem_cons_zero, List.getElem_cons_succ, Act.put, List.setIfInBounds_toArray, List.set_cons_zero, List.set_cons_succ]
  have BI := Lib.hid (bt BG.out hbI)
  refine wpAnyH_ready (rs := [14]) (by kernel_rfl) (by simp) ?_
  refine AllReadyH.cons rfl (fun K hK => ?_) AllReadyH.nil
  go_simp
  go_wp2_with (go_at_call 73; (with_reducible refine (rround_any q0 q1 k HK.out _ _ hvI S9.out S11.out).mono ?_); rintro e wJ ⟨vJ, rfl, hvJ, hbJ⟩)
  refine hK.out _ _ (kd12 N3.out hbJ hh) (fun hh => ?_)
  clear hK K
  try simp only [List.getElem_toArray, List.getElem_cons_zero, List.getElem_cons_succ, Act.put, List.setIfInBounds_toArray, List.set_cons_zero, List.set_cons_succ]
  have BJ := Lib.hid (bt BI.out hbJ)
  obtain ⟨za, zb, rfl, hz1, hz2⟩ := hvJ
  have e0 : W.drew.heap[w.heap.size + 1 + 1]? = _ := HB3.out
  have eA := blk_keep e0 hbA (blk_lt e0)
  have eB := blk_keep eA hbB (blk_lt eA)
  have eC := blk_keep eB hbC (blk_lt eB)
  have eD := blk_keep eC hbD (blk_lt eC)
  have eF := blk_keep eD hbF (blk_lt eD)
  have eG := blk_keep eF hbG (blk_lt eF)
  have eI := blk_keep eG hbI (blk_lt eG)
  have eJ := blk_keep eI hbJ (blk_lt eI)
  have E : Hid (wJ.heap[w.heap.size + 1 + 1]? = some (.cells (arr6 r30 r30) 58 (0, 0))) := eJ
  have HV1 := Lib.hid hz1
  have HV2 := Lib.hid hz2
  obtain ⟨g0, g1, g2, g3, g4, g5, f0, f1, f2, f3, f4, f5⟩ := fac6 (x := r30) (y := r30) E.out
  clear e0 eA eB eC eD eF eG eI eJ hz1 hz2
  refine wpAnyH_ready (rs := [15]) (by kernel_rfl) (by simp) ?_
  refine AllReadyH.cons rfl (fun K hK => ?_) AllReadyH.nil
  go_simp
  refine hK.out _ _ (ks12 (Nat.le_refl _) N0.out N0.out N0.out N0.out N0.out N0.out N1.out N1.out N1.out N1.out N1.out N1.out (below6r (Below.refl _ _) (Nat.le_refl _)) hh) (fun hh => ?_)
  clear hK K
  try simp only [List.getElem_toArray, List.getElem_cons_zero, List.getElem_cons_succ, Act.put, List.setIfInBounds_toArray, List.set_cons_zero, List.set_cons_succ]
  refine wpAnyH_done (by kernel_rfl) ?_ _
  obtain ⟨h0, h1, h2, h3, h4, h5, _, _, _, _, _, _⟩ := fac6 (x := za) (y := zb) (set6r (x := za) (y := zb) E.out)
  go_wp2_with fail
  refine bodyPost_ret (v := rngV za zb) (by simp [results, Try.results47, go_sem, h0, h1, h2, h3, h4, h5]) rfl ⟨_, rfl, ⟨za, zb, rfl, IsRat.set6r HV1.out E.out, IsRat.set6r HV2.out E.out⟩, below6r BJ.out (by omega)⟩
end Go.Proofs.Ytmfochplnchgcaa

/- THE WALKS of cure.Step, Range.Text and law05.awake; printed by wip/tools/gen_cq.py. -/
namespace Go.Proofs.Ytmfochplnchgcaa
open Go.RowKit

set_option maxRecDepth 100000 in
set_option maxHeartbeats 2000000 in
theorem part_ok (lo hi : Rat) (v : Value) (w : World) (h : IsRng w v lo hi) (h0 : 0 ≤ sgnI (decide (lo.num < 0)) lo.num.natAbs) (h1 : cmpR hi 1 ≤ 0) (s1 : szR hi 274877906944) : Calls Try.prog 46 #[v] w (RetBool true w) := by
  have HR := Lib.hid h
  obtain ⟨x, y, rfl, _, _⟩ := h
  have c0 : decide (sgnI (decide (lo.num < 0)) lo.num.natAbs ≥ 0) = true := decide_eq_true h0
  have c1 : decide (cmpR hi 1 ≤ 0) = true := decide_eq_true h1
  have S1 := Lib.hid s1
  have H0 := Lib.hid h0
  have H1 := Lib.hid h1
  clear s1 h0 h1
  have S2 : Hid (szR 1 274877906944) := one_szR _ (by omega)
  go_enter Try.func46, Try.ntmps46
  go_wp2_with fail
  have hal := below1 w (.cells (arr6 x y) 58)
  generalize hW0 : w.alloc (.cells (arr6 x y) 58) = W at *
  have hB : W.heap[w.heap.size]? = some (.cells (arr6 x y) 58 (0, 0)) := by rw [← hW0]; exact blk_new _ _ _
  have HAL := Lib.hid hal
  clear hW0 hal
  refine (rlo_any lo hi _ _ (HR.out.below HAL.out)).mono ?_
  rintro e wA ⟨vA, rfl, hvA, hbA⟩
  have BA := Lib.hid (bt HAL.out hbA)
  have eA := blk_keep hB hbA (blk_lt hB)
  obtain ⟨a1, c1', a2, c2', rfl, _, _⟩ := hvA.opened
  clear hB hvA hbA
  go_wp2_with fail
  refine (sign_any _ _ lo.num.natAbs _ _ _ _ _).mono ?_
  rintro e wB ⟨rfl, hbB⟩
  have BB := Lib.hid (bt BA.out hbB)
  have eB := blk_keep eA hbB (blk_lt eA)
  obtain ⟨x0, x1, x2, x3, x4, x5, _, _, _, _, _, _⟩ := fac6 (x := x) (y := y) eB
  clear eA hbB
  go_wp2_with fail
  refine (rhi_any lo hi _ _ (HR.out.below BB.out)).mono ?_
  rintro e wC ⟨vC, rfl, hvC, hbC⟩
  have BC := Lib.hid (bt BB.out hbC)
  clear x0 x1 x2 x3 x4 x5 eB
  go_wp2_with fail
  refine (one_any _).mono ?_
  rintro e wD ⟨vD, rfl, hvD, hbD⟩
  have BD := Lib.hid (bt BC.out hbD)
  go_wp2_with fail
  refine (cmpRat_any hi 1 _ _ _ (hvC.below hbD) hvD S1.out S2.out).mono ?_
  rintro e wE ⟨rfl, hbE⟩
  have BE := Lib.hid (bt BD.out hbE)
  clear hvC hvD hbC hbD hbE
  go_wp2_with fail
  go_ret
  exact ⟨by simp [c1], BE.out⟩
set_option maxRecDepth 100000 in
set_option maxHeartbeats 2000000 in
theorem Step_ok (a0 a1 p0 p1 : Rat) (k : Nat) (vc vr : Value) (w : World) (hc : IsRng w vc a0 a1) (hr : IsRng w vr p0 p1) (q0 q1 : Rat)
    (P1 : Hid (∀ W v, IsRng W v a0 a1 → Calls Try.prog 46 #[v] W (RetBool true W))) (P2 : Hid (∀ W v, IsRng W v p0 p1 → Calls Try.prog 46 #[v] W (RetBool true W)))
    (HS : Hid (∀ W v u, IsRng W v a0 a1 → IsRng W u p0 p1 → Calls Try.prog 47 #[v, u, .int .i64 k] W (RetRng q0 q1 W))) :
    Calls Try.prog 23 #[vc, vr, .int .i64 k] w (RetRngE q0 q1 0 w) := by
  have HX := Lib.hid hc
  have HY := Lib.hid hr
  obtain ⟨x, y, rfl, _, _⟩ := hc
  obtain ⟨x', y', rfl, _, _⟩ := hr
  go_enter Try.func23, Try.ntmps23
  go_wp2_with fail
  generalize hW0 : ((w.alloc (.cells (arr6 x y) 58)).alloc (.cells (arr6 x' y') 58)).alloc (.cells _ _) = W at *
  obtain ⟨hal, hB1, hB2, hB3, hWs⟩ := boxesS w _ _ _ _ _ _ W hW0.symm
  have HAL := Lib.hid hal
  clear hW0 hal hWs
  refine (P1.out _ _ (HX.out.below HAL.out)).mono ?_
  rintro e wA ⟨rfl, hb⟩
  have e1 := blk_keep hB1 hb (blk_lt hB1)
  have e2 := blk_keep hB2 hb (blk_lt hB2)
  have e3 := blk_keep hB3 hb (blk_lt hB3)
  have BA := Lib.hid (bt HAL.out hb)
  obtain ⟨y0, y1, y2, y3, y4, y5, _, _, _, _, _, _⟩ := fac6 (x := x') (y := y') e2
  clear hB1 hB2 hB3 hb
  go_wp2_with fail
  refine (P2.out _ _ (HY.out.below BA.out)).mono ?_
  rintro e wB ⟨rfl, hb⟩
  have f1 := blk_keep e1 hb (blk_lt e1)
  have f2 := blk_keep e2 hb (blk_lt e2)
  have f3 := blk_keep e3 hb (blk_lt e3)
  have BB := Lib.hid (bt BA.out hb)
  clear e1 e2 e3 hb y0 y1 y2 y3 y4 y5
  obtain ⟨x0, x1, x2, x3, x4, x5, _, _, _, _, _, _⟩ := fac6 (x := x) (y := y) f1
  obtain ⟨y0, y1, y2, y3, y4, y5, _, _, _, _, _, _⟩ := fac6 (x := x') (y := y') f2
  go_wp2_with fail
  refine (HS.out _ _ _ (HX.out.below BB.out) (HY.out.below BB.out)).mono ?_
  rintro e wC ⟨v, rfl, ⟨za, zb, rfl, hz1, hz2⟩, hb⟩
  have E : Hid (wC.heap[w.heap.size + 1 + 1]? = some (.cells (arr6 r30 r30) 58 (0, 0))) := blk_keep f3 hb (blk_lt f3)
  have BC := Lib.hid (bt BB.out hb)
  have HV1 := Lib.hid hz1
  have HV2 := Lib.hid hz2
  clear x0 x1 x2 x3 x4 x5 y0 y1 y2 y3 y4 y5 f1 f2 f3 hz1 hz2 hb
  obtain ⟨g0, g1, g2, g3, g4, g5, f0, f1, f2, f3, f4, f5⟩ := fac6 (x := r30) (y := r30) E.out
  go_wp2_with fail
  obtain ⟨h0, h1, h2, h3, h4, h5, _, _, _, _, _, _⟩ := fac6 (x := za) (y := zb) (set6r (x := za) (y := zb) E.out)
  refine bodyPost_ret (v := .tuple #[rngV za zb, .int .i64 0]) (by simp [results, Try.results23, go_sem, h0, h1, h2, h3, h4, h5]) rfl ⟨_, rfl, ⟨za, zb, rfl, IsRat.set6r HV1.out E.out, IsRat.set6r HV2.out E.out⟩, below6r BC.out (by omega)⟩
theorem txt_half : strB (txtQ (1 / 2)) = { data := #[49, 47, 50] } := by decide +kernel
set_option maxRecDepth 100000 in
set_option maxHeartbeats 2000000 in
theorem rtext_half (v : Value) (w : World) (h : IsRng w v (1 / 2) (1 / 2)) : Calls Try.prog 29 #[v] w (fun e w' => e = .returned (.string { data := #[91, 49, 47, 50, 44, 49, 47, 50, 93] }) ∧ Below w.heap.size w w') := by
  have HT : Hid (∀ W v, IsRat W v (1 / 2) → Calls Try.prog 54 #[v] W (fun e w' => e = .returned (.string { data := #[49, 47, 50] }) ∧ Below W.heap.size W w')) := fun W v h => by
    have := textRat_any (1 / 2) v W h ⟨by decide +kernel, by decide +kernel⟩
    unfold RetStr at this
    rw [txt_half] at this
    exact this
  obtain ⟨x, y, rfl, h1, h2⟩ := h
  have HX := Lib.hid h1
  have HY := Lib.hid h2
  clear h1 h2
  go_enter Try.func29, Try.ntmps29
  go_wp2_with fail
  have hal := below1 w (.cells (arr6 x y) 58)
  generalize hW0 : w.alloc (.cells (arr6 x y) 58) = W at *
  have hB : W.heap[w.heap.size]? = some (.cells (arr6 x y) 58 (0, 0)) := by rw [← hW0]; exact blk_new _ _ _
  obtain ⟨x0, x1, x2, y0, y1, y2, _, _, _, _, _, _⟩ := fac6 (x := x) (y := y) hB
  have HAD := Lib.hid hal.drew
  have N3 : Hid (w.heap.size ≤ W.heap.size) := hal.size
  clear hW0 hal hB
  refine wp_region_held_drew (S := (fun w' => Below (w.heap.size) W w' ∧ w'.cell? ⟨w.heap.size, 0, none⟩ = some (.bool x.b) ∧ w'.cell? ⟨w.heap.size, 1, none⟩ = some (.slice x.a x.n x.c) ∧ w'.cell? ⟨w.heap.size, 2, none⟩ = some (.slice x.d x.m x.e) ∧ w'.cell? ⟨w.heap.size, 3, none⟩ = some (.bool y.b) ∧ w'.cell? ⟨w.heap.size, 4, none⟩ = some (.slice y.a y.n y.c) ∧ w'.cell? ⟨w.heap.size, 5, none⟩ = some (.slice y.d y.m y.e))) (by kernel_rfl) ⟨(Below.refl _ _).drew, x0, x1, x2, y0, y1, y2⟩ (fun hh => ?_)
  clear x0 x1 x2 y0 y1 y2
  refine wpAnyH_take (i := 0) (v := ?vp0) rfl (by kernel_rfl) (by kernel_rfl) (by kernel_rfl) (fun _ _ _ h => h) (Or.inl ⟨by rfl, ?hyp0⟩) (by assumption) ?rep0
  case hyp0 => first | (intro w hSw; (try dsimp only at hSw); go_simp; done) | (intro w hSw; (try dsimp only at hSw); go_simp; with_reducible rfl)
  try simp only [List.getElem_toArray, List.getElem_cons_zero, List.getElem_cons_succ, Act.put, List.setIfInBounds_toArray, List.set_cons_zero, List.set_cons_succ]
  refine wpAnyH_take (i := 1) (v := ?vp1) rfl (by kernel_rfl) (by kernel_rfl) (by kernel_rfl) (fun _ _ _ h => h) (Or.inl ⟨by rfl, ?hyp1⟩) (by assumption) ?rep1
  case hyp1 => first | (intro w hSw; (try dsimp only at hSw); go_simp; done) | (intro w hSw; (try dsimp only at hSw); go_simp; with_reducible rfl)
  try simp only [List.getElem_toArray, List.getElem_cons_zero, List.getElem_cons_succ, Act.put, List.setIfInBounds_toArray, List.set_cons_zero, List.set_cons_succ]
  refine wpAnyH_take (i := 5) (v := ?vp5) rfl (by kernel_rfl) (by kernel_rfl) (by kernel_rfl) (fun _ _ _ h => h) (Or.inl ⟨by rfl, ?hyp5⟩) (by assumption) ?rep5
  case hyp5 => first | (intro w hSw; (try dsimp only at hSw); go_simp; done) | (intro w hSw; (try dsimp only at hSw); go_simp; with_reducible rfl)
  try simp only [List.getElem_toArray, List.getElem_cons_zero, List.getElem_cons_succ, Act.put, List.setIfInBounds_toArray, List.set_cons_zero, List.set_cons_succ]
  refine wpAnyH_take (i := 6) (v := ?vp6) rfl (by kernel_rfl) (by kernel_rfl) (by kernel_rfl) (fun _ _ _ h => h) (Or.inl ⟨by rfl, ?hyp6⟩) (by assumption) ?rep6
  case hyp6 => first | (intro w hSw; (try dsimp only at hSw); go_simp; done) | (intro w hSw; (try dsimp only at hSw); go_simp; with_reducible rfl)
  try simp only [List.getElem_toArray, List.getElem_cons_zero, List.getElem_cons_succ, Act.put, List.setIfInBounds_toArray, List.set_cons_zero, List.set_cons_succ]
  refine wpAnyH_ready (rs := [2]) (by kernel_rfl) (by simp) ?_
  refine AllReadyH.cons rfl (fun K hK => ?_) AllReadyH.nil
  go_simp
  go_wp2_with (go_at_call 54; (with_reducible refine (HT.out _ _ (HX.out.below HAD.out)).mono ?_); rintro e wA ⟨rfl, hbA⟩)
  refine hK.out _ _ (kd6 N3.out hbA hh) (fun hh => ?_)
  clear hK K
  try simp only [List.getElem_toArray, List.getElem_cons_zero, List.getElem_cons_succ, Act.put, List.setIfInBounds_toArray, List.set_cons_zero, List.set_cons_succ]
  have BA := Lib.hid (bt HAD.out hbA)
  refine wpAnyH_take (i := 3) (v := ?vp3) rfl (by kernel_rfl) (by kernel_rfl) (by kernel_rfl) (fun _ _ _ h => h) (Or.inl ⟨by rfl, ?hyp3⟩) (by assumption) ?rep3
  case hyp3 => first | (intro w hSw; (try dsimp only at hSw); go_simp; done) | (intro w hSw; (try dsimp only at hSw); go_simp; with_reducible rfl)
  try simp only [List.getElem_toArray, List.getElem_cons_zero, List.getElem_cons_succ, Act.put, List.setIfInBounds_toArray, List.set_cons_zero, List.set_cons_succ]
  refine wpAnyH_take (i := 4) (v := ?vp4) rfl (by kernel_rfl) (by kernel_rfl) (by kernel_rfl) (fun _ _ _ h => h) (Or.inl ⟨by rfl, ?hyp4⟩) (by assumption) ?rep4
  case hyp4 => first | (intro w hSw; (try dsimp only at hSw); go_simp; done) | (intro w hSw; (try dsimp only at hSw); go_simp; with_reducible rfl)
  try simp only [List.getElem_toArray, List.getElem_cons_zero, List.getElem_cons_succ, Act.put, List.setIfInBounds_toArray, List.set_cons_zero, List.set_cons_succ]
  refine wpAnyH_ready (rs := [7]) (by kernel_rfl) (by simp) ?_
  refine AllReadyH.cons rfl (fun K hK => ?_) AllReadyH.nil
  go_simp
  go_wp2_with (go_at_call 54; (with_reducible refine (HT.out _ _ (HY.out.below BA.out)).mono ?_); rintro e wB ⟨rfl, hbB⟩)
  refine hK.out _ _ (kd6 N3.out hbB hh) (fun hh => ?_)
  clear hK K
  try simp only [List.getElem_toArray, List.getElem_cons_zero, List.getElem_cons_succ, Act.put, List.setIfInBounds_toArray, List.set_cons_zero, List.set_cons_succ]
  have BB := Lib.hid (bt BA.out hbB)
  refine wpAnyH_take (i := 8) (v := ?vp8) rfl (by kernel_rfl) (by kernel_rfl) (by kernel_rfl) (fun _ _ _ h => h) (Or.inl ⟨by rfl, ?hyp8⟩) (by assumption) ?rep8
  case hyp8 => first | (intro w hSw; (try dsimp only at hSw); go_simp; done) | (intro w hSw; (try dsimp only at hSw); go_simp; with_reducible rfl)
  try simp only [List.getElem_toArray, List.getElem_cons_zero, List.getElem_cons_succ, Act.put, List.setIfInBounds_toArray, List.set_cons_zero, List.set_cons_succ]
  refine wpAnyH_take (i := 9) (v := ?vp9) rfl (by kernel_rfl) (by kernel_rfl) (by kernel_rfl) (fun _ _ _ h => h) (Or.inl ⟨by rfl, ?hyp9⟩) (by assumption) ?rep9
  case hyp9 => first | (intro w hSw; (try dsimp only at hSw); go_simp; done) | (intro w hSw; (try dsimp only at hSw); go_simp; with_reducible rfl)
  try simp only [List.getElem_toArray, List.getElem_cons_zero, List.getElem_cons_succ, Act.put, List.setIfInBounds_toArray, List.set_cons_zero, List.set_cons_succ]
  refine wpAnyH_take (i := 10) (v := ?vp10) rfl (by kernel_rfl) (by kernel_rfl) (by kernel_rfl) (fun _ _ _ h => h) (Or.inl ⟨by rfl, ?hyp10⟩) (by assumption) ?rep10
  case hyp10 => first | (intro w hSw; (try dsimp only at hSw); go_simp; done) | (intro w hSw; (try dsimp only at hSw); go_simp; with_reducible rfl)
  try simp only [List.getElem_toArray, List.getElem_cons_zero, List.getElem_cons_succ, Act.put, List.setIfInBounds_toArray, List.set_cons_zero, List.set_cons_succ]
  refine wpAnyH_done (by kernel_rfl) ?_ _
  have hst : (({ data := #[91] } ++ { data := #[49, 47, 50] } ++ { data := #[44] } ++ { data := #[49, 47, 50] } ++ { data := #[93] } : ByteArray)) = { data := #[91, 49, 47, 50, 44, 49, 47, 50, 93] } := by decide +kernel
  go_wp2_with fail
  go_ret
  exact ⟨by rw [hst]; rfl, BB.out⟩
def ruA5 : Ru := ⟨1, 2, 1, 1, 0, 0, 0, 2, 0, 0, 0, 0, 0⟩
theorem play_A : playE ruA5 [1, 0, 2, 0, 3, 0, 0, 0] = (⟨5, 0, 0, 0, false, false, false, false⟩, 8, 0) := by kernel_rfl
theorem down_half : downQ (1 / 2) 4 = 1 / 2 := by decide +kernel
theorem up_half : upQ (1 / 2) 4 = 1 / 2 := by decide +kernel
theorem ints_new8 (w : World) (a b c d e f g h : Int) (t : TypeId) : IntsOf (w.alloc (.cells #[.int .i64 a, .int .i64 b, .int .i64 c, .int .i64 d, .int .i64 e, .int .i64 f, .int .i64 g, .int .i64 h] t)) (.slice (some ⟨w.heap.size, 0, none⟩) 8 8) [a, b, c, d, e, f, g, h] := by
  have hB := blk_new w #[.int .i64 a, .int .i64 b, .int .i64 c, .int .i64 d, .int .i64 e, .int .i64 f, .int .i64 g, .int .i64 h] t
  refine ⟨_, 8, rfl, fun _ => ⟨w.heap.size, 0, rfl, blk_lt hB, fun i hi => ?_⟩⟩
  match i, hi with
  | 0, _ => exact blk_cell hB 0 _ rfl
  | 1, _ => exact blk_cell hB 1 _ rfl
  | 2, _ => exact blk_cell hB 2 _ rfl
  | 3, _ => exact blk_cell hB 3 _ rfl
  | 4, _ => exact blk_cell hB 4 _ rfl
  | 5, _ => exact blk_cell hB 5 _ rfl
  | 6, _ => exact blk_cell hB 6 _ rfl
  | 7, _ => exact blk_cell hB 7 _ rfl
  | i + 8, hi => simp at hi; omega
set_option maxRecDepth 100000 in
set_option maxHeartbeats 2000000 in
theorem awake05_any (w : World) : Calls Try.prog 7 #[] w (RetBool true w) := by
  have HP : Hid (∀ W v, IsRng W v 0 0 → Calls Try.prog 46 #[v] W (RetBool true W)) := fun W v h => part_ok 0 0 v W h (by decide +kernel) (by decide +kernel) ⟨by decide +kernel, by decide +kernel⟩
  have HP2 : Hid (∀ W v, IsRng W v (1 / 2) (1 / 2) → Calls Try.prog 46 #[v] W (RetBool true W)) := fun W v h => part_ok _ _ v W h (by decide +kernel) (by decide +kernel) ⟨by decide +kernel, by decide +kernel⟩
  have HS : Hid (∀ W v u, IsRng W v 0 0 → IsRng W u (1 / 2) (1 / 2) → Calls Try.prog 47 #[v, u, .int .i64 (4 : Nat)] W (RetRng (1 / 2) (1 / 2) W)) := fun W v u h1 h2 => by
    have := step_any 0 0 (1 / 2) (1 / 2) 4 (by omega) v u W h1 h2 (1 / 2) (1 / 2) (by decide +kernel) (by decide +kernel) ⟨by decide +kernel, by decide +kernel⟩ ⟨by decide +kernel, by decide +kernel⟩ ⟨by decide +kernel, by decide +kernel⟩ ⟨by decide +kernel, by decide +kernel⟩ ⟨by decide +kernel, by decide +kernel⟩ ⟨by decide +kernel, by decide +kernel⟩ ⟨by decide +kernel, by decide +kernel⟩ ⟨by decide +kernel, by decide +kernel⟩ ⟨by decide +kernel, by decide +kernel⟩ ⟨by decide +kernel, by decide +kernel⟩ ⟨by decide +kernel, by decide +kernel⟩ (by decide +kernel)
    rw [down_half, up_half] at this
    exact this
  have HST : Hid (∀ W v u, IsRng W v 0 0 → IsRng W u (1 / 2) (1 / 2) → Calls Try.prog 23 #[v, u, .int .i64 4] W (RetRngE (1 / 2) (1 / 2) 0 W)) := fun W v u h1 h2 => Step_ok 0 0 (1 / 2) (1 / 2) 4 v u W h1 h2 _ _ HP HP2 HS
  have HPL : Hid (∀ W v, IntsOf W v [1, 0, 2, 0, 3, 0, 0, 0] → Calls Try.prog 8 #[ruV ruA5, v] W (RetPl (⟨5, 0, 0, 0, false, false, false, false⟩, 8, 0) W)) := fun W v h => by
    rw [← play_A]
    exact Play_any ruA5 _ v W h
  go_enter Try.func7, Try.ntmps7
  go_wp2_with fail
  refine (new_any 1 2 _ (by omega) (by omega) (by omega) (by omega) (by omega)).mono ?_
  rintro e w1 h1
  have h1' : ∃ v, e = .returned (.tuple #[v, .int .i64 0]) ∧ IsRat w1 v (1 / 2) ∧ Below w.heap.size w w1 := h1
  obtain ⟨v, rfl, hv, hb1⟩ := h1'
  obtain ⟨x, rfl⟩ := hv.open3
  have HV := Lib.hid (hv.below (below1 w1 (.cells x.arr 56)))
  have B1 := Lib.hid (ba (o := .cells x.arr 56) hb1)
  clear h1 hv hb1
  go_wp2_with fail
  refine (only_any (1 / 2) _ _ HV.out).mono ?_
  rintro e w2 ⟨v, rfl, hv, hb2⟩
  have B2 := Lib.hid (bt B1.out hb2)
  clear hb2
  go_wp2_with fail
  refine (HST.out _ _ _ ⟨r30, r30, rfl, IsRat.zero _, IsRat.zero _⟩ hv).mono ?_
  rintro e w3 ⟨v3, rfl, ⟨za, zb, rfl, hz1, hz2⟩, hb3⟩
  have B3 := Lib.hid (ba (o := .cells (arr6 za zb) 58) (bt B2.out hb3))
  have HZ : Hid (IsRng (w3.alloc (.cells (arr6 za zb) 58)) (rngV za zb) (1 / 2) (1 / 2)) := ⟨za, zb, rfl, hz1.below (below1 _ _), hz2.below (below1 _ _)⟩
  have E3 := Lib.hid (blk_new w3 (arr6 za zb) 58)
  clear hv hb3 hz1 hz2
  go_wp2_with fail
  have HI := ints_new8 ((w3.alloc (.cells (arr6 za zb) 58)).alloc (.cells (ruA ruA5) 25)) 1 0 2 0 3 0 0 0 3
  rw [World.size_alloc, World.size_alloc] at HI
  refine (HPL.out _ _ HI).mono ?_
  rintro e w4 ⟨rfl, hb4⟩
  have h5 : Below (w3.alloc (.cells (arr6 za zb) 58)).heap.size (w3.alloc (.cells (arr6 za zb) 58)) (w4.alloc (.cells (rnA ⟨5, 0, 0, 0, false, false, false, false⟩) 30)) := ba (bt (below2 _ _ _) hb4)
  have E5 := blk_keep E3.out h5 (blk_lt E3.out)
  have HZ5 := Lib.hid (HZ.out.below h5)
  have B5 := Lib.hid (bt B3.out h5)
  obtain ⟨x0, x1, x2, x3, x4, x5, _, _, _, _, _, _⟩ := fac6 (x := za) (y := zb) E5
  clear HI h5 E5 hb4
  go_wp2_with fail
  refine (rtext_half _ _ HZ5.out).mono ?_
  rintro e w6 ⟨rfl, hb6⟩
  have E6 := blk_keep (blk_new w4 (rnA ⟨5, 0, 0, 0, false, false, false, false⟩) 30) hb6 (by rw [World.size_alloc]; omega)
  have B6 := Lib.hid (bt B5.out hb6)
  obtain ⟨g0, _, _, _, _, _, _, _⟩ := rn8 E6
  clear x0 x1 x2 x3 x4 x5 hb6 E6
  go_wp2_with fail
  go_ret
  exact ⟨rfl, B6.out⟩
end Go.Proofs.Ytmfochplnchgcaa

/- RUNS ARE EQUAL TO THEMSELVES; printed by wip/tools/gen_cr.py. -/
namespace Go.Proofs.Ytmfochplnchgcaa
open Go.RowKit

theorem eqIntC (x y : Int) (w : World) : (Op.equalIn 9999 3 (.int .i64 x) (.int .i64 y)).run Try.prog w = .ok (x == y) w := by rw [run_equalIn_int w 9998 3 .i64 .i64 x y Try.underlying3]
theorem eqBool (x y : Bool) (w : World) : (Op.equalIn 9999 4 (.bool x) (.bool y)).run Try.prog w = .ok (x == y) w := by rw [run_equalIn_bool' w 9998 4 x y Try.underlying4]
theorem eqArr3 (a b c : Bool) (w : World) : (Op.equalIn 9999 28 (.agg #[.bool a, .bool b, .bool c]) (.agg #[.bool a, .bool b, .bool c])).run Try.prog w = .ok true w := by
  cases a <;> cases b <;> cases c <;> kernel_rfl
theorem crun_fields : (Try.prog.fieldsOf 30).toList = [{ name := "Phase", type := 3, offset := 0, embedded := false, tag := "", pkgPath := "", byteOffset := 0 }, { name := "Behind", type := 3, offset := 1, embedded := false, tag := "", pkgPath := "", byteOffset := 8 }, { name := "Minute", type := 3, offset := 2, embedded := false, tag := "", pkgPath := "", byteOffset := 16 }, { name := "Waited", type := 3, offset := 3, embedded := false, tag := "", pkgPath := "", byteOffset := 24 }, { name := "Lost", type := 28, offset := 4, embedded := false, tag := "", pkgPath := "", byteOffset := 32 }, { name := "Tell", type := 4, offset := 7, embedded := false, tag := "", pkgPath := "", byteOffset := 35 }] := by kernel_rfl
theorem crun_part0 (ph be mi wa : Int) (l0 l1 l2 te : Bool) (w : World) : (part 3 #[Value.int .i64 ph, Value.int .i64 be, Value.int .i64 mi, Value.int .i64 wa, Value.bool l0, Value.bool l1, Value.bool l2, Value.bool te] 0).run Try.prog w = .ok (.int .i64 ph) w := by kernel_rfl
theorem crun_part1 (ph be mi wa : Int) (l0 l1 l2 te : Bool) (w : World) : (part 3 #[Value.int .i64 ph, Value.int .i64 be, Value.int .i64 mi, Value.int .i64 wa, Value.bool l0, Value.bool l1, Value.bool l2, Value.bool te] 1).run Try.prog w = .ok (.int .i64 be) w := by kernel_rfl
theorem crun_part2 (ph be mi wa : Int) (l0 l1 l2 te : Bool) (w : World) : (part 3 #[Value.int .i64 ph, Value.int .i64 be, Value.int .i64 mi, Value.int .i64 wa, Value.bool l0, Value.bool l1, Value.bool l2, Value.bool te] 2).run Try.prog w = .ok (.int .i64 mi) w := by kernel_rfl
theorem crun_part3 (ph be mi wa : Int) (l0 l1 l2 te : Bool) (w : World) : (part 3 #[Value.int .i64 ph, Value.int .i64 be, Value.int .i64 mi, Value.int .i64 wa, Value.bool l0, Value.bool l1, Value.bool l2, Value.bool te] 3).run Try.prog w = .ok (.int .i64 wa) w := by kernel_rfl
theorem crun_part4 (ph be mi wa : Int) (l0 l1 l2 te : Bool) (w : World) : (part 28 #[Value.int .i64 ph, Value.int .i64 be, Value.int .i64 mi, Value.int .i64 wa, Value.bool l0, Value.bool l1, Value.bool l2, Value.bool te] 4).run Try.prog w = .ok (.agg #[.bool l0, .bool l1, .bool l2]) w := by kernel_rfl
theorem crun_part5 (ph be mi wa : Int) (l0 l1 l2 te : Bool) (w : World) : (part 4 #[Value.int .i64 ph, Value.int .i64 be, Value.int .i64 mi, Value.int .i64 wa, Value.bool l0, Value.bool l1, Value.bool l2, Value.bool te] 7).run Try.prog w = .ok (.bool te) w := by kernel_rfl
set_option maxRecDepth 100000 in
theorem eql_crun (ph be mi wa : Int) (l0 l1 l2 te : Bool) (w : World) : (binOp .eql 30 (.agg #[Value.int .i64 ph, Value.int .i64 be, Value.int .i64 mi, Value.int .i64 wa, Value.bool l0, Value.bool l1, Value.bool l2, Value.bool te]) (.agg #[Value.int .i64 ph, Value.int .i64 be, Value.int .i64 mi, Value.int .i64 wa, Value.bool l0, Value.bool l1, Value.bool l2, Value.bool te])).run Try.prog w = .ok (.bool true) w := by
  rw [run_eql_struct, run_equalIn_struct w 9999 30 _ _ (by kernel_rfl) (by kernel_rfl), crun_fields]
  unfold Op.eqFields
  rw [if_pos (show ("Phase" ≠ "_") by decide)]
  simp only [Sem.run_bind, crun_part0, eqIntC, Result.andThen_ok, Sem.run_ite, beq_self_eq_true]
  unfold Op.eqFields
  rw [if_pos (show ("Behind" ≠ "_") by decide)]
  simp only [Sem.run_bind, crun_part1, eqIntC, Result.andThen_ok, Sem.run_ite, beq_self_eq_true]
  unfold Op.eqFields
  rw [if_pos (show ("Minute" ≠ "_") by decide)]
  simp only [Sem.run_bind, crun_part2, eqIntC, Result.andThen_ok, Sem.run_ite, beq_self_eq_true]
  unfold Op.eqFields
  rw [if_pos (show ("Waited" ≠ "_") by decide)]
  simp only [Sem.run_bind, crun_part3, eqIntC, Result.andThen_ok, Sem.run_ite, beq_self_eq_true]
  unfold Op.eqFields
  rw [if_pos (show ("Lost" ≠ "_") by decide)]
  simp only [Sem.run_bind, crun_part4, eqArr3, Result.andThen_ok, Sem.run_ite, beq_self_eq_true]
  unfold Op.eqFields
  rw [if_pos (show ("Tell" ≠ "_") by decide)]
  simp only [Sem.run_bind, crun_part5, eqBool, Result.andThen_ok, Sem.run_ite, beq_self_eq_true]
  unfold Op.eqFields
  simp
theorem rrun_fields : (Try.prog.fieldsOf 34).toList = [{ name := "Phase", type := 3, offset := 0, embedded := false, tag := "", pkgPath := "", byteOffset := 0 }, { name := "Behind", type := 3, offset := 1, embedded := false, tag := "", pkgPath := "", byteOffset := 8 }, { name := "Minute", type := 3, offset := 2, embedded := false, tag := "", pkgPath := "", byteOffset := 16 }, { name := "Waited", type := 3, offset := 3, embedded := false, tag := "", pkgPath := "", byteOffset := 24 }, { name := "Lost", type := 28, offset := 4, embedded := false, tag := "", pkgPath := "", byteOffset := 32 }, { name := "Tell", type := 4, offset := 7, embedded := false, tag := "", pkgPath := "", byteOffset := 35 }] := by kernel_rfl
theorem rrun_part0 (ph be mi wa : Int) (l0 l1 l2 te : Bool) (w : World) : (part 3 #[Value.int .i64 ph, Value.int .i64 be, Value.int .i64 mi, Value.int .i64 wa, Value.bool l0, Value.bool l1, Value.bool l2, Value.bool te] 0).run Try.prog w = .ok (.int .i64 ph) w := by kernel_rfl
theorem rrun_part1 (ph be mi wa : Int) (l0 l1 l2 te : Bool) (w : World) : (part 3 #[Value.int .i64 ph, Value.int .i64 be, Value.int .i64 mi, Value.int .i64 wa, Value.bool l0, Value.bool l1, Value.bool l2, Value.bool te] 1).run Try.prog w = .ok (.int .i64 be) w := by kernel_rfl
theorem rrun_part2 (ph be mi wa : Int) (l0 l1 l2 te : Bool) (w : World) : (part 3 #[Value.int .i64 ph, Value.int .i64 be, Value.int .i64 mi, Value.int .i64 wa, Value.bool l0, Value.bool l1, Value.bool l2, Value.bool te] 2).run Try.prog w = .ok (.int .i64 mi) w := by kernel_rfl
theorem rrun_part3 (ph be mi wa : Int) (l0 l1 l2 te : Bool) (w : World) : (part 3 #[Value.int .i64 ph, Value.int .i64 be, Value.int .i64 mi, Value.int .i64 wa, Value.bool l0, Value.bool l1, Value.bool l2, Value.bool te] 3).run Try.prog w = .ok (.int .i64 wa) w := by kernel_rfl
theorem rrun_part4 (ph be mi wa : Int) (l0 l1 l2 te : Bool) (w : World) : (part 28 #[Value.int .i64 ph, Value.int .i64 be, Value.int .i64 mi, Value.int .i64 wa, Value.bool l0, Value.bool l1, Value.bool l2, Value.bool te] 4).run Try.prog w = .ok (.agg #[.bool l0, .bool l1, .bool l2]) w := by kernel_rfl
theorem rrun_part5 (ph be mi wa : Int) (l0 l1 l2 te : Bool) (w : World) : (part 4 #[Value.int .i64 ph, Value.int .i64 be, Value.int .i64 mi, Value.int .i64 wa, Value.bool l0, Value.bool l1, Value.bool l2, Value.bool te] 7).run Try.prog w = .ok (.bool te) w := by kernel_rfl
set_option maxRecDepth 100000 in
theorem eql_rrun (ph be mi wa : Int) (l0 l1 l2 te : Bool) (w : World) : (binOp .eql 34 (.agg #[Value.int .i64 ph, Value.int .i64 be, Value.int .i64 mi, Value.int .i64 wa, Value.bool l0, Value.bool l1, Value.bool l2, Value.bool te]) (.agg #[Value.int .i64 ph, Value.int .i64 be, Value.int .i64 mi, Value.int .i64 wa, Value.bool l0, Value.bool l1, Value.bool l2, Value.bool te])).run Try.prog w = .ok (.bool true) w := by
  rw [run_eql_struct, run_equalIn_struct w 9999 34 _ _ (by kernel_rfl) (by kernel_rfl), rrun_fields]
  unfold Op.eqFields
  rw [if_pos (show ("Phase" ≠ "_") by decide)]
  simp only [Sem.run_bind, rrun_part0, eqIntC, Result.andThen_ok, Sem.run_ite, beq_self_eq_true]
  unfold Op.eqFields
  rw [if_pos (show ("Behind" ≠ "_") by decide)]
  simp only [Sem.run_bind, rrun_part1, eqIntC, Result.andThen_ok, Sem.run_ite, beq_self_eq_true]
  unfold Op.eqFields
  rw [if_pos (show ("Minute" ≠ "_") by decide)]
  simp only [Sem.run_bind, rrun_part2, eqIntC, Result.andThen_ok, Sem.run_ite, beq_self_eq_true]
  unfold Op.eqFields
  rw [if_pos (show ("Waited" ≠ "_") by decide)]
  simp only [Sem.run_bind, rrun_part3, eqIntC, Result.andThen_ok, Sem.run_ite, beq_self_eq_true]
  unfold Op.eqFields
  rw [if_pos (show ("Lost" ≠ "_") by decide)]
  simp only [Sem.run_bind, rrun_part4, eqArr3, Result.andThen_ok, Sem.run_ite, beq_self_eq_true]
  unfold Op.eqFields
  rw [if_pos (show ("Tell" ≠ "_") by decide)]
  simp only [Sem.run_bind, rrun_part5, eqBool, Result.andThen_ok, Sem.run_ite, beq_self_eq_true]
  unfold Op.eqFields
  simp
end Go.Proofs.Ytmfochplnchgcaa

/- HOW THE ARGUMENTS OF A ROW ARE OPENED: slices of structs, read as lists. -/
namespace Go.Proofs.Ytmfochplnchgcaa
open Go.ChangeShapes Go.WideShapes Go.ChangeAt Go.RowKit

section
variable {H : Type} {enc : TypeId × Value → H} {P : Program} {w : World} {base : Nat} {spare : Nat → Bool} {held : Bool}
theorem trod_float {t : TypeId} {fuel : Nat} {cs : List Value} {x : DataW H × List MemPlace} {k : FloatKind} (ht : P.underlying t = some (.float k)) (h : DataW.trod enc P w base spare held fuel t cs = some x) :
    ∃ n, cs = [.float k n] ∧ x = (.lit (.float k n), []) ∧ (Lit.float k n).wf = true := by
  cases fuel with
  | zero => simp [DataW.trod] at h
  | succ n =>
    unfold DataW.trod at h
    rw [ht] at h
    split at h <;> simp_all

/-- A slice of structs of k cells each, opened: each element's cells, of which the element's own law holds. -/
theorem open_rows {r : Reach} {b0 : Nat} {t e : TypeId} {k : Nat} {v : Value} {d : DataW H} {p : List MemPlace} (ht : P.underlying t = some (.slice e)) (hk : P.cellsOf e = k) (hk0 : 0 < k) (Law : List Value → Prop)
    (hlaw : ∀ n cs y, DataW.trod enc P w 0 (fun _ => true) true n e cs = some y → Law cs) (hv : Value.okWide P w r b0 t v) (h : DataW.Trod enc P w 0 (fun _ => true) true t v d p) :
    ∃ ao len cap, v = .slice ao len cap ∧ len ≤ cap ∧ cap ≤ maxLen ∧ (0 < len → ∃ b off, ao = some ⟨b, off, none⟩ ∧ b < w.heap.size ∧ ∀ i, i < len → ∃ cs : List Value, cs.length = k ∧ Law cs ∧ ∀ j, j < k → w.cell? ⟨b, off + i * k + j, none⟩ = cs[j]?) := by
  obtain ⟨ao, len, cap, rfl⟩ := okWide_slice ht hv
  refine ⟨ao, len, cap, rfl, ?_⟩
  obtain ⟨fuel, hf⟩ := h
  rcases Deep.open_slice ht hf with ⟨hcs, _⟩ | ⟨a, len', cap', m, n, D, Pl, hcs, _, hl, hm, hmm, _, hi⟩
  · simp [Value.cells] at hcs
    obtain ⟨rfl, rfl, rfl⟩ := hcs
    exact ⟨Nat.le_refl _, by unfold maxLen; omega, fun h => absurd h (by omega)⟩
  · simp [Value.cells] at hcs
    obtain ⟨rfl, rfl, rfl⟩ := hcs
    refine ⟨hl, hm, fun hlen => ?_⟩
    simp only [if_true] at hmm
    subst hmm
    have key : ∀ i, i < len → ∃ cs : List Value, cs.length = k ∧ Law cs ∧ ∀ j, j < k → w.cell? (a.add (i * k + j)) = cs[j]? := by
      intro i hlt
      obtain ⟨cs', hc, hT⟩ := hi i (by omega)
      rw [hk] at hc
      obtain ⟨_, hcl, hat⟩ := World.cells?_some hc
      exact ⟨cs', hcl, hlaw _ _ _ hT, fun j hj => by rw [← hat j hj, Deep.add_add]⟩
    obtain ⟨b, off, spot⟩ := a
    have hsp : spot = none := by
      obtain ⟨cs, hcl, _, hat⟩ := key 0 hlen
      have h0 := hat 0 hk0
      rw [List.getElem?_eq_getElem (by omega)] at h0
      have := World.cell?_spot h0
      simpa [Addr.add] using this
    subst hsp
    have ea : ∀ j, (⟨b, off, none⟩ : Addr).add j = ⟨b, off + j, none⟩ := fun j => by unfold Addr.add; split <;> simp_all
    refine ⟨b, off, rfl, ?_, fun i hlt => ?_⟩
    · obtain ⟨cs, hcl, _, hat⟩ := key 0 hlen
      have h0 := hat 0 hk0
      rw [List.getElem?_eq_getElem (by omega), ea] at h0
      exact World.block_lt_of_cell? (h := h0)
    · obtain ⟨cs, hcl, hL, hat⟩ := key i hlt
      exact ⟨cs, hcl, hL, fun j hj => by rw [← hat j hj, ea, Nat.add_assoc]⟩
end

/-- A list whose elements are chosen one by one. -/
theorem choose_list {α : Type} (n : Nat) (d : α) (p : Nat → α → Prop) (h : ∀ i, i < n → ∃ x, p i x) : ∃ l : List α, l.length = n ∧ ∀ i, i < n → p i (l.getD i d) := by
  have h2 : ∀ i, ∃ x, i < n → p i x := fun i => by
    by_cases hi : i < n
    · obtain ⟨x, hx⟩ := h i hi
      exact ⟨x, fun _ => hx⟩
    · exact ⟨d, fun h => absurd h hi⟩
  refine ⟨(List.range n).map fun i => Classical.choose (h2 i), by simp, fun i hi => ?_⟩
  have e : ((List.range n).map fun i => Classical.choose (h2 i)).getD i d = Classical.choose (h2 i) := by simp [hi]
  rw [e]
  exact Classical.choose_spec (h2 i) hi

theorem i64R_of {n : Int} (h : (Lit.int .i64 n).wf = true) : i64R n := bounds_i64 h

section
variable {H : Type} {enc : TypeId × Value → H} {w : World}
theorem cells_i64 : Try.prog.cellsOf 2 = 1 := by kernel_rfl
theorem cells_int : Try.prog.cellsOf 3 = 1 := by kernel_rfl
end

theorem own_knob : ownKnob Try.prog.godebug = none := by kernel_rfl
theorem laid_out : laidOutB Try.prog = true := by kernel_rfl

end Go.Proofs.Ytmfochplnchgcaa

/- ARGUMENTS OF FLAT TYPES (structs and arrays of numbers, floats, Booleans, strings), opened all alike. -/
namespace Go.Proofs.Ytmfochplnchgcaa
open Go.ChangeShapes Go.WideShapes Go.ChangeAt Go.RowKit

inductive Leaf where
  | int (k : IntKind) | float (k : FloatKind) | bool | string
def leafOk : Leaf → Value → Prop
  | .int k, v => ∃ n, v = .int k n ∧ (Lit.int k n).wf = true
  | .float k, v => ∃ n, v = .float k n ∧ (Lit.float k n).wf = true
  | .bool, v => ∃ b, v = .bool b
  | .string, v => ∃ s : ByteArray, v = .string s ∧ s.size ≤ maxLen
def allLeaf : List Leaf → List Value → Prop
  | [], [] => True
  | l :: ls, v :: vs => leafOk l v ∧ allLeaf ls vs
  | _, _ => False
theorem allLeaf_append : ∀ {ls : List Leaf} {vs : List Value} {ls' : List Leaf} {vs' : List Value}, allLeaf ls vs → allLeaf ls' vs' → allLeaf (ls ++ ls') (vs ++ vs')
  | [], [], _, _, _, h => h
  | _ :: _, _ :: _, _, _, ⟨h1, h2⟩, h => ⟨h1, allLeaf_append h2 h⟩
theorem allLeaf_length : ∀ {ls : List Leaf} {vs : List Value}, allLeaf ls vs → vs.length = ls.length
  | [], [], _ => rfl
  | _ :: _, _ :: _, ⟨_, h⟩ => by simp [allLeaf_length h]

section
variable (P : Program)
def flatFs (fl : TypeId → Option (List Leaf)) : List Field → Nat → Option (List Leaf)
  | [], _ => some []
  | f :: fs, o => if f.offset = o then (fl f.type).bind fun l => if P.cellsOf f.type = l.length then (flatFs fl fs (o + l.length)).map (l ++ ·) else none else none
def flatN (l : List Leaf) : Nat → List Leaf
  | 0 => []
  | n + 1 => flatN l n ++ l
/-- The leaves of a flat type. -/
def flat : Nat → TypeId → Option (List Leaf)
  | 0, _ => none
  | n + 1, t => match P.underlying t with
    | some .bool => some [.bool]
    | some (.int k) => some [.int k]
    | some (.float k) => some [.float k]
    | some .string => some [.string]
    | some (.struct fs) => (flatFs P (flat n) fs.toList 0).bind fun l => if P.cellsOf t = l.length then some l else none
    | some (.array m e) => (flat n e).bind fun l => if P.cellsOf e = l.length ∧ P.cellsOf t = m * l.length then some (flatN l m) else none
    | _ => none
end
theorem flatN_length (l : List Leaf) (n : Nat) : (flatN l n).length = n * l.length := by
  induction n with
  | zero => simp [flatN]
  | succ n ih => simp [flatN, ih, Nat.succ_mul]

section
variable {H : Type} {enc : TypeId × Value → H} {P : Program} {w : World}
theorem flatFs_law (fl : TypeId → Option (List Leaf)) (n : Nat) (cs : List Value) (ih : ∀ t l cs y, fl t = some l → DataW.trod enc P w 0 (fun _ => true) true n t cs = some y → allLeaf l cs) :
    ∀ (fs : List Field) (o : Nat) (ls : List Leaf), flatFs P fl fs o = some ls → (∀ f ∈ fs, ∃ y, DataW.trod enc P w 0 (fun _ => true) true n f.type ((cs.drop f.offset).take (P.cellsOf f.type)) = some y) →
      allLeaf ls ((cs.drop o).take ls.length)
  | [], o, ls, h, _ => by
    simp [flatFs] at h
    subst h
    simp [allLeaf]
  | f :: fs, o, ls, h, hf => by
    unfold flatFs at h
    split at h
    · rename_i ho
      subst ho
      rw [Option.bind_eq_some_iff] at h
      obtain ⟨l, h1, h2⟩ := h
      split at h2
      · rename_i hc
        rw [Option.map_eq_some_iff] at h2
        obtain ⟨l2, h3, rfl⟩ := h2
        obtain ⟨y, hy⟩ := hf f (by simp)
        have a1 := ih _ _ _ _ h1 hy
        rw [hc] at a1
        have a2 := flatFs_law fl n cs ih fs _ _ h3 (fun g hg => hf g (by simp [hg]))
        rw [List.length_append, List.take_add, List.drop_drop]
        exact allLeaf_append a1 a2
      · cases h2
    · cases h
theorem trod_array {t e : TypeId} {fuel m : Nat} {cs : List Value} {x : DataW H × List MemPlace} (ht : P.underlying t = some (.array m e)) (h : DataW.trod enc P w 0 (fun _ => true) true fuel t cs = some x) :
    ∃ n, fuel = n + 1 ∧ cs.length = P.cellsOf t ∧ ∀ i, i < m → ∃ y, DataW.trod enc P w 0 (fun _ => true) true n e ((cs.drop (i * P.cellsOf e)).take (P.cellsOf e)) = some y := by
  cases fuel with
  | zero => simp [DataW.trod] at h
  | succ n =>
    unfold DataW.trod at h
    rw [ht] at h
    split at h <;> simp_all
    obtain ⟨hl, xs, hp, hd⟩ := h
    intro i hi
    have hlen := mapM_some_length hp
    have := mapM_some_get hp i i (by simp [hi])
    rw [this]
    simp at hlen
    exact ⟨xs[i].1, xs[i].2, by simp [hlen, hi]⟩
theorem flat_law : ∀ (k : Nat) (t : TypeId) (ls : List Leaf) (n : Nat) (cs : List Value) (y : DataW H × List MemPlace), flat P k t = some ls → DataW.trod enc P w 0 (fun _ => true) true n t cs = some y → allLeaf ls cs := by
  intro k
  induction k with
  | zero => intro t ls n cs y h; simp [flat] at h
  | succ k ih =>
    intro t ls n cs y h ht
    unfold flat at h
    split at h
    · rename_i hu
      obtain ⟨b, rfl, _⟩ := DataW.trod_bool hu ht
      obtain rfl : [Leaf.bool] = ls := by simpa using h
      exact ⟨⟨b, rfl⟩, trivial⟩
    · rename_i kk hu
      obtain ⟨b, rfl, _, hw⟩ := DataW.trod_int hu ht
      obtain rfl : [Leaf.int kk] = ls := by simpa using h
      exact ⟨⟨b, rfl, hw⟩, trivial⟩
    · rename_i kk hu
      obtain ⟨b, rfl, _, hw⟩ := trod_float hu ht
      obtain rfl : [Leaf.float kk] = ls := by simpa using h
      exact ⟨⟨b, rfl, hw⟩, trivial⟩
    · rename_i hu
      obtain ⟨s, rfl, _, hw⟩ := DataW.trod_string hu ht
      obtain rfl : [Leaf.string] = ls := by simpa using h
      exact ⟨⟨s, rfl, hw⟩, trivial⟩
    · rename_i fs hu
      rw [Option.bind_eq_some_iff] at h
      obtain ⟨l, h1, h2⟩ := h
      split at h2
      · rename_i hc
        obtain rfl : l = ls := by simpa using h2
        obtain ⟨xs, m, _, _, hcl, hxl, hf⟩ := DataW.trod_struct hu ht
        have := flatFs_law (enc := enc) (w := w) (flat P k) m cs (fun t l cs y a b => ih t l m cs y a b) fs.toList 0 l h1 (fun f hf' => by
          obtain ⟨i, hi, rfl⟩ := List.getElem_of_mem hf'
          simp at hi
          have e := hf i fs[i] (by simp [hi])
          exact ⟨xs[i], by simp at e ⊢; rw [e]; simp [hxl, hi]⟩)
        rw [List.drop_zero, List.take_of_length_le (by rw [hcl, hc]; exact Nat.le_refl _)] at this
        exact this
      · cases h2
    · rename_i m e hu
      rw [Option.bind_eq_some_iff] at h
      obtain ⟨l, h1, h2⟩ := h
      split at h2
      · rename_i hc
        obtain ⟨hc1, hc2⟩ := hc
        obtain rfl : flatN l m = ls := by simpa using h2
        obtain ⟨n', _, hcl, hE⟩ := trod_array hu ht
        have key : ∀ j, j ≤ m → allLeaf (flatN l j) (cs.take (j * l.length)) := by
          intro j hj
          induction j with
          | zero => simp [flatN, allLeaf]
          | succ j ihj =>
            obtain ⟨y, hy⟩ := hE j (by omega)
            have a1 := ih _ _ _ _ _ h1 hy
            rw [hc1] at a1
            rw [Nat.succ_mul, List.take_add]
            exact allLeaf_append (ihj (by omega)) a1
        have := key m (Nat.le_refl _)
        rw [List.take_of_length_le (by rw [hcl, hc2]; exact Nat.le_refl _)] at this
        exact this
      · cases h2
    · cases h

/-- An argument that is a slice of flat elements. -/
theorem open_flats {r : Reach} {b0 : Nat} {t e : TypeId} {k : Nat} {ls : List Leaf} {v : Value} {d : DataW H} {p : List MemPlace} (ht : P.underlying t = some (.slice e)) (hk : P.cellsOf e = k) (hk0 : 0 < k) (hfl : flat P 8 e = some ls)
    (hv : Value.okWide P w r b0 t v) (h : DataW.Trod enc P w 0 (fun _ => true) true t v d p) :
    ∃ ao len cap, v = .slice ao len cap ∧ len ≤ cap ∧ cap ≤ maxLen ∧ (0 < len → ∃ b off, ao = some ⟨b, off, none⟩ ∧ b < w.heap.size ∧ ∀ i, i < len → ∃ cs : List Value, cs.length = k ∧ allLeaf ls cs ∧ ∀ j, j < k → w.cell? ⟨b, off + i * k + j, none⟩ = cs[j]?) :=
  open_rows ht hk hk0 (allLeaf ls) (fun n cs y hy => flat_law 8 e ls n cs y hfl hy) hv h
/-- An argument that is a struct or an array of flat parts. -/
theorem open_flat {t : TypeId} {ls : List Leaf} {v : Value} {d : DataW H} {p : List MemPlace} (hfl : flat P 8 t = some ls) (h : DataW.Trod enc P w 0 (fun _ => true) true t v d p) : allLeaf ls v.cells.toList := by
  obtain ⟨fuel, hf⟩ := h
  exact flat_law 8 t ls fuel _ _ hfl hf
end

end Go.Proofs.Ytmfochplnchgcaa
