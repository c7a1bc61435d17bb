/- Part g of the lemmas and walks. -/
import Derived.Test.YtmfochplnchgcaaGf

/- THE WALKS of Run.right; printed by wip/tools/gen_cg.py. -/
namespace Go.Proofs.Ytmfochplnchgcaa
open Go.RowKit

theorem keepR {W a : World} {B1 B2 j : Nat} {v0 v1 v2 v3 v4 v5 v6 v7 u0 u1 u2 u3 u4 u5 u6 u7 u8 u9 u10 u11 u12 mv : Value} {o o' : Obj} (h : Below W.heap.size W a ∧ a.cell? ⟨B1, 0, none⟩ = some (v0) ∧ a.cell? ⟨B1, 1, none⟩ = some (v1) ∧ a.cell? ⟨B1, 2, none⟩ = some (v2) ∧ a.cell? ⟨B1, 3, none⟩ = some (v3) ∧ a.cell? ⟨B1, 4, none⟩ = some (v4) ∧ a.cell? ⟨B1, 5, none⟩ = some (v5) ∧ a.cell? ⟨B1, 6, none⟩ = some (v6) ∧ a.cell? ⟨B1, 7, none⟩ = some (v7) ∧ a.cell? ⟨B2, 0, none⟩ = some (u0) ∧ a.cell? ⟨B2, 1, none⟩ = some (u1) ∧ a.cell? ⟨B2, 2, none⟩ = some (u2) ∧ a.cell? ⟨B2, 3, none⟩ = some (u3) ∧ a.cell? ⟨B2, 4, none⟩ = some (u4) ∧ a.cell? ⟨B2, 5, none⟩ = some (u5) ∧ a.cell? ⟨B2, 6, none⟩ = some (u6) ∧ a.cell? ⟨B2, 7, none⟩ = some (u7) ∧ a.cell? ⟨B2, 8, none⟩ = some (u8) ∧ a.cell? ⟨B2, 9, none⟩ = some (u9) ∧ a.cell? ⟨B2, 10, none⟩ = some (u10) ∧ a.cell? ⟨B2, 11, none⟩ = some (u11) ∧ a.cell? ⟨B2, 12, none⟩ = some (u12) ∧ a.cell? ⟨B2, j, none⟩ = some mv) : Below W.heap.size W ((a.alloc o).alloc o') ∧ ((a.alloc o).alloc o').cell? ⟨B1, 0, none⟩ = some (v0) ∧ ((a.alloc o).alloc o').cell? ⟨B1, 1, none⟩ = some (v1) ∧ ((a.alloc o).alloc o').cell? ⟨B1, 2, none⟩ = some (v2) ∧ ((a.alloc o).alloc o').cell? ⟨B1, 3, none⟩ = some (v3) ∧ ((a.alloc o).alloc o').cell? ⟨B1, 4, none⟩ = some (v4) ∧ ((a.alloc o).alloc o').cell? ⟨B1, 5, none⟩ = some (v5) ∧ ((a.alloc o).alloc o').cell? ⟨B1, 6, none⟩ = some (v6) ∧ ((a.alloc o).alloc o').cell? ⟨B1, 7, none⟩ = some (v7) ∧ ((a.alloc o).alloc o').cell? ⟨B2, 0, none⟩ = some (u0) ∧ ((a.alloc o).alloc o').cell? ⟨B2, 1, none⟩ = some (u1) ∧ ((a.alloc o).alloc o').cell? ⟨B2, 2, none⟩ = some (u2) ∧ ((a.alloc o).alloc o').cell? ⟨B2, 3, none⟩ = some (u3) ∧ ((a.alloc o).alloc o').cell? ⟨B2, 4, none⟩ = some (u4) ∧ ((a.alloc o).alloc o').cell? ⟨B2, 5, none⟩ = some (u5) ∧ ((a.alloc o).alloc o').cell? ⟨B2, 6, none⟩ = some (u6) ∧ ((a.alloc o).alloc o').cell? ⟨B2, 7, none⟩ = some (u7) ∧ ((a.alloc o).alloc o').cell? ⟨B2, 8, none⟩ = some (u8) ∧ ((a.alloc o).alloc o').cell? ⟨B2, 9, none⟩ = some (u9) ∧ ((a.alloc o).alloc o').cell? ⟨B2, 10, none⟩ = some (u10) ∧ ((a.alloc o).alloc o').cell? ⟨B2, 11, none⟩ = some (u11) ∧ ((a.alloc o).alloc o').cell? ⟨B2, 12, none⟩ = some (u12) ∧ ((a.alloc o).alloc o').cell? ⟨B2, j, none⟩ = some mv := by
  obtain ⟨h0, x0, x1, x2, x3, x4, x5, x6, x7, y0, y1, y2, y3, y4, y5, y6, y7, y8, y9, y10, y11, y12, z⟩ := h
  have hb := below2 a o o'
  have e : ∀ B j v, a.cell? ⟨B, j, none⟩ = some v → ((a.alloc o).alloc o').cell? ⟨B, j, none⟩ = some v := fun B j v h => (hb.cell (p := ⟨B, j, none⟩) (World.block_lt_of_cell? (h := h))).trans h
  exact ⟨h0.trans (hb.mono h0.size), e _ _ _ x0, e _ _ _ x1, e _ _ _ x2, e _ _ _ x3, e _ _ _ x4, e _ _ _ x5, e _ _ _ x6, e _ _ _ x7, e _ _ _ y0, e _ _ _ y1, e _ _ _ y2, e _ _ _ y3, e _ _ _ y4, e _ _ _ y5, e _ _ _ y6, e _ _ _ y7, e _ _ _ y8, e _ _ _ y9, e _ _ _ y10, e _ _ _ y11, e _ _ _ y12, e _ _ _ z⟩
set_option maxRecDepth 100000 in
set_option maxHeartbeats 2000000 in
theorem right_w1 (r : Ru) (be mi wa : Int) (l0 l1 l2 te : Bool) (c1 : inR be 1 3 = false) (w : World) :
    Calls Try.prog 32 #[rnV ⟨4, be, mi, wa, l0, l1, l2, te⟩, ruV r] w (RetBool false w) := by
  go_enter Try.func32, Try.ntmps32
  go_wp2_with fail
  refine (in_any _ _ _ _).mono ?_
  rintro e w' ⟨rfl, rfl⟩
  rw [show inR 4 0 7 = true from rfl]
  go_wp2_with fail
  generalize hW0 : (w.alloc (.cells (rnA ⟨4, be, mi, wa, l0, l1, l2, te⟩) 30)).alloc (.cells (ruA r) 25) = W at *
  obtain ⟨hal, hB1, hB2, hWs⟩ := boxes2 w _ _ W hW0.symm
  have HW0 := Lib.hid hal
  have k1 := rn8 hB1
  have k2 := ru13 hB2
  obtain ⟨x0, x1, x2, x3, x4, x5, x6, x7⟩ := k1
  obtain ⟨y0, y1, y2, y3, y4, y5, y6, y7, y8, y9, y10, y11, y12⟩ := k2
  clear hW0 hal hWs hB1 hB2
  refine wp_region_held_drew (S := (fun w' => Below W.heap.size W w' ∧ w'.cell? ⟨w.heap.size, 0, none⟩ = some (.int .i64 4) ∧ w'.cell? ⟨w.heap.size, 1, none⟩ = some (.int .i64 be) ∧ w'.cell? ⟨w.heap.size, 2, none⟩ = some (.int .i64 mi) ∧ w'.cell? ⟨w.heap.size, 3, none⟩ = some (.int .i64 wa) ∧ w'.cell? ⟨w.heap.size, 4, none⟩ = some (.bool l0) ∧ w'.cell? ⟨w.heap.size, 5, none⟩ = some (.bool l1) ∧ w'.cell? ⟨w.heap.size, 6, none⟩ = some (.bool l2) ∧ w'.cell? ⟨w.heap.size, 7, none⟩ = some (.bool te) ∧ w'.cell? ⟨w.heap.size + 1, 0, none⟩ = some (.int .i64 r.m0) ∧ w'.cell? ⟨w.heap.size + 1, 1, none⟩ = some (.int .i64 r.m1) ∧ w'.cell? ⟨w.heap.size + 1, 2, none⟩ = some (.int .i64 r.m2) ∧ w'.cell? ⟨w.heap.size + 1, 3, none⟩ = some (.int .i64 r.pa) ∧ w'.cell? ⟨w.heap.size + 1, 4, none⟩ = some (.int .i64 r.t00) ∧ w'.cell? ⟨w.heap.size + 1, 5, none⟩ = some (.int .i64 r.t01) ∧ w'.cell? ⟨w.heap.size + 1, 6, none⟩ = some (.int .i64 r.t02) ∧ w'.cell? ⟨w.heap.size + 1, 7, none⟩ = some (.int .i64 r.t10) ∧ w'.cell? ⟨w.heap.size + 1, 8, none⟩ = some (.int .i64 r.t11) ∧ w'.cell? ⟨w.heap.size + 1, 9, none⟩ = some (.int .i64 r.t12) ∧ w'.cell? ⟨w.heap.size + 1, 10, none⟩ = some (.int .i64 r.t20) ∧ w'.cell? ⟨w.heap.size + 1, 11, none⟩ = some (.int .i64 r.t21) ∧ w'.cell? ⟨w.heap.size + 1, 12, none⟩ = some (.int .i64 r.t22))) (by kernel_rfl) ⟨(Below.refl _ _).drew, x0, x1, x2, x3, x4, x5, x6, x7, y0, y1, y2, y3, y4, y5, y6, y7, y8, y9, y10, y11, y12⟩ (fun hh => ?_)
  clear x0 x1 x2 x3 x4 x5 x6 x7 y0 y1 y2 y3 y4 y5 y6 y7 y8 y9 y10 y11 y12
  refine wpAnyH_take (i := 0) (v := ?vp0) rfl (by kernel_rfl) (by kernel_rfl) (by kernel_rfl) (fun _ _ _ h => h) (Or.inl ⟨by rfl, ?hyp0⟩) (by assumption) ?rep0
  case hyp0 => first | (intro w hSw; (try dsimp only at hSw); go_simp; done) | (intro w hSw; (try dsimp only at hSw); go_simp; with_reducible rfl)
  try simp only [List.getElem_toArray, List.getElem_cons_zero, List.getElem_cons_succ, Act.put, List.setIfInBounds_toArray, List.set_cons_zero, List.set_cons_succ]
  refine wpAnyH_take (i := 1) (v := ?vp1) rfl (by kernel_rfl) (by kernel_rfl) (by kernel_rfl) (fun _ _ _ h => h) (Or.inl ⟨by rfl, ?hyp1⟩) (by assumption) ?rep1
  case hyp1 => first | (intro w hSw; (try dsimp only at hSw); go_simp; done) | (intro w hSw; (try dsimp only at hSw); go_simp; with_reducible rfl)
  try simp only [List.getElem_toArray, List.getElem_cons_zero, List.getElem_cons_succ, Act.put, List.setIfInBounds_toArray, List.set_cons_zero, List.set_cons_succ]
  refine wpAnyH_ready (rs := [2]) (by kernel_rfl) (by simp) ?_
  refine AllReadyH.cons rfl (fun K hK => ?_) AllReadyH.nil
  go_simp
  go_wp2_with (go_at_call 30; (with_reducible refine (in_any _ _ _ _).mono ?_); rintro e w1 ⟨rfl, rfl⟩; rw [c1])
  refine hK.out _ _ (by assumption) (fun hh => ?_)
  clear hK K
  try simp only [List.getElem_toArray, List.getElem_cons_zero, List.getElem_cons_succ, Act.put, List.setIfInBounds_toArray, List.set_cons_zero, List.set_cons_succ]
  refine wpAnyH_take (i := 3) (v := ?vp3) rfl (by kernel_rfl) (by kernel_rfl) (by kernel_rfl) (fun _ _ _ h => h) (Or.inl ⟨by rfl, ?hyp3⟩) (by assumption) ?rep3
  case hyp3 => first | (intro w hSw; (try dsimp only at hSw); go_simp; done) | (intro w hSw; (try dsimp only at hSw); go_simp; with_reducible rfl)
  try simp only [List.getElem_toArray, List.getElem_cons_zero, List.getElem_cons_succ, Act.put, List.setIfInBounds_toArray, List.set_cons_zero, List.set_cons_succ]
  refine wpAnyH_take (i := 4) (v := undef) rfl (by kernel_rfl) (by kernel_rfl) (by kernel_rfl) (fun _ _ _ h => h) (Or.inr ⟨by rfl, rfl⟩) (by assumption) ?rep4
  try simp only [List.getElem_toArray, List.getElem_cons_zero, List.getElem_cons_succ, Act.put, List.setIfInBounds_toArray, List.set_cons_zero, List.set_cons_succ]
  refine wpAnyH_take (i := 5) (v := undef) rfl (by kernel_rfl) (by kernel_rfl) (by kernel_rfl) (fun _ _ _ h => h) (Or.inr ⟨by rfl, rfl⟩) (by assumption) ?rep5
  try simp only [List.getElem_toArray, List.getElem_cons_zero, List.getElem_cons_succ, Act.put, List.setIfInBounds_toArray, List.set_cons_zero, List.set_cons_succ]
  refine wpAnyH_take (i := 6) (v := undef) rfl (by kernel_rfl) (by kernel_rfl) (by kernel_rfl) (fun _ _ _ h => h) (Or.inr ⟨by rfl, rfl⟩) (by assumption) ?rep6
  try simp only [List.getElem_toArray, List.getElem_cons_zero, List.getElem_cons_succ, Act.put, List.setIfInBounds_toArray, List.set_cons_zero, List.set_cons_succ]
  refine wpAnyH_take (i := 7) (v := undef) rfl (by kernel_rfl) (by kernel_rfl) (by kernel_rfl) (fun _ _ _ h => h) (Or.inr ⟨by rfl, rfl⟩) (by assumption) ?rep7
  try simp only [List.getElem_toArray, List.getElem_cons_zero, List.getElem_cons_succ, Act.put, List.setIfInBounds_toArray, List.set_cons_zero, List.set_cons_succ]
  refine wpAnyH_take (i := 8) (v := undef) rfl (by kernel_rfl) (by kernel_rfl) (by kernel_rfl) (fun _ _ _ h => h) (Or.inr ⟨by rfl, rfl⟩) (by assumption) ?rep8
  try simp only [List.getElem_toArray, List.getElem_cons_zero, List.getElem_cons_succ, Act.put, List.setIfInBounds_toArray, List.set_cons_zero, List.set_cons_succ]
  refine wpAnyH_take (i := 9) (v := undef) rfl (by kernel_rfl) (by kernel_rfl) (by kernel_rfl) (fun _ _ _ h => h) (Or.inr ⟨by rfl, rfl⟩) (by assumption) ?rep9
  try simp only [List.getElem_toArray, List.getElem_cons_zero, List.getElem_cons_succ, Act.put, List.setIfInBounds_toArray, List.set_cons_zero, List.set_cons_succ]
  refine wpAnyH_take (i := 10) (v := undef) rfl (by kernel_rfl) (by kernel_rfl) (by kernel_rfl) (fun _ _ _ h => h) (Or.inr ⟨by rfl, rfl⟩) (by assumption) ?rep10
  try simp only [List.getElem_toArray, List.getElem_cons_zero, List.getElem_cons_succ, Act.put, List.setIfInBounds_toArray, List.set_cons_zero, List.set_cons_succ]
  refine wpAnyH_take (i := 11) (v := undef) rfl (by kernel_rfl) (by kernel_rfl) (by kernel_rfl) (fun _ _ _ h => h) (Or.inr ⟨by rfl, rfl⟩) (by assumption) ?rep11
  try simp only [List.getElem_toArray, List.getElem_cons_zero, List.getElem_cons_succ, Act.put, List.setIfInBounds_toArray, List.set_cons_zero, List.set_cons_succ]
  refine wpAnyH_take (i := 12) (v := undef) rfl (by kernel_rfl) (by kernel_rfl) (by kernel_rfl) (fun _ _ _ h => h) (Or.inr ⟨by rfl, rfl⟩) (by assumption) ?rep12
  try simp only [List.getElem_toArray, List.getElem_cons_zero, List.getElem_cons_succ, Act.put, List.setIfInBounds_toArray, List.set_cons_zero, List.set_cons_succ]
  refine wpAnyH_take (i := 13) (v := undef) rfl (by kernel_rfl) (by kernel_rfl) (by kernel_rfl) (fun _ _ _ h => h) (Or.inr ⟨by rfl, rfl⟩) (by assumption) ?rep13
  try simp only [List.getElem_toArray, List.getElem_cons_zero, List.getElem_cons_succ, Act.put, List.setIfInBounds_toArray, List.set_cons_zero, List.set_cons_succ]
  refine wpAnyH_take (i := 14) (v := ?vp14) rfl (by kernel_rfl) (by kernel_rfl) (by kernel_rfl) (fun _ _ _ h => h) (Or.inl ⟨by rfl, ?hyp14⟩) (by assumption) ?rep14
  case hyp14 => first | (intro w hSw; (try dsimp only at hSw); go_simp; done) | (intro w hSw; (try dsimp only at hSw); go_simp; with_reducible rfl)
  try simp only [List.getElem_toArray, List.getElem_cons_zero, List.getElem_cons_succ, Act.put, List.setIfInBounds_toArray, List.set_cons_zero, List.set_cons_succ]
  refine wpAnyH_take (i := 15) (v := ?vp15) rfl (by kernel_rfl) (by kernel_rfl) (by kernel_rfl) (fun _ _ _ h => h) (Or.inl ⟨by rfl, ?hyp15⟩) (by assumption) ?rep15
  case hyp15 => first | (intro w hSw; (try dsimp only at hSw); go_simp; done) | (intro w hSw; (try dsimp only at hSw); go_simp; with_reducible rfl)
  try simp only [List.getElem_toArray, List.getElem_cons_zero, List.getElem_cons_succ, Act.put, List.setIfInBounds_toArray, List.set_cons_zero, List.set_cons_succ]
  refine wpAnyH_take (i := 16) (v := undef) rfl (by kernel_rfl) (by kernel_rfl) (by kernel_rfl) (fun _ _ _ h => h) (Or.inr ⟨by rfl, rfl⟩) (by assumption) ?rep16
  try simp only [List.getElem_toArray, List.getElem_cons_zero, List.getElem_cons_succ, Act.put, List.setIfInBounds_toArray, List.set_cons_zero, List.set_cons_succ]
  refine wpAnyH_take (i := 17) (v := undef) rfl (by kernel_rfl) (by kernel_rfl) (by kernel_rfl) (fun _ _ _ h => h) (Or.inr ⟨by rfl, rfl⟩) (by assumption) ?rep17
  try simp only [List.getElem_toArray, List.getElem_cons_zero, List.getElem_cons_succ, Act.put, List.setIfInBounds_toArray, List.set_cons_zero, List.set_cons_succ]
  refine wpAnyH_take (i := 18) (v := undef) rfl (by kernel_rfl) (by kernel_rfl) (by kernel_rfl) (fun _ _ _ h => h) (Or.inr ⟨by rfl, rfl⟩) (by assumption) ?rep18
  try simp only [List.getElem_toArray, List.getElem_cons_zero, List.getElem_cons_succ, Act.put, List.setIfInBounds_toArray, List.set_cons_zero, List.set_cons_succ]
  refine wpAnyH_take (i := 19) (v := undef) rfl (by kernel_rfl) (by kernel_rfl) (by kernel_rfl) (fun _ _ _ h => h) (Or.inr ⟨by rfl, rfl⟩) (by assumption) ?rep19
  try simp only [List.getElem_toArray, List.getElem_cons_zero, List.getElem_cons_succ, Act.put, List.setIfInBounds_toArray, List.set_cons_zero, List.set_cons_succ]
  refine wpAnyH_take (i := 20) (v := undef) rfl (by kernel_rfl) (by kernel_rfl) (by kernel_rfl) (fun _ _ _ h => h) (Or.inr ⟨by rfl, rfl⟩) (by assumption) ?rep20
  try simp only [List.getElem_toArray, List.getElem_cons_zero, List.getElem_cons_succ, Act.put, List.setIfInBounds_toArray, List.set_cons_zero, List.set_cons_succ]
  refine wpAnyH_take (i := 21) (v := ?vp21) rfl (by kernel_rfl) (by kernel_rfl) (by kernel_rfl) (fun _ _ _ h => h) (Or.inl ⟨by rfl, ?hyp21⟩) (by assumption) ?rep21
  case hyp21 => first | (intro w hSw; (try dsimp only at hSw); go_simp; done) | (intro w hSw; (try dsimp only at hSw); go_simp; with_reducible rfl)
  try simp only [List.getElem_toArray, List.getElem_cons_zero, List.getElem_cons_succ, Act.put, List.setIfInBounds_toArray, List.set_cons_zero, List.set_cons_succ]
  refine wpAnyH_take (i := 22) (v := ?vp22) rfl (by kernel_rfl) (by kernel_rfl) (by kernel_rfl) (fun _ _ _ h => h) (Or.inl ⟨by rfl, ?hyp22⟩) (by assumption) ?rep22
  case hyp22 => first | (intro w hSw; (try dsimp only at hSw); go_simp; done) | (intro w hSw; (try dsimp only at hSw); go_simp; with_reducible rfl)
  try simp only [List.getElem_toArray, List.getElem_cons_zero, List.getElem_cons_succ, Act.put, List.setIfInBounds_toArray, List.set_cons_zero, List.set_cons_succ]
  refine wpAnyH_take (i := 23) (v := undef) rfl (by kernel_rfl) (by kernel_rfl) (by kernel_rfl) (fun _ _ _ h => h) (Or.inr ⟨by rfl, rfl⟩) (by assumption) ?rep23
  try simp only [List.getElem_toArray, List.getElem_cons_zero, List.getElem_cons_succ, Act.put, List.setIfInBounds_toArray, List.set_cons_zero, List.set_cons_succ]
  refine wpAnyH_take (i := 24) (v := undef) rfl (by kernel_rfl) (by kernel_rfl) (by kernel_rfl) (fun _ _ _ h => h) (Or.inr ⟨by rfl, rfl⟩) (by assumption) ?rep24
  try simp only [List.getElem_toArray, List.getElem_cons_zero, List.getElem_cons_succ, Act.put, List.setIfInBounds_toArray, List.set_cons_zero, List.set_cons_succ]
  refine wpAnyH_take (i := 25) (v := undef) rfl (by kernel_rfl) (by kernel_rfl) (by kernel_rfl) (fun _ _ _ h => h) (Or.inr ⟨by rfl, rfl⟩) (by assumption) ?rep25
  try simp only [List.getElem_toArray, List.getElem_cons_zero, List.getElem_cons_succ, Act.put, List.setIfInBounds_toArray, List.set_cons_zero, List.set_cons_succ]
  refine wpAnyH_take (i := 26) (v := ?vp26) rfl (by kernel_rfl) (by kernel_rfl) (by kernel_rfl) (fun _ _ _ h => h) (Or.inl ⟨by rfl, ?hyp26⟩) (by assumption) ?rep26
  case hyp26 => first | (intro w hSw; (try dsimp only at hSw); go_simp; done) | (intro w hSw; (try dsimp only at hSw); go_simp; with_reducible rfl)
  try simp only [List.getElem_toArray, List.getElem_cons_zero, List.getElem_cons_succ, Act.put, List.setIfInBounds_toArray, List.set_cons_zero, List.set_cons_succ]
  refine wpAnyH_take (i := 27) (v := ?vp27) rfl (by kernel_rfl) (by kernel_rfl) (by kernel_rfl) (fun _ _ _ h => h) (Or.inl ⟨by rfl, ?hyp27⟩) (by assumption) ?rep27
  case hyp27 => first | (intro w hSw; (try dsimp only at hSw); go_simp; done) | (intro w hSw; (try dsimp only at hSw); go_simp; with_reducible rfl)
  try simp only [List.getElem_toArray, List.getElem_cons_zero, List.getElem_cons_succ, Act.put, List.setIfInBounds_toArray, List.set_cons_zero, List.set_cons_succ]
  refine wpAnyH_done (by kernel_rfl) ?_ _
  go_wp2_with fail
  go_ret
  exact ⟨rfl, HW0.out.trans (hh.1.mono HW0.out.size)⟩
set_option maxRecDepth 100000 in
set_option maxHeartbeats 2000000 in
theorem right_w2 (r : Ru) (be mi wa : Int) (l0 l1 l2 te : Bool) (j : Nat) (mv m1 : Int) (hw : IntKind.i64.wrap (be - 1) = (j : Int)) (hj0 : (0 : Int) ≤ j) (hj3 : (j : Int) < 3) (HM : Hid ((ruA r)[j]? = some (.int .i64 mv))) (hm : IntKind.i64.wrap (mv - 1) = m1) (c1 : inR be 1 3 = true) (c2 : inR mi 0 m1 = false) (w : World) :
    Calls Try.prog 32 #[rnV ⟨4, be, mi, wa, l0, l1, l2, te⟩, ruV r] w (RetBool false w) := by
  go_enter Try.func32, Try.ntmps32
  go_wp2_with fail
  refine (in_any _ _ _ _).mono ?_
  rintro e w' ⟨rfl, rfl⟩
  rw [show inR 4 0 7 = true from rfl]
  go_wp2_with fail
  generalize hW0 : (w.alloc (.cells (rnA ⟨4, be, mi, wa, l0, l1, l2, te⟩) 30)).alloc (.cells (ruA r) 25) = W at *
  obtain ⟨hal, hB1, hB2, hWs⟩ := boxes2 w _ _ W hW0.symm
  have HW0 := Lib.hid hal
  have k1 := rn8 hB1
  have k2 := ru13 hB2
  have k3 := blk_cell hB2 _ _ HM.out
  obtain ⟨x0, x1, x2, x3, x4, x5, x6, x7⟩ := k1
  obtain ⟨y0, y1, y2, y3, y4, y5, y6, y7, y8, y9, y10, y11, y12⟩ := k2
  clear hW0 hal hWs hB1 hB2
  refine wp_region_held_drew (S := (fun w' => Below W.heap.size W w' ∧ w'.cell? ⟨w.heap.size, 0, none⟩ = some (.int .i64 4) ∧ w'.cell? ⟨w.heap.size, 1, none⟩ = some (.int .i64 be) ∧ w'.cell? ⟨w.heap.size, 2, none⟩ = some (.int .i64 mi) ∧ w'.cell? ⟨w.heap.size, 3, none⟩ = some (.int .i64 wa) ∧ w'.cell? ⟨w.heap.size, 4, none⟩ = some (.bool l0) ∧ w'.cell? ⟨w.heap.size, 5, none⟩ = some (.bool l1) ∧ w'.cell? ⟨w.heap.size, 6, none⟩ = some (.bool l2) ∧ w'.cell? ⟨w.heap.size, 7, none⟩ = some (.bool te) ∧ w'.cell? ⟨w.heap.size + 1, 0, none⟩ = some (.int .i64 r.m0) ∧ w'.cell? ⟨w.heap.size + 1, 1, none⟩ = some (.int .i64 r.m1) ∧ w'.cell? ⟨w.heap.size + 1, 2, none⟩ = some (.int .i64 r.m2) ∧ w'.cell? ⟨w.heap.size + 1, 3, none⟩ = some (.int .i64 r.pa) ∧ w'.cell? ⟨w.heap.size + 1, 4, none⟩ = some (.int .i64 r.t00) ∧ w'.cell? ⟨w.heap.size + 1, 5, none⟩ = some (.int .i64 r.t01) ∧ w'.cell? ⟨w.heap.size + 1, 6, none⟩ = some (.int .i64 r.t02) ∧ w'.cell? ⟨w.heap.size + 1, 7, none⟩ = some (.int .i64 r.t10) ∧ w'.cell? ⟨w.heap.size + 1, 8, none⟩ = some (.int .i64 r.t11) ∧ w'.cell? ⟨w.heap.size + 1, 9, none⟩ = some (.int .i64 r.t12) ∧ w'.cell? ⟨w.heap.size + 1, 10, none⟩ = some (.int .i64 r.t20) ∧ w'.cell? ⟨w.heap.size + 1, 11, none⟩ = some (.int .i64 r.t21) ∧ w'.cell? ⟨w.heap.size + 1, 12, none⟩ = some (.int .i64 r.t22) ∧ w'.cell? ⟨w.heap.size + 1, j, none⟩ = some (.int .i64 mv))) (by kernel_rfl) ⟨(Below.refl _ _).drew, x0, x1, x2, x3, x4, x5, x6, x7, y0, y1, y2, y3, y4, y5, y6, y7, y8, y9, y10, y11, y12, k3⟩ (fun hh => ?_)
  clear x0 x1 x2 x3 x4 x5 x6 x7 y0 y1 y2 y3 y4 y5 y6 y7 y8 y9 y10 y11 y12 k3
  refine wpAnyH_take (i := 0) (v := ?vp0) rfl (by kernel_rfl) (by kernel_rfl) (by kernel_rfl) (fun _ _ _ h => h) (Or.inl ⟨by rfl, ?hyp0⟩) (by assumption) ?rep0
  case hyp0 => first | (intro w hSw; (try dsimp only at hSw); go_simp; done) | (intro w hSw; (try dsimp only at hSw); go_simp; with_reducible rfl)
  try simp only [List.getElem_toArray, List.getElem_cons_zero, List.getElem_cons_succ, Act.put, List.setIfInBounds_toArray, List.set_cons_zero, List.set_cons_succ]
  refine wpAnyH_take (i := 1) (v := ?vp1) rfl (by kernel_rfl) (by kernel_rfl) (by kernel_rfl) (fun _ _ _ h => h) (Or.inl ⟨by rfl, ?hyp1⟩) (by assumption) ?rep1
  case hyp1 => first | (intro w hSw; (try dsimp only at hSw); go_simp; done) | (intro w hSw; (try dsimp only at hSw); go_simp; with_reducible rfl)
  try simp only [List.getElem_toArray, List.getElem_cons_zero, List.getElem_cons_succ, Act.put, List.setIfInBounds_toArray, List.set_cons_zero, List.set_cons_succ]
  refine wpAnyH_ready (rs := [2]) (by kernel_rfl) (by simp) ?_
  refine AllReadyH.cons rfl (fun K hK => ?_) AllReadyH.nil
  go_simp
  go_wp2_with (go_at_call 30; (with_reducible refine (in_any _ _ _ _).mono ?_); rintro e w1 ⟨rfl, rfl⟩; rw [c1])
  refine hK.out _ _ (by assumption) (fun hh => ?_)
  clear hK K
  try simp only [List.getElem_toArray, List.getElem_cons_zero, List.getElem_cons_succ, Act.put, List.setIfInBounds_toArray, List.set_cons_zero, List.set_cons_succ]
  refine wpAnyH_take (i := 3) (v := ?vp3) rfl (by kernel_rfl) (by kernel_rfl) (by kernel_rfl) (fun _ _ _ h => h) (Or.inl ⟨by rfl, ?hyp3⟩) (by assumption) ?rep3
  case hyp3 => first | (intro w hSw; (try dsimp only at hSw); go_simp; done) | (intro w hSw; (try dsimp only at hSw); go_simp; with_reducible rfl)
  try simp only [List.getElem_toArray, List.getElem_cons_zero, List.getElem_cons_succ, Act.put, List.setIfInBounds_toArray, List.set_cons_zero, List.set_cons_succ]
  refine wpAnyH_take (i := 4) (v := ?vp4) rfl (by kernel_rfl) (by kernel_rfl) (by kernel_rfl) (fun _ _ _ h => h) (Or.inl ⟨by rfl, ?hyp4⟩) (by assumption) ?rep4
  case hyp4 => first | (intro w hSw; (try dsimp only at hSw); go_simp; done) | (intro w hSw; (try dsimp only at hSw); go_simp; with_reducible rfl)
  try simp only [List.getElem_toArray, List.getElem_cons_zero, List.getElem_cons_succ, Act.put, List.setIfInBounds_toArray, List.set_cons_zero, List.set_cons_succ]
  refine wpAnyH_take (i := 5) (v := ?vp5) rfl (by kernel_rfl) (by kernel_rfl) (by kernel_rfl) (fun _ _ _ h => h) (Or.inl ⟨by rfl, ?hyp5⟩) (by assumption) ?rep5
  case hyp5 => first | (intro w hSw; (try dsimp only at hSw); go_simp; done) | (intro w hSw; (try dsimp only at hSw); go_simp; with_reducible rfl)
  try simp only [List.getElem_toArray, List.getElem_cons_zero, List.getElem_cons_succ, Act.put, List.setIfInBounds_toArray, List.set_cons_zero, List.set_cons_succ]
  refine wpAnyH_take (i := 6) (v := ?vp6) rfl (by kernel_rfl) (by kernel_rfl) (by kernel_rfl) (fun _ _ _ h => h) (Or.inl ⟨by rfl, ?hyp6⟩) (by assumption) ?rep6
  case hyp6 => first | (intro w hSw; (try dsimp only at hSw); go_simp; done) | (intro w hSw; (try dsimp only at hSw); go_simp; with_reducible rfl)
  try simp only [List.getElem_toArray, List.getElem_cons_zero, List.getElem_cons_succ, Act.put, List.setIfInBounds_toArray, List.set_cons_zero, List.set_cons_succ]
  refine wpAnyH_take (i := 7) (v := ?vp7) rfl (by kernel_rfl) (by kernel_rfl) (by kernel_rfl) (fun _ _ _ h => h) (Or.inl ⟨by rfl, ?hyp7⟩) (by assumption) ?rep7
  case hyp7 => first | (intro w hSw; (try dsimp only at hSw); go_simp; done) | (intro w hSw; (try dsimp only at hSw); go_simp; with_reducible rfl)
  try simp only [List.getElem_toArray, List.getElem_cons_zero, List.getElem_cons_succ, Act.put, List.setIfInBounds_toArray, List.set_cons_zero, List.set_cons_succ]
  refine wpAnyH_take (i := 8) (v := ?vp8) rfl (by kernel_rfl) (by kernel_rfl) (by kernel_rfl) (fun _ _ _ h => h) (Or.inl ⟨by rfl, ?hyp8⟩) (by assumption) ?rep8
  case hyp8 => first | (intro w hSw; (try dsimp only at hSw); go_simp; done) | (intro w hSw; (try dsimp only at hSw); go_simp; with_reducible rfl)
  try simp only [List.getElem_toArray, List.getElem_cons_zero, List.getElem_cons_succ, Act.put, List.setIfInBounds_toArray, List.set_cons_zero, List.set_cons_succ]
  refine wpAnyH_take (i := 9) (v := ?vp9) rfl (by kernel_rfl) (by kernel_rfl) (by kernel_rfl) (fun _ _ _ h => h) (Or.inl ⟨by rfl, ?hyp9⟩) (by assumption) ?rep9
  case hyp9 => first | (intro w hSw; (try dsimp only at hSw); go_simp; done) | (intro w hSw; (try dsimp only at hSw); go_simp; with_reducible rfl)
  try simp only [List.getElem_toArray, List.getElem_cons_zero, List.getElem_cons_succ, Act.put, List.setIfInBounds_toArray, List.set_cons_zero, List.set_cons_succ]
  refine wpAnyH_take (i := 10) (v := ?vp10) rfl (by kernel_rfl) (by kernel_rfl) (by kernel_rfl) (fun _ _ _ h => h) (Or.inl ⟨by rfl, ?hyp10⟩) (by assumption) ?rep10
  case hyp10 => first | (intro w hSw; (try dsimp only at hSw); go_simp; done) | (intro w hSw; (try dsimp only at hSw); go_simp; with_reducible rfl)
  try simp only [List.getElem_toArray, List.getElem_cons_zero, List.getElem_cons_succ, Act.put, List.setIfInBounds_toArray, List.set_cons_zero, List.set_cons_succ]
  refine wpAnyH_take (i := 11) (v := ?vp11) rfl (by kernel_rfl) (by kernel_rfl) (by kernel_rfl) (fun _ _ _ h => h) (Or.inl ⟨by rfl, ?hyp11⟩) (by assumption) ?rep11
  case hyp11 => first | (intro w hSw; (try dsimp only at hSw); go_simp; done) | (intro w hSw; (try dsimp only at hSw); go_simp; with_reducible rfl)
  try simp only [List.getElem_toArray, List.getElem_cons_zero, List.getElem_cons_succ, Act.put, List.setIfInBounds_toArray, List.set_cons_zero, List.set_cons_succ]
  refine wpAnyH_take (i := 12) (v := ?vp12) rfl (by kernel_rfl) (by kernel_rfl) (by kernel_rfl) (fun _ _ _ h => h) (Or.inl ⟨by rfl, ?hyp12⟩) (by assumption) ?rep12
  case hyp12 => first | (intro w hSw; (try dsimp only at hSw); go_simp; done) | (intro w hSw; (try dsimp only at hSw); go_simp; with_reducible rfl)
  try simp only [List.getElem_toArray, List.getElem_cons_zero, List.getElem_cons_succ, Act.put, List.setIfInBounds_toArray, List.set_cons_zero, List.set_cons_succ]
  refine wpAnyH_ready (rs := [13]) (by kernel_rfl) (by simp) ?_
  refine AllReadyH.cons rfl (fun K hK => ?_) AllReadyH.nil
  go_simp
  go_wp2_with (go_at_call 30; (with_reducible refine (in_any _ _ _ _).mono ?_); rintro e w1 ⟨rfl, rfl⟩; rw [c2])
  refine hK.out _ _ (by assumption) (fun hh => ?_)
  clear hK K
  try simp only [List.getElem_toArray, List.getElem_cons_zero, List.getElem_cons_succ, Act.put, List.setIfInBounds_toArray, List.set_cons_zero, List.set_cons_succ]
  refine wpAnyH_take (i := 14) (v := ?vp14) rfl (by kernel_rfl) (by kernel_rfl) (by kernel_rfl) (fun _ _ _ h => h) (Or.inl ⟨by rfl, ?hyp14⟩) (by assumption) ?rep14
  case hyp14 => first | (intro w hSw; (try dsimp only at hSw); go_simp; done) | (intro w hSw; (try dsimp only at hSw); go_simp; with_reducible rfl)
  try simp only [List.getElem_toArray, List.getElem_cons_zero, List.getElem_cons_succ, Act.put, List.setIfInBounds_toArray, List.set_cons_zero, List.set_cons_succ]
  refine wpAnyH_take (i := 15) (v := ?vp15) rfl (by kernel_rfl) (by kernel_rfl) (by kernel_rfl) (fun _ _ _ h => h) (Or.inl ⟨by rfl, ?hyp15⟩) (by assumption) ?rep15
  case hyp15 => first | (intro w hSw; (try dsimp only at hSw); go_simp; done) | (intro w hSw; (try dsimp only at hSw); go_simp; with_reducible rfl)
  try simp only [List.getElem_toArray, List.getElem_cons_zero, List.getElem_cons_succ, Act.put, List.setIfInBounds_toArray, List.set_cons_zero, List.set_cons_succ]
  refine wpAnyH_take (i := 16) (v := undef) rfl (by kernel_rfl) (by kernel_rfl) (by kernel_rfl) (fun _ _ _ h => h) (Or.inr ⟨by rfl, rfl⟩) (by assumption) ?rep16
  try simp only [List.getElem_toArray, List.getElem_cons_zero, List.getElem_cons_succ, Act.put, List.setIfInBounds_toArray, List.set_cons_zero, List.set_cons_succ]
  refine wpAnyH_take (i := 17) (v := undef) rfl (by kernel_rfl) (by kernel_rfl) (by kernel_rfl) (fun _ _ _ h => h) (Or.inr ⟨by rfl, rfl⟩) (by assumption) ?rep17
  try simp only [List.getElem_toArray, List.getElem_cons_zero, List.getElem_cons_succ, Act.put, List.setIfInBounds_toArray, List.set_cons_zero, List.set_cons_succ]
  refine wpAnyH_take (i := 18) (v := undef) rfl (by kernel_rfl) (by kernel_rfl) (by kernel_rfl) (fun _ _ _ h => h) (Or.inr ⟨by rfl, rfl⟩) (by assumption) ?rep18
  try simp only [List.getElem_toArray, List.getElem_cons_zero, List.getElem_cons_succ, Act.put, List.setIfInBounds_toArray, List.set_cons_zero, List.set_cons_succ]
  refine wpAnyH_take (i := 19) (v := undef) rfl (by kernel_rfl) (by kernel_rfl) (by kernel_rfl) (fun _ _ _ h => h) (Or.inr ⟨by rfl, rfl⟩) (by assumption) ?rep19
  try simp only [List.getElem_toArray, List.getElem_cons_zero, List.getElem_cons_succ, Act.put, List.setIfInBounds_toArray, List.set_cons_zero, List.set_cons_succ]
  refine wpAnyH_take (i := 20) (v := undef) rfl (by kernel_rfl) (by kernel_rfl) (by kernel_rfl) (fun _ _ _ h => h) (Or.inr ⟨by rfl, rfl⟩) (by assumption) ?rep20
  try simp only [List.getElem_toArray, List.getElem_cons_zero, List.getElem_cons_succ, Act.put, List.setIfInBounds_toArray, List.set_cons_zero, List.set_cons_succ]
  refine wpAnyH_take (i := 21) (v := ?vp21) rfl (by kernel_rfl) (by kernel_rfl) (by kernel_rfl) (fun _ _ _ h => h) (Or.inl ⟨by rfl, ?hyp21⟩) (by assumption) ?rep21
  case hyp21 => first | (intro w hSw; (try dsimp only at hSw); go_simp; done) | (intro w hSw; (try dsimp only at hSw); go_simp; with_reducible rfl)
  try simp only [List.getElem_toArray, List.getElem_cons_zero, List.getElem_cons_succ, Act.put, List.setIfInBounds_toArray, List.set_cons_zero, List.set_cons_succ]
  refine wpAnyH_take (i := 22) (v := ?vp22) rfl (by kernel_rfl) (by kernel_rfl) (by kernel_rfl) (fun _ _ _ h => h) (Or.inl ⟨by rfl, ?hyp22⟩) (by assumption) ?rep22
  case hyp22 => first | (intro w hSw; (try dsimp only at hSw); go_simp; done) | (intro w hSw; (try dsimp only at hSw); go_simp; with_reducible rfl)
  try simp only [List.getElem_toArray, List.getElem_cons_zero, List.getElem_cons_succ, Act.put, List.setIfInBounds_toArray, List.set_cons_zero, List.set_cons_succ]
  refine wpAnyH_take (i := 23) (v := undef) rfl (by kernel_rfl) (by kernel_rfl) (by kernel_rfl) (fun _ _ _ h => h) (Or.inr ⟨by rfl, rfl⟩) (by assumption) ?rep23
  try simp only [List.getElem_toArray, List.getElem_cons_zero, List.getElem_cons_succ, Act.put, List.setIfInBounds_toArray, List.set_cons_zero, List.set_cons_succ]
  refine wpAnyH_take (i := 24) (v := undef) rfl (by kernel_rfl) (by kernel_rfl) (by kernel_rfl) (fun _ _ _ h => h) (Or.inr ⟨by rfl, rfl⟩) (by assumption) ?rep24
  try simp only [List.getElem_toArray, List.getElem_cons_zero, List.getElem_cons_succ, Act.put, List.setIfInBounds_toArray, List.set_cons_zero, List.set_cons_succ]
  refine wpAnyH_take (i := 25) (v := undef) rfl (by kernel_rfl) (by kernel_rfl) (by kernel_rfl) (fun _ _ _ h => h) (Or.inr ⟨by rfl, rfl⟩) (by assumption) ?rep25
  try simp only [List.getElem_toArray, List.getElem_cons_zero, List.getElem_cons_succ, Act.put, List.setIfInBounds_toArray, List.set_cons_zero, List.set_cons_succ]
  refine wpAnyH_take (i := 26) (v := ?vp26) rfl (by kernel_rfl) (by kernel_rfl) (by kernel_rfl) (fun _ _ _ h => h) (Or.inl ⟨by rfl, ?hyp26⟩) (by assumption) ?rep26
  case hyp26 => first | (intro w hSw; (try dsimp only at hSw); go_simp; done) | (intro w hSw; (try dsimp only at hSw); go_simp; with_reducible rfl)
  try simp only [List.getElem_toArray, List.getElem_cons_zero, List.getElem_cons_succ, Act.put, List.setIfInBounds_toArray, List.set_cons_zero, List.set_cons_succ]
  refine wpAnyH_take (i := 27) (v := ?vp27) rfl (by kernel_rfl) (by kernel_rfl) (by kernel_rfl) (fun _ _ _ h => h) (Or.inl ⟨by rfl, ?hyp27⟩) (by assumption) ?rep27
  case hyp27 => first | (intro w hSw; (try dsimp only at hSw); go_simp; done) | (intro w hSw; (try dsimp only at hSw); go_simp; with_reducible rfl)
  try simp only [List.getElem_toArray, List.getElem_cons_zero, List.getElem_cons_succ, Act.put, List.setIfInBounds_toArray, List.set_cons_zero, List.set_cons_succ]
  refine wpAnyH_done (by kernel_rfl) ?_ _
  go_wp2_with fail
  go_ret
  exact ⟨rfl, HW0.out.trans (hh.1.mono HW0.out.size)⟩
set_option maxRecDepth 100000 in
set_option maxHeartbeats 2000000 in
theorem right_w3 (r : Ru) (be mi wa : Int) (l0 l1 l2 te : Bool) (j : Nat) (mv m1 : Int) (hw : IntKind.i64.wrap (be - 1) = (j : Int)) (hj0 : (0 : Int) ≤ j) (hj3 : (j : Int) < 3) (HM : Hid ((ruA r)[j]? = some (.int .i64 mv))) (hm : IntKind.i64.wrap (mv - 1) = m1) (c1 : inR be 1 3 = true) (c2 : inR mi 0 m1 = true) (c3 : inR wa 0 r.pa = false) (w : World) :
    Calls Try.prog 32 #[rnV ⟨4, be, mi, wa, l0, l1, l2, te⟩, ruV r] w (RetBool false w) := by
  go_enter Try.func32, Try.ntmps32
  go_wp2_with fail
  refine (in_any _ _ _ _).mono ?_
  rintro e w' ⟨rfl, rfl⟩
  rw [show inR 4 0 7 = true from rfl]
  go_wp2_with fail
  generalize hW0 : (w.alloc (.cells (rnA ⟨4, be, mi, wa, l0, l1, l2, te⟩) 30)).alloc (.cells (ruA r) 25) = W at *
  obtain ⟨hal, hB1, hB2, hWs⟩ := boxes2 w _ _ W hW0.symm
  have HW0 := Lib.hid hal
  have k1 := rn8 hB1
  have k2 := ru13 hB2
  have k3 := blk_cell hB2 _ _ HM.out
  obtain ⟨x0, x1, x2, x3, x4, x5, x6, x7⟩ := k1
  obtain ⟨y0, y1, y2, y3, y4, y5, y6, y7, y8, y9, y10, y11, y12⟩ := k2
  clear hW0 hal hWs hB1 hB2
  refine wp_region_held_drew (S := (fun w' => Below W.heap.size W w' ∧ w'.cell? ⟨w.heap.size, 0, none⟩ = some (.int .i64 4) ∧ w'.cell? ⟨w.heap.size, 1, none⟩ = some (.int .i64 be) ∧ w'.cell? ⟨w.heap.size, 2, none⟩ = some (.int .i64 mi) ∧ w'.cell? ⟨w.heap.size, 3, none⟩ = some (.int .i64 wa) ∧ w'.cell? ⟨w.heap.size, 4, none⟩ = some (.bool l0) ∧ w'.cell? ⟨w.heap.size, 5, none⟩ = some (.bool l1) ∧ w'.cell? ⟨w.heap.size, 6, none⟩ = some (.bool l2) ∧ w'.cell? ⟨w.heap.size, 7, none⟩ = some (.bool te) ∧ w'.cell? ⟨w.heap.size + 1, 0, none⟩ = some (.int .i64 r.m0) ∧ w'.cell? ⟨w.heap.size + 1, 1, none⟩ = some (.int .i64 r.m1) ∧ w'.cell? ⟨w.heap.size + 1, 2, none⟩ = some (.int .i64 r.m2) ∧ w'.cell? ⟨w.heap.size + 1, 3, none⟩ = some (.int .i64 r.pa) ∧ w'.cell? ⟨w.heap.size + 1, 4, none⟩ = some (.int .i64 r.t00) ∧ w'.cell? ⟨w.heap.size + 1, 5, none⟩ = some (.int .i64 r.t01) ∧ w'.cell? ⟨w.heap.size + 1, 6, none⟩ = some (.int .i64 r.t02) ∧ w'.cell? ⟨w.heap.size + 1, 7, none⟩ = some (.int .i64 r.t10) ∧ w'.cell? ⟨w.heap.size + 1, 8, none⟩ = some (.int .i64 r.t11) ∧ w'.cell? ⟨w.heap.size + 1, 9, none⟩ = some (.int .i64 r.t12) ∧ w'.cell? ⟨w.heap.size + 1, 10, none⟩ = some (.int .i64 r.t20) ∧ w'.cell? ⟨w.heap.size + 1, 11, none⟩ = some (.int .i64 r.t21) ∧ w'.cell? ⟨w.heap.size + 1, 12, none⟩ = some (.int .i64 r.t22) ∧ w'.cell? ⟨w.heap.size + 1, j, none⟩ = some (.int .i64 mv))) (by kernel_rfl) ⟨(Below.refl _ _).drew, x0, x1, x2, x3, x4, x5, x6, x7, y0, y1, y2, y3, y4, y5, y6, y7, y8, y9, y10, y11, y12, k3⟩ (fun hh => ?_)
  clear x0 x1 x2 x3 x4 x5 x6 x7 y0 y1 y2 y3 y4 y5 y6 y7 y8 y9 y10 y11 y12 k3
  refine wpAnyH_take (i := 0) (v := ?vp0) rfl (by kernel_rfl) (by kernel_rfl) (by kernel_rfl) (fun _ _ _ h => h) (Or.inl ⟨by rfl, ?hyp0⟩) (by assumption) ?rep0
  case hyp0 => first | (intro w hSw; (try dsimp only at hSw); go_simp; done) | (intro w hSw; (try dsimp only at hSw); go_simp; with_reducible rfl)
  try simp only [List.getElem_toArray, List.getElem_cons_zero, List.getElem_cons_succ, Act.put, List.setIfInBounds_toArray, List.set_cons_zero, List.set_cons_succ]
  refine wpAnyH_take (i := 1) (v := ?vp1) rfl (by kernel_rfl) (by kernel_rfl) (by kernel_rfl) (fun _ _ _ h => h) (Or.inl ⟨by rfl, ?hyp1⟩) (by assumption) ?rep1
  case hyp1 => first | (intro w hSw; (try dsimp only at hSw); go_simp; done) | (intro w hSw; (try dsimp only at hSw); go_simp; with_reducible rfl)
  try simp only [List.getElem_toArray, List.getElem_cons_zero, List.getElem_cons_succ, Act.put, List.setIfInBounds_toArray, List.set_cons_zero, List.set_cons_succ]
  refine wpAnyH_ready (rs := [2]) (by kernel_rfl) (by simp) ?_
  refine AllReadyH.cons rfl (fun K hK => ?_) AllReadyH.nil
  go_simp
  go_wp2_with (go_at_call 30; (with_reducible refine (in_any _ _ _ _).mono ?_); rintro e w1 ⟨rfl, rfl⟩; rw [c1])
  refine hK.out _ _ (by assumption) (fun hh => ?_)
  clear hK K
  try simp only [List.getElem_toArray, List.getElem_cons_zero, List.getElem_cons_succ, Act.put, List.setIfInBounds_toArray, List.set_cons_zero, List.set_cons_succ]
  refine wpAnyH_take (i := 3) (v := ?vp3) rfl (by kernel_rfl) (by kernel_rfl) (by kernel_rfl) (fun _ _ _ h => h) (Or.inl ⟨by rfl, ?hyp3⟩) (by assumption) ?rep3
  case hyp3 => first | (intro w hSw; (try dsimp only at hSw); go_simp; done) | (intro w hSw; (try dsimp only at hSw); go_simp; with_reducible rfl)
  try simp only [List.getElem_toArray, List.getElem_cons_zero, List.getElem_cons_succ, Act.put, List.setIfInBounds_toArray, List.set_cons_zero, List.set_cons_succ]
  refine wpAnyH_take (i := 4) (v := ?vp4) rfl (by kernel_rfl) (by kernel_rfl) (by kernel_rfl) (fun _ _ _ h => h) (Or.inl ⟨by rfl, ?hyp4⟩) (by assumption) ?rep4
  case hyp4 => first | (intro w hSw; (try dsimp only at hSw); go_simp; done) | (intro w hSw; (try dsimp only at hSw); go_simp; with_reducible rfl)
  try simp only [List.getElem_toArray, List.getElem_cons_zero, List.getElem_cons_succ, Act.put, List.setIfInBounds_toArray, List.set_cons_zero, List.set_cons_succ]
  refine wpAnyH_take (i := 5) (v := ?vp5) rfl (by kernel_rfl) (by kernel_rfl) (by kernel_rfl) (fun _ _ _ h => h) (Or.inl ⟨by rfl, ?hyp5⟩) (by assumption) ?rep5
  case hyp5 => first | (intro w hSw; (try dsimp only at hSw); go_simp; done) | (intro w hSw; (try dsimp only at hSw); go_simp; with_reducible rfl)
  try simp only [List.getElem_toArray, List.getElem_cons_zero, List.getElem_cons_succ, Act.put, List.setIfInBounds_toArray, List.set_cons_zero, List.set_cons_succ]
  refine wpAnyH_take (i := 6) (v := ?vp6) rfl (by kernel_rfl) (by kernel_rfl) (by kernel_rfl) (fun _ _ _ h => h) (Or.inl ⟨by rfl, ?hyp6⟩) (by assumption) ?rep6
  case hyp6 => first | (intro w hSw; (try dsimp only at hSw); go_simp; done) | (intro w hSw; (try dsimp only at hSw); go_simp; with_reducible rfl)
  try simp only [List.getElem_toArray, List.getElem_cons_zero, List.getElem_cons_succ, Act.put, List.setIfInBounds_toArray, List.set_cons_zero, List.set_cons_succ]
  refine wpAnyH_take (i := 7) (v := ?vp7) rfl (by kernel_rfl) (by kernel_rfl) (by kernel_rfl) (fun _ _ _ h => h) (Or.inl ⟨by rfl, ?hyp7⟩) (by assumption) ?rep7
  case hyp7 => first | (intro w hSw; (try dsimp only at hSw); go_simp; done) | (intro w hSw; (try dsimp only at hSw); go_simp; with_reducible rfl)
  try simp only [List.getElem_toArray, List.getElem_cons_zero, List.getElem_cons_succ, Act.put, List.setIfInBounds_toArray, List.set_cons_zero, List.set_cons_succ]
  refine wpAnyH_take (i := 8) (v := ?vp8) rfl (by kernel_rfl) (by kernel_rfl) (by kernel_rfl) (fun _ _ _ h => h) (Or.inl ⟨by rfl, ?hyp8⟩) (by assumption) ?rep8
  case hyp8 => first | (intro w hSw; (try dsimp only at hSw); go_simp; done) | (intro w hSw; (try dsimp only at hSw); go_simp; with_reducible rfl)
  try simp only [List.getElem_toArray, List.getElem_cons_zero, List.getElem_cons_succ, Act.put, List.setIfInBounds_toArray, List.set_cons_zero, List.set_cons_succ]
  refine wpAnyH_take (i := 9) (v := ?vp9) rfl (by kernel_rfl) (by kernel_rfl) (by kernel_rfl) (fun _ _ _ h => h) (Or.inl ⟨by rfl, ?hyp9⟩) (by assumption) ?rep9
  case hyp9 => first | (intro w hSw; (try dsimp only at hSw); go_simp; done) | (intro w hSw; (try dsimp only at hSw); go_simp; with_reducible rfl)
  try simp only [List.getElem_toArray, List.getElem_cons_zero, List.getElem_cons_succ, Act.put, List.setIfInBounds_toArray, List.set_cons_zero, List.set_cons_succ]
  refine wpAnyH_take (i := 10) (v := ?vp10) rfl (by kernel_rfl) (by kernel_rfl) (by kernel_rfl) (fun _ _ _ h => h) (Or.inl ⟨by rfl, ?hyp10⟩) (by assumption) ?rep10
  case hyp10 => first | (intro w hSw; (try dsimp only at hSw); go_simp; done) | (intro w hSw; (try dsimp only at hSw); go_simp; with_reducible rfl)
  try simp only [List.getElem_toArray, List.getElem_cons_zero, List.getElem_cons_succ, Act.put, List.setIfInBounds_toArray, List.set_cons_zero, List.set_cons_succ]
  refine wpAnyH_take (i := 11) (v := ?vp11) rfl (by kernel_rfl) (by kernel_rfl) (by kernel_rfl) (fun _ _ _ h => h) (Or.inl ⟨by rfl, ?hyp11⟩) (by assumption) ?rep11
  case hyp11 => first | (intro w hSw; (try dsimp only at hSw); go_simp; done) | (intro w hSw; (try dsimp only at hSw); go_simp; with_reducible rfl)
  try simp only [List.getElem_toArray, List.getElem_cons_zero, List.getElem_cons_succ, Act.put, List.setIfInBounds_toArray, List.set_cons_zero, List.set_cons_succ]
  refine wpAnyH_take (i := 12) (v := ?vp12) rfl (by kernel_rfl) (by kernel_rfl) (by kernel_rfl) (fun _ _ _ h => h) (Or.inl ⟨by rfl, ?hyp12⟩) (by assumption) ?rep12
  case hyp12 => first | (intro w hSw; (try dsimp only at hSw); go_simp; done) | (intro w hSw; (try dsimp only at hSw); go_simp; with_reducible rfl)
  try simp only [List.getElem_toArray, List.getElem_cons_zero, List.getElem_cons_succ, Act.put, List.setIfInBounds_toArray, List.set_cons_zero, List.set_cons_succ]
  refine wpAnyH_ready (rs := [13]) (by kernel_rfl) (by simp) ?_
  refine AllReadyH.cons rfl (fun K hK => ?_) AllReadyH.nil
  go_simp
  go_wp2_with (go_at_call 30; (with_reducible refine (in_any _ _ _ _).mono ?_); rintro e w1 ⟨rfl, rfl⟩; rw [c2])
  refine hK.out _ _ (by assumption) (fun hh => ?_)
  clear hK K
  try simp only [List.getElem_toArray, List.getElem_cons_zero, List.getElem_cons_succ, Act.put, List.setIfInBounds_toArray, List.set_cons_zero, List.set_cons_succ]
  refine wpAnyH_take (i := 14) (v := ?vp14) rfl (by kernel_rfl) (by kernel_rfl) (by kernel_rfl) (fun _ _ _ h => h) (Or.inl ⟨by rfl, ?hyp14⟩) (by assumption) ?rep14
  case hyp14 => first | (intro w hSw; (try dsimp only at hSw); go_simp; done) | (intro w hSw; (try dsimp only at hSw); go_simp; with_reducible rfl)
  try simp only [List.getElem_toArray, List.getElem_cons_zero, List.getElem_cons_succ, Act.put, List.setIfInBounds_toArray, List.set_cons_zero, List.set_cons_succ]
  refine wpAnyH_take (i := 15) (v := ?vp15) rfl (by kernel_rfl) (by kernel_rfl) (by kernel_rfl) (fun _ _ _ h => h) (Or.inl ⟨by rfl, ?hyp15⟩) (by assumption) ?rep15
  case hyp15 => first | (intro w hSw; (try dsimp only at hSw); go_simp; done) | (intro w hSw; (try dsimp only at hSw); go_simp; with_reducible rfl)
  try simp only [List.getElem_toArray, List.getElem_cons_zero, List.getElem_cons_succ, Act.put, List.setIfInBounds_toArray, List.set_cons_zero, List.set_cons_succ]
  refine wpAnyH_take (i := 16) (v := ?vp16) rfl (by kernel_rfl) (by kernel_rfl) (by kernel_rfl) (fun _ _ _ h => h) (Or.inl ⟨by rfl, ?hyp16⟩) (by assumption) ?rep16
  case hyp16 => first | (intro w hSw; (try dsimp only at hSw); go_simp; done) | (intro w hSw; (try dsimp only at hSw); go_simp; with_reducible rfl)
  try simp only [List.getElem_toArray, List.getElem_cons_zero, List.getElem_cons_succ, Act.put, List.setIfInBounds_toArray, List.set_cons_zero, List.set_cons_succ]
  refine wpAnyH_take (i := 17) (v := ?vp17) rfl (by kernel_rfl) (by kernel_rfl) (by kernel_rfl) (fun _ _ _ h => h) (Or.inl ⟨by rfl, ?hyp17⟩) (by assumption) ?rep17
  case hyp17 => first | (intro w hSw; (try dsimp only at hSw); go_simp; done) | (intro w hSw; (try dsimp only at hSw); go_simp; with_reducible rfl)
  try simp only [List.getElem_toArray, List.getElem_cons_zero, List.getElem_cons_succ, Act.put, List.setIfInBounds_toArray, List.set_cons_zero, List.set_cons_succ]
  refine wpAnyH_take (i := 18) (v := ?vp18) rfl (by kernel_rfl) (by kernel_rfl) (by kernel_rfl) (fun _ _ _ h => h) (Or.inl ⟨by rfl, ?hyp18⟩) (by assumption) ?rep18
  case hyp18 => first | (intro w hSw; (try dsimp only at hSw); go_simp; done) | (intro w hSw; (try dsimp only at hSw); go_simp; with_reducible rfl)
  try simp only [List.getElem_toArray, List.getElem_cons_zero, List.getElem_cons_succ, Act.put, List.setIfInBounds_toArray, List.set_cons_zero, List.set_cons_succ]
  refine wpAnyH_take (i := 19) (v := ?vp19) rfl (by kernel_rfl) (by kernel_rfl) (by kernel_rfl) (fun _ _ _ h => h) (Or.inl ⟨by rfl, ?hyp19⟩) (by assumption) ?rep19
  case hyp19 => first | (intro w hSw; (try dsimp only at hSw); go_simp; done) | (intro w hSw; (try dsimp only at hSw); go_simp; with_reducible rfl)
  try simp only [List.getElem_toArray, List.getElem_cons_zero, List.getElem_cons_succ, Act.put, List.setIfInBounds_toArray, List.set_cons_zero, List.set_cons_succ]
  refine wpAnyH_ready (rs := [20]) (by kernel_rfl) (by simp) ?_
  refine AllReadyH.cons rfl (fun K hK => ?_) AllReadyH.nil
  go_simp
  go_wp2_with (go_at_call 30; (with_reducible refine (in_any _ _ _ _).mono ?_); rintro e w1 ⟨rfl, rfl⟩; rw [c3])
  refine hK.out _ _ (by assumption) (fun hh => ?_)
  clear hK K
  try simp only [List.getElem_toArray, List.getElem_cons_zero, List.getElem_cons_succ, Act.put, List.setIfInBounds_toArray, List.set_cons_zero, List.set_cons_succ]
  refine wpAnyH_take (i := 21) (v := ?vp21) rfl (by kernel_rfl) (by kernel_rfl) (by kernel_rfl) (fun _ _ _ h => h) (Or.inl ⟨by rfl, ?hyp21⟩) (by assumption) ?rep21
  case hyp21 => first | (intro w hSw; (try dsimp only at hSw); go_simp; done) | (intro w hSw; (try dsimp only at hSw); go_simp; with_reducible rfl)
  try simp only [List.getElem_toArray, List.getElem_cons_zero, List.getElem_cons_succ, Act.put, List.setIfInBounds_toArray, List.set_cons_zero, List.set_cons_succ]
  refine wpAnyH_take (i := 22) (v := ?vp22) rfl (by kernel_rfl) (by kernel_rfl) (by kernel_rfl) (fun _ _ _ h => h) (Or.inl ⟨by rfl, ?hyp22⟩) (by assumption) ?rep22
  case hyp22 => first | (intro w hSw; (try dsimp only at hSw); go_simp; done) | (intro w hSw; (try dsimp only at hSw); go_simp; with_reducible rfl)
  try simp only [List.getElem_toArray, List.getElem_cons_zero, List.getElem_cons_succ, Act.put, List.setIfInBounds_toArray, List.set_cons_zero, List.set_cons_succ]
  refine wpAnyH_take (i := 23) (v := undef) rfl (by kernel_rfl) (by kernel_rfl) (by kernel_rfl) (fun _ _ _ h => h) (Or.inr ⟨by rfl, rfl⟩) (by assumption) ?rep23
  try simp only [List.getElem_toArray, List.getElem_cons_zero, List.getElem_cons_succ, Act.put, List.setIfInBounds_toArray, List.set_cons_zero, List.set_cons_succ]
  refine wpAnyH_take (i := 24) (v := undef) rfl (by kernel_rfl) (by kernel_rfl) (by kernel_rfl) (fun _ _ _ h => h) (Or.inr ⟨by rfl, rfl⟩) (by assumption) ?rep24
  try simp only [List.getElem_toArray, List.getElem_cons_zero, List.getElem_cons_succ, Act.put, List.setIfInBounds_toArray, List.set_cons_zero, List.set_cons_succ]
  refine wpAnyH_take (i := 25) (v := undef) rfl (by kernel_rfl) (by kernel_rfl) (by kernel_rfl) (fun _ _ _ h => h) (Or.inr ⟨by rfl, rfl⟩) (by assumption) ?rep25
  try simp only [List.getElem_toArray, List.getElem_cons_zero, List.getElem_cons_succ, Act.put, List.setIfInBounds_toArray, List.set_cons_zero, List.set_cons_succ]
  refine wpAnyH_take (i := 26) (v := ?vp26) rfl (by kernel_rfl) (by kernel_rfl) (by kernel_rfl) (fun _ _ _ h => h) (Or.inl ⟨by rfl, ?hyp26⟩) (by assumption) ?rep26
  case hyp26 => first | (intro w hSw; (try dsimp only at hSw); go_simp; done) | (intro w hSw; (try dsimp only at hSw); go_simp; with_reducible rfl)
  try simp only [List.getElem_toArray, List.getElem_cons_zero, List.getElem_cons_succ, Act.put, List.setIfInBounds_toArray, List.set_cons_zero, List.set_cons_succ]
  refine wpAnyH_take (i := 27) (v := ?vp27) rfl (by kernel_rfl) (by kernel_rfl) (by kernel_rfl) (fun _ _ _ h => h) (Or.inl ⟨by rfl, ?hyp27⟩) (by assumption) ?rep27
  case hyp27 => first | (intro w hSw; (try dsimp only at hSw); go_simp; done) | (intro w hSw; (try dsimp only at hSw); go_simp; with_reducible rfl)
  try simp only [List.getElem_toArray, List.getElem_cons_zero, List.getElem_cons_succ, Act.put, List.setIfInBounds_toArray, List.set_cons_zero, List.set_cons_succ]
  refine wpAnyH_done (by kernel_rfl) ?_ _
  go_wp2_with fail
  go_ret
  exact ⟨rfl, HW0.out.trans (hh.1.mono HW0.out.size)⟩
set_option maxRecDepth 100000 in
set_option maxHeartbeats 2000000 in
theorem right_w4 (r : Ru) (be mi wa : Int) (l0 l1 l2 te : Bool) (j : Nat) (mv m1 : Int) (hw : IntKind.i64.wrap (be - 1) = (j : Int)) (hj0 : (0 : Int) ≤ j) (hj3 : (j : Int) < 3) (HM : Hid ((ruA r)[j]? = some (.int .i64 mv))) (hm : IntKind.i64.wrap (mv - 1) = m1) (g : Bool) (HP : Hid (1 ≤ be ∧ be ≤ 3)) (HH : Hid (heldAt r ⟨4, be, mi, wa, l0, l1, l2, te⟩ be = g)) (c1 : inR be 1 3 = true) (c2 : inR mi 0 m1 = true) (c3 : inR wa 0 r.pa = true) (w : World) :
    Calls Try.prog 32 #[rnV ⟨4, be, mi, wa, l0, l1, l2, te⟩, ruV r] w (RetBool g w) := by
  go_enter Try.func32, Try.ntmps32
  go_wp2_with fail
  refine (in_any _ _ _ _).mono ?_
  rintro e w' ⟨rfl, rfl⟩
  rw [show inR 4 0 7 = true from rfl]
  go_wp2_with fail
  generalize hW0 : (w.alloc (.cells (rnA ⟨4, be, mi, wa, l0, l1, l2, te⟩) 30)).alloc (.cells (ruA r) 25) = W at *
  obtain ⟨hal, hB1, hB2, hWs⟩ := boxes2 w _ _ W hW0.symm
  have HW0 := Lib.hid hal
  have k1 := rn8 hB1
  have k2 := ru13 hB2
  have k3 := blk_cell hB2 _ _ HM.out
  obtain ⟨x0, x1, x2, x3, x4, x5, x6, x7⟩ := k1
  obtain ⟨y0, y1, y2, y3, y4, y5, y6, y7, y8, y9, y10, y11, y12⟩ := k2
  clear hW0 hal hWs hB1 hB2
  refine wp_region_held_drew (S := (fun w' => Below W.heap.size W w' ∧ w'.cell? ⟨w.heap.size, 0, none⟩ = some (.int .i64 4) ∧ w'.cell? ⟨w.heap.size, 1, none⟩ = some (.int .i64 be) ∧ w'.cell? ⟨w.heap.size, 2, none⟩ = some (.int .i64 mi) ∧ w'.cell? ⟨w.heap.size, 3, none⟩ = some (.int .i64 wa) ∧ w'.cell? ⟨w.heap.size, 4, none⟩ = some (.bool l0) ∧ w'.cell? ⟨w.heap.size, 5, none⟩ = some (.bool l1) ∧ w'.cell? ⟨w.heap.size, 6, none⟩ = some (.bool l2) ∧ w'.cell? ⟨w.heap.size, 7, none⟩ = some (.bool te) ∧ w'.cell? ⟨w.heap.size + 1, 0, none⟩ = some (.int .i64 r.m0) ∧ w'.cell? ⟨w.heap.size + 1, 1, none⟩ = some (.int .i64 r.m1) ∧ w'.cell? ⟨w.heap.size + 1, 2, none⟩ = some (.int .i64 r.m2) ∧ w'.cell? ⟨w.heap.size + 1, 3, none⟩ = some (.int .i64 r.pa) ∧ w'.cell? ⟨w.heap.size + 1, 4, none⟩ = some (.int .i64 r.t00) ∧ w'.cell? ⟨w.heap.size + 1, 5, none⟩ = some (.int .i64 r.t01) ∧ w'.cell? ⟨w.heap.size + 1, 6, none⟩ = some (.int .i64 r.t02) ∧ w'.cell? ⟨w.heap.size + 1, 7, none⟩ = some (.int .i64 r.t10) ∧ w'.cell? ⟨w.heap.size + 1, 8, none⟩ = some (.int .i64 r.t11) ∧ w'.cell? ⟨w.heap.size + 1, 9, none⟩ = some (.int .i64 r.t12) ∧ w'.cell? ⟨w.heap.size + 1, 10, none⟩ = some (.int .i64 r.t20) ∧ w'.cell? ⟨w.heap.size + 1, 11, none⟩ = some (.int .i64 r.t21) ∧ w'.cell? ⟨w.heap.size + 1, 12, none⟩ = some (.int .i64 r.t22) ∧ w'.cell? ⟨w.heap.size + 1, j, none⟩ = some (.int .i64 mv))) (by kernel_rfl) ⟨(Below.refl _ _).drew, x0, x1, x2, x3, x4, x5, x6, x7, y0, y1, y2, y3, y4, y5, y6, y7, y8, y9, y10, y11, y12, k3⟩ (fun hh => ?_)
  clear x0 x1 x2 x3 x4 x5 x6 x7 y0 y1 y2 y3 y4 y5 y6 y7 y8 y9 y10 y11 y12 k3
  refine wpAnyH_take (i := 0) (v := ?vp0) rfl (by kernel_rfl) (by kernel_rfl) (by kernel_rfl) (fun _ _ _ h => h) (Or.inl ⟨by rfl, ?hyp0⟩) (by assumption) ?rep0
  case hyp0 => first | (intro w hSw; (try dsimp only at hSw); go_simp; done) | (intro w hSw; (try dsimp only at hSw); go_simp; with_reducible rfl)
  try simp only [List.getElem_toArray, List.getElem_cons_zero, List.getElem_cons_succ, Act.put, List.setIfInBounds_toArray, List.set_cons_zero, List.set_cons_succ]
  refine wpAnyH_take (i := 1) (v := ?vp1) rfl (by kernel_rfl) (by kernel_rfl) (by kernel_rfl) (fun _ _ _ h => h) (Or.inl ⟨by rfl, ?hyp1⟩) (by assumption) ?rep1
  case hyp1 => first | (intro w hSw; (try dsimp only at hSw); go_simp; done) | (intro w hSw; (try dsimp only at hSw); go_simp; with_reducible rfl)
  try simp only [List.getElem_toArray, List.getElem_cons_zero, List.getElem_cons_succ, Act.put, List.setIfInBounds_toArray, List.set_cons_zero, List.set_cons_succ]
  refine wpAnyH_ready (rs := [2]) (by kernel_rfl) (by simp) ?_
  refine AllReadyH.cons rfl (fun K hK => ?_) AllReadyH.nil
  go_simp
  go_wp2_with (go_at_call 30; (with_reducible refine (in_any _ _ _ _).mono ?_); rintro e w1 ⟨rfl, rfl⟩; rw [c1])
  refine hK.out _ _ (by assumption) (fun hh => ?_)
  clear hK K
  try simp only [List.getElem_toArray, List.getElem_cons_zero, List.getElem_cons_succ, Act.put, List.setIfInBounds_toArray, List.set_cons_zero, List.set_cons_succ]
  refine wpAnyH_take (i := 3) (v := ?vp3) rfl (by kernel_rfl) (by kernel_rfl) (by kernel_rfl) (fun _ _ _ h => h) (Or.inl ⟨by rfl, ?hyp3⟩) (by assumption) ?rep3
  case hyp3 => first | (intro w hSw; (try dsimp only at hSw); go_simp; done) | (intro w hSw; (try dsimp only at hSw); go_simp; with_reducible rfl)
  try simp only [List.getElem_toArray, List.getElem_cons_zero, List.getElem_cons_succ, Act.put, List.setIfInBounds_toArray, List.set_cons_zero, List.set_cons_succ]
  refine wpAnyH_take (i := 4) (v := ?vp4) rfl (by kernel_rfl) (by kernel_rfl) (by kernel_rfl) (fun _ _ _ h => h) (Or.inl ⟨by rfl, ?hyp4⟩) (by assumption) ?rep4
  case hyp4 => first | (intro w hSw; (try dsimp only at hSw); go_simp; done) | (intro w hSw; (try dsimp only at hSw); go_simp; with_reducible rfl)
  try simp only [List.getElem_toArray, List.getElem_cons_zero, List.getElem_cons_succ, Act.put, List.setIfInBounds_toArray, List.set_cons_zero, List.set_cons_succ]
  refine wpAnyH_take (i := 5) (v := ?vp5) rfl (by kernel_rfl) (by kernel_rfl) (by kernel_rfl) (fun _ _ _ h => h) (Or.inl ⟨by rfl, ?hyp5⟩) (by assumption) ?rep5
  case hyp5 => first | (intro w hSw; (try dsimp only at hSw); go_simp; done) | (intro w hSw; (try dsimp only at hSw); go_simp; with_reducible rfl)
  try simp only [List.getElem_toArray, List.getElem_cons_zero, List.getElem_cons_succ, Act.put, List.setIfInBounds_toArray, List.set_cons_zero, List.set_cons_succ]
  refine wpAnyH_take (i := 6) (v := ?vp6) rfl (by kernel_rfl) (by kernel_rfl) (by kernel_rfl) (fun _ _ _ h => h) (Or.inl ⟨by rfl, ?hyp6⟩) (by assumption) ?rep6
  case hyp6 => first | (intro w hSw; (try dsimp only at hSw); go_simp; done) | (intro w hSw; (try dsimp only at hSw); go_simp; with_reducible rfl)
  try simp only [List.getElem_toArray, List.getElem_cons_zero, List.getElem_cons_succ, Act.put, List.setIfInBounds_toArray, List.set_cons_zero, List.set_cons_succ]
  refine wpAnyH_take (i := 7) (v := ?vp7) rfl (by kernel_rfl) (by kernel_rfl) (by kernel_rfl) (fun _ _ _ h => h) (Or.inl ⟨by rfl, ?hyp7⟩) (by assumption) ?rep7
  case hyp7 => first | (intro w hSw; (try dsimp only at hSw); go_simp; done) | (intro w hSw; (try dsimp only at hSw); go_simp; with_reducible rfl)
  try simp only [List.getElem_toArray, List.getElem_cons_zero, List.getElem_cons_succ, Act.put, List.setIfInBounds_toArray, List.set_cons_zero, List.set_cons_succ]
  refine wpAnyH_take (i := 8) (v := ?vp8) rfl (by kernel_rfl) (by kernel_rfl) (by kernel_rfl) (fun _ _ _ h => h) (Or.inl ⟨by rfl, ?hyp8⟩) (by assumption) ?rep8
  case hyp8 => first | (intro w hSw; (try dsimp only at hSw); go_simp; done) | (intro w hSw; (try dsimp only at hSw); go_simp; with_reducible rfl)
  try simp only [List.getElem_toArray, List.getElem_cons_zero, List.getElem_cons_succ, Act.put, List.setIfInBounds_toArray, List.set_cons_zero, List.set_cons_succ]
  refine wpAnyH_take (i := 9) (v := ?vp9) rfl (by kernel_rfl) (by kernel_rfl) (by kernel_rfl) (fun _ _ _ h => h) (Or.inl ⟨by rfl, ?hyp9⟩) (by assumption) ?rep9
  case hyp9 => first | (intro w hSw; (try dsimp only at hSw); go_simp; done) | (intro w hSw; (try dsimp only at hSw); go_simp; with_reducible rfl)
  try simp only [List.getElem_toArray, List.getElem_cons_zero, List.getElem_cons_succ, Act.put, List.setIfInBounds_toArray, List.set_cons_zero, List.set_cons_succ]
  refine wpAnyH_take (i := 10) (v := ?vp10) rfl (by kernel_rfl) (by kernel_rfl) (by kernel_rfl) (fun _ _ _ h => h) (Or.inl ⟨by rfl, ?hyp10⟩) (by assumption) ?rep10
  case hyp10 => first | (intro w hSw; (try dsimp only at hSw); go_simp; done) | (intro w hSw; (try dsimp only at hSw); go_simp; with_reducible rfl)
  try simp only [List.getElem_toArray, List.getElem_cons_zero, List.getElem_cons_succ, Act.put, List.setIfInBounds_toArray, List.set_cons_zero, List.set_cons_succ]
  refine wpAnyH_take (i := 11) (v := ?vp11) rfl (by kernel_rfl) (by kernel_rfl) (by kernel_rfl) (fun _ _ _ h => h) (Or.inl ⟨by rfl, ?hyp11⟩) (by assumption) ?rep11
  case hyp11 => first | (intro w hSw; (try dsimp only at hSw); go_simp; done) | (intro w hSw; (try dsimp only at hSw); go_simp; with_reducible rfl)
  try simp only [List.getElem_toArray, List.getElem_cons_zero, List.getElem_cons_succ, Act.put, List.setIfInBounds_toArray, List.set_cons_zero, List.set_cons_succ]
  refine wpAnyH_take (i := 12) (v := ?vp12) rfl (by kernel_rfl) (by kernel_rfl) (by kernel_rfl) (fun _ _ _ h => h) (Or.inl ⟨by rfl, ?hyp12⟩) (by assumption) ?rep12
  case hyp12 => first | (intro w hSw; (try dsimp only at hSw); go_simp; done) | (intro w hSw; (try dsimp only at hSw); go_simp; with_reducible rfl)
  try simp only [List.getElem_toArray, List.getElem_cons_zero, List.getElem_cons_succ, Act.put, List.setIfInBounds_toArray, List.set_cons_zero, List.set_cons_succ]
  refine wpAnyH_ready (rs := [13]) (by kernel_rfl) (by simp) ?_
  refine AllReadyH.cons rfl (fun K hK => ?_) AllReadyH.nil
  go_simp
  go_wp2_with (go_at_call 30; (with_reducible refine (in_any _ _ _ _).mono ?_); rintro e w1 ⟨rfl, rfl⟩; rw [c2])
  refine hK.out _ _ (by assumption) (fun hh => ?_)
  clear hK K
  try simp only [List.getElem_toArray, List.getElem_cons_zero, List.getElem_cons_succ, Act.put, List.setIfInBounds_toArray, List.set_cons_zero, List.set_cons_succ]
  refine wpAnyH_take (i := 14) (v := ?vp14) rfl (by kernel_rfl) (by kernel_rfl) (by kernel_rfl) (fun _ _ _ h => h) (Or.inl ⟨by rfl, ?hyp14⟩) (by assumption) ?rep14
  case hyp14 => first | (intro w hSw; (try dsimp only at hSw); go_simp; done) | (intro w hSw; (try dsimp only at hSw); go_simp; with_reducible rfl)
  try simp only [List.getElem_toArray, List.getElem_cons_zero, List.getElem_cons_succ, Act.put, List.setIfInBounds_toArray, List.set_cons_zero, List.set_cons_succ]
  refine wpAnyH_take (i := 15) (v := ?vp15) rfl (by kernel_rfl) (by kernel_rfl) (by kernel_rfl) (fun _ _ _ h => h) (Or.inl ⟨by rfl, ?hyp15⟩) (by assumption) ?rep15
  case hyp15 => first | (intro w hSw; (try dsimp only at hSw); go_simp; done) | (intro w hSw; (try dsimp only at hSw); go_simp; with_reducible rfl)
  try simp only [List.getElem_toArray, List.getElem_cons_zero, List.getElem_cons_succ, Act.put, List.setIfInBounds_toArray, List.set_cons_zero, List.set_cons_succ]
  refine wpAnyH_take (i := 16) (v := ?vp16) rfl (by kernel_rfl) (by kernel_rfl) (by kernel_rfl) (fun _ _ _ h => h) (Or.inl ⟨by rfl, ?hyp16⟩) (by assumption) ?rep16
  case hyp16 => first | (intro w hSw; (try dsimp only at hSw); go_simp; done) | (intro w hSw; (try dsimp only at hSw); go_simp; with_reducible rfl)
  try simp only [List.getElem_toArray, List.getElem_cons_zero, List.getElem_cons_succ, Act.put, List.setIfInBounds_toArray, List.set_cons_zero, List.set_cons_succ]
  refine wpAnyH_take (i := 17) (v := ?vp17) rfl (by kernel_rfl) (by kernel_rfl) (by kernel_rfl) (fun _ _ _ h => h) (Or.inl ⟨by rfl, ?hyp17⟩) (by assumption) ?rep17
  case hyp17 => first | (intro w hSw; (try dsimp only at hSw); go_simp; done) | (intro w hSw; (try dsimp only at hSw); go_simp; with_reducible rfl)
  try simp only [List.getElem_toArray, List.getElem_cons_zero, List.getElem_cons_succ, Act.put, List.setIfInBounds_toArray, List.set_cons_zero, List.set_cons_succ]
  refine wpAnyH_take (i := 18) (v := ?vp18) rfl (by kernel_rfl) (by kernel_rfl) (by kernel_rfl) (fun _ _ _ h => h) (Or.inl ⟨by rfl, ?hyp18⟩) (by assumption) ?rep18
  case hyp18 => first | (intro w hSw; (try dsimp only at hSw); go_simp; done) | (intro w hSw; (try dsimp only at hSw); go_simp; with_reducible rfl)
  try simp only [List.getElem_toArray, List.getElem_cons_zero, List.getElem_cons_succ, Act.put, List.setIfInBounds_toArray, List.set_cons_zero, List.set_cons_succ]
  refine wpAnyH_take (i := 19) (v := ?vp19) rfl (by kernel_rfl) (by kernel_rfl) (by kernel_rfl) (fun _ _ _ h => h) (Or.inl ⟨by rfl, ?hyp19⟩) (by assumption) ?rep19
  case hyp19 => first | (intro w hSw; (try dsimp only at hSw); go_simp; done) | (intro w hSw; (try dsimp only at hSw); go_simp; with_reducible rfl)
  try simp only [List.getElem_toArray, List.getElem_cons_zero, List.getElem_cons_succ, Act.put, List.setIfInBounds_toArray, List.set_cons_zero, List.set_cons_succ]
  refine wpAnyH_ready (rs := [20]) (by kernel_rfl) (by simp) ?_
  refine AllReadyH.cons rfl (fun K hK => ?_) AllReadyH.nil
  go_simp
  go_wp2_with (go_at_call 30; (with_reducible refine (in_any _ _ _ _).mono ?_); rintro e w1 ⟨rfl, rfl⟩; rw [c3])
  refine hK.out _ _ (by assumption) (fun hh => ?_)
  clear hK K
  try simp only [List.getElem_toArray, List.getElem_cons_zero, List.getElem_cons_succ, Act.put, List.setIfInBounds_toArray, List.set_cons_zero, List.set_cons_succ]
  refine wpAnyH_take (i := 21) (v := ?vp21) rfl (by kernel_rfl) (by kernel_rfl) (by kernel_rfl) (fun _ _ _ h => h) (Or.inl ⟨by rfl, ?hyp21⟩) (by assumption) ?rep21
  case hyp21 => first | (intro w hSw; (try dsimp only at hSw); go_simp; done) | (intro w hSw; (try dsimp only at hSw); go_simp; with_reducible rfl)
  try simp only [List.getElem_toArray, List.getElem_cons_zero, List.getElem_cons_succ, Act.put, List.setIfInBounds_toArray, List.set_cons_zero, List.set_cons_succ]
  refine wpAnyH_take (i := 22) (v := ?vp22) rfl (by kernel_rfl) (by kernel_rfl) (by kernel_rfl) (fun _ _ _ h => h) (Or.inl ⟨by rfl, ?hyp22⟩) (by assumption) ?rep22
  case hyp22 => first | (intro w hSw; (try dsimp only at hSw); go_simp; done) | (intro w hSw; (try dsimp only at hSw); go_simp; with_reducible rfl)
  try simp only [List.getElem_toArray, List.getElem_cons_zero, List.getElem_cons_succ, Act.put, List.setIfInBounds_toArray, List.set_cons_zero, List.set_cons_succ]
  refine wpAnyH_take (i := 23) (v := ?vp23) rfl (by kernel_rfl) (by kernel_rfl) (by kernel_rfl) (fun _ _ _ h => h) (Or.inl ⟨by rfl, ?hyp23⟩) (by assumption) ?rep23
  case hyp23 => first | (intro w hSw; (try dsimp only at hSw); go_simp; done) | (intro w hSw; (try dsimp only at hSw); go_simp; with_reducible rfl)
  try simp only [List.getElem_toArray, List.getElem_cons_zero, List.getElem_cons_succ, Act.put, List.setIfInBounds_toArray, List.set_cons_zero, List.set_cons_succ]
  refine wpAnyH_take (i := 24) (v := ?vp24) rfl (by kernel_rfl) (by kernel_rfl) (by kernel_rfl) (fun _ _ _ h => h) (Or.inl ⟨by rfl, ?hyp24⟩) (by assumption) ?rep24
  case hyp24 => first | (intro w hSw; (try dsimp only at hSw); go_simp; done) | (intro w hSw; (try dsimp only at hSw); go_simp; with_reducible rfl)
  try simp only [List.getElem_toArray, List.getElem_cons_zero, List.getElem_cons_succ, Act.put, List.setIfInBounds_toArray, List.set_cons_zero, List.set_cons_succ]
  refine wpAnyH_ready (rs := [25]) (by kernel_rfl) (by simp) ?_
  refine AllReadyH.cons rfl (fun K hK => ?_) AllReadyH.nil
  go_simp
  go_wp2_with (go_at_call 58; (with_reducible refine (held_any r ⟨4, be, mi, wa, l0, l1, l2, te⟩ HP.out _).mono ?_); rintro e w1 ⟨rfl, rfl⟩; rw [HH.out])
  refine hK.out _ _ (keepR (by assumption)) (fun hh => ?_)
  clear hK K
  try simp only [List.getElem_toArray, List.getElem_cons_zero, List.getElem_cons_succ, Act.put, List.setIfInBounds_toArray, List.set_cons_zero, List.set_cons_succ]
  refine wpAnyH_take (i := 26) (v := ?vp26) rfl (by kernel_rfl) (by kernel_rfl) (by kernel_rfl) (fun _ _ _ h => h) (Or.inl ⟨by rfl, ?hyp26⟩) (by assumption) ?rep26
  case hyp26 => first | (intro w hSw; (try dsimp only at hSw); go_simp; done) | (intro w hSw; (try dsimp only at hSw); go_simp; with_reducible rfl)
  try simp only [List.getElem_toArray, List.getElem_cons_zero, List.getElem_cons_succ, Act.put, List.setIfInBounds_toArray, List.set_cons_zero, List.set_cons_succ]
  refine wpAnyH_take (i := 27) (v := ?vp27) rfl (by kernel_rfl) (by kernel_rfl) (by kernel_rfl) (fun _ _ _ h => h) (Or.inl ⟨by rfl, ?hyp27⟩) (by assumption) ?rep27
  case hyp27 => first | (intro w hSw; (try dsimp only at hSw); go_simp; done) | (intro w hSw; (try dsimp only at hSw); go_simp; with_reducible rfl)
  try simp only [List.getElem_toArray, List.getElem_cons_zero, List.getElem_cons_succ, Act.put, List.setIfInBounds_toArray, List.set_cons_zero, List.set_cons_succ]
  refine wpAnyH_done (by kernel_rfl) ?_ _
  go_wp2_with fail
  go_ret
  exact ⟨rfl, HW0.out.trans (hh.1.mono HW0.out.size)⟩
end Go.Proofs.Ytmfochplnchgcaa

/- THE WALKS of Run.right, all cases, and of Run.tick. -/
namespace Go.Proofs.Ytmfochplnchgcaa
open Go.RowKit

theorem ruA_mn (r : Ru) (j : Nat) (hj : j < 3) : (ruA r)[j]? = some (.int .i64 (r.mn ((j : Int) + 1))) := by
  match j, hj with
  | 0, _ => rfl
  | 1, _ => rfl
  | 2, _ => rfl
theorem wrap_m {m : Int} (h : 1 ≤ m ∧ m ≤ 256) : IntKind.i64.wrap (m - 1) = m - 1 := by
  rw [IntWalk.i64_left, IntWalk.wrap64_in _ (by omega)]
set_option maxRecDepth 100000 in
set_option maxHeartbeats 1000000 in
theorem right_out (r : Ru) (x : Rn) (h : inR x.ph 0 7 = false) (w : World) : Calls Try.prog 32 #[rnV x, ruV r] w (RetBool false w) := by
  go_enter Try.func32, Try.ntmps32
  go_wp2_with fail
  refine (in_any _ _ _ _).mono ?_
  rintro e w' ⟨rfl, rfl⟩
  rw [h]
  go_wp2_with fail
  go_ret
  exact ⟨rfl, below2 _ _ _⟩
set_option maxRecDepth 100000 in
set_option maxHeartbeats 1000000 in
theorem right_be (r : Ru) (x : Rn) (h : inR x.ph 0 7 = true) (h4 : ¬ x.ph = 4) (hb : ¬ (x.be = 0 ∧ x.wa = 0)) (w : World) : Calls Try.prog 32 #[rnV x, ruV r] w (RetBool false w) := by
  have t1 : (x.ph == 4) = false := by simp [h4]
  by_cases hb0 : x.be = 0
  · have t2 : (x.be != 0) = false := by simp [hb0]
    have t3 : (x.wa != 0) = true := by simp; exact fun h => hb ⟨hb0, h⟩
    clear hb0 hb h4
    go_enter Try.func32, Try.ntmps32
    go_wp2_with fail
    refine (in_any _ _ _ _).mono ?_
    rintro e w' ⟨rfl, rfl⟩
    rw [h]
    go_wp2_with fail
    go_ret
    exact ⟨rfl, below2 _ _ _⟩
  · have t2 : (x.be != 0) = true := by simp [hb0]
    clear hb0 hb h4
    go_enter Try.func32, Try.ntmps32
    go_wp2_with fail
    refine (in_any _ _ _ _).mono ?_
    rintro e w' ⟨rfl, rfl⟩
    rw [h]
    go_wp2_with fail
    go_ret
    exact ⟨rfl, below2 _ _ _⟩
set_option maxRecDepth 100000 in
set_option maxHeartbeats 1000000 in
theorem right_rest (r : Ru) (x : Rn) (h : inR x.ph 0 7 = true) (h4 : ¬ x.ph = 4) (hb : x.be = 0) (hw : x.wa = 0) (hg : goes x.ph = false) (w : World) : Calls Try.prog 32 #[rnV x, ruV r] w (RetBool (decide (x.mi = 0)) w) := by
  have t1 : (x.ph == 4) = false := by simp [h4]
  have t2 : (x.be != 0) = false := by simp [hb]
  have t3 : (x.wa != 0) = false := by simp [hw]
  have t4 : decide (x.mi = 0) = (x.mi == 0) := rfl
  rw [t4]
  clear hb h4 hw t4
  go_enter Try.func32, Try.ntmps32
  go_wp2_with fail
  refine (in_any _ _ _ _).mono ?_
  rintro e w' ⟨rfl, rfl⟩
  rw [h]
  go_wp2_with fail
  refine (goes_any x _).mono ?_
  rintro e w' ⟨rfl, rfl⟩
  rw [hg]
  go_wp2_with fail
  go_ret
  exact ⟨rfl, ba (below2 _ _ _)⟩
set_option maxRecDepth 100000 in
set_option maxHeartbeats 1000000 in
theorem right_goes (r : Ru) (x : Rn) (h : inR x.ph 0 7 = true) (h4 : ¬ x.ph = 4) (hb : x.be = 0) (hw0 : x.wa = 0) (hg : goes x.ph = true)
    (j : Nat) (mv m1 : Int) (hw : IntKind.i64.wrap (x.ph - 1) = (j : Int)) (hj0 : (0 : Int) ≤ j) (hj3 : (j : Int) < 3) (HM : Hid ((ruA r)[j]? = some (.int .i64 mv))) (hm : IntKind.i64.wrap (mv - 1) = m1) (w : World) :
    Calls Try.prog 32 #[rnV x, ruV r] w (RetBool (inR x.mi 0 m1) w) := by
  have t1 : (x.ph == 4) = false := by simp [h4]
  have t2 : (x.be != 0) = false := by simp [hb]
  have t3 : (x.wa != 0) = false := by simp [hw0]
  clear hb h4 hw0
  go_enter Try.func32, Try.ntmps32
  go_wp2_with fail
  refine (in_any _ _ _ _).mono ?_
  rintro e w' ⟨rfl, rfl⟩
  rw [h]
  go_wp2_with fail
  refine (goes_any x _).mono ?_
  rintro e w' ⟨rfl, rfl⟩
  rw [hg]
  go_wp2_with fail
  generalize hW0 : (w.alloc (.cells (rnA x) 30)).alloc (.cells (ruA r) 25) = W1 at *
  obtain ⟨hal, hB1, hB2, hWs⟩ := boxes2 w _ _ W1 hW0.symm
  have HAL := Lib.hid (ba (o := rnO x) hal)
  have a0 : (W1.alloc (rnO x)).cell? ⟨w.heap.size, 0, none⟩ = some (.int .i64 x.ph) := blk_cell ((heap_alloc_old _ _ (blk_lt hB1)).trans hB1) 0 _ rfl
  have a2 : (W1.alloc (rnO x)).cell? ⟨w.heap.size, 2, none⟩ = some (.int .i64 x.mi) := blk_cell ((heap_alloc_old _ _ (blk_lt hB1)).trans hB1) 2 _ rfl
  have k3 : (W1.alloc (rnO x)).cell? ⟨w.heap.size + 1, j, none⟩ = some (.int .i64 mv) := blk_cell ((heap_alloc_old _ _ (blk_lt hB2)).trans hB2) _ _ HM.out
  clear hW0 hal hWs hB1 hB2
  generalize W1.alloc (rnO x) = W at *
  go_region_held3 (fun w' => Below W.heap.size W w' ∧ w'.cell? ⟨w.heap.size, 0, none⟩ = some (.int .i64 x.ph) ∧ w'.cell? ⟨w.heap.size, 2, none⟩ = some (.int .i64 x.mi) ∧ w'.cell? ⟨w.heap.size + 1, j, none⟩ = some (.int .i64 mv))
    (first | exact ⟨(Below.refl _ _).drew, a0, a2, k3⟩ | assumption)
    (first | (go_at_call 30; (with_reducible refine (in_any _ _ _ _).mono ?_); rintro e w1 ⟨rfl, rfl⟩))
  go_wp2_with fail
  go_ret
  exact ⟨rfl, HAL.out.drew⟩
theorem rightRun_any (r : Ru) (x : Rn) (G : GoodRules r) (w : World) : Calls Try.prog 32 #[rnV x, ruV r] w (RetBool (right r x) w) := by
  cases h7 : inR x.ph 0 7 with
  | false =>
    have e : right r x = false := by unfold right; rw [h7]; rfl
    rw [e]
    exact right_out r x h7 w
  | true =>
    by_cases h4 : x.ph = 4
    · have e : right r x = (inR x.be 1 3 && (inR x.mi 0 (r.mn x.be - 1) && (inR x.wa 0 r.pa && heldAt r x x.be))) := by unfold right; rw [if_pos h7, if_pos h4]
      rw [e]
      obtain ⟨ph, be, mi, wa, l0, l1, l2, te⟩ := x
      obtain rfl : ph = 4 := h4
      show Calls Try.prog 32 _ w (RetBool (inR be 1 3 && (inR mi 0 (r.mn be - 1) && (inR wa 0 r.pa && heldAt r ⟨4, be, mi, wa, l0, l1, l2, te⟩ be))) w)
      cases c1 : inR be 1 3 with
      | false => exact right_w1 r be mi wa l0 l1 l2 te c1 w
      | true =>
        have hp : 1 ≤ be ∧ be ≤ 3 := (goes_iff be).1 c1
        obtain ⟨j, hj⟩ : ∃ j : Nat, (j : Int) = be - 1 := ⟨(be - 1).toNat, by omega⟩
        have hw := wrap3 _ j hp hj
        have hm := wrap_m (G.mn be)
        have hM := ruA_mn r j (by omega)
        rw [show (j : Int) + 1 = be from by omega] at hM
        cases c2 : inR mi 0 (r.mn be - 1) with
        | false => exact right_w2 r be mi wa l0 l1 l2 te j _ _ hw (by omega) (by omega) hM hm c1 c2 w
        | true =>
          cases c3 : inR wa 0 r.pa with
          | false => exact right_w3 r be mi wa l0 l1 l2 te j _ _ hw (by omega) (by omega) hM hm c1 c2 c3 w
          | true => exact right_w4 r be mi wa l0 l1 l2 te j _ _ hw (by omega) (by omega) hM hm _ hp rfl c1 c2 c3 w
    · by_cases hb : x.be = 0 ∧ x.wa = 0
      · cases hg : goes x.ph with
        | true =>
          have e : right r x = inR x.mi 0 (r.mn x.ph - 1) := by unfold right; rw [if_pos h7, if_neg h4, if_pos hb, if_pos hg]
          rw [e]
          have hp := (goes_iff _).1 hg
          obtain ⟨j, hj⟩ : ∃ j : Nat, (j : Int) = x.ph - 1 := ⟨(x.ph - 1).toNat, by omega⟩
          have hM := ruA_mn r j (by omega)
          rw [show (j : Int) + 1 = x.ph from by omega] at hM
          exact right_goes r x h7 h4 hb.1 hb.2 hg j _ _ (wrap3 _ j hp hj) (by omega) (by omega) hM (wrap_m (G.mn x.ph)) w
        | false =>
          have e : right r x = decide (x.mi = 0) := by unfold right; rw [if_pos h7, if_neg h4, if_pos hb, if_neg (by rw [hg]; decide)]
          rw [e]
          exact right_rest r x h7 h4 hb.1 hb.2 hg w
      · have e : right r x = false := by unfold right; rw [if_pos h7, if_neg h4, if_neg hb]
        rw [e]
        exact right_be r x h7 h4 hb w
theorem wrap_p {m : Int} (h : 0 ≤ m ∧ m ≤ 256) : IntKind.i64.wrap (m + 1) = m + 1 := by
  rw [IntWalk.i64_left, IntWalk.wrap64_in _ (by omega)]

set_option maxRecDepth 100000 in
set_option maxHeartbeats 1000000 in
theorem tick_wait (r : Ru) (be mi wa : Int) (l0 l1 l2 te : Bool) (hw : IntKind.i64.wrap (wa + 1) = wa + 1) (w : World) :
    Calls Try.prog 55 #[rnV ⟨4, be, mi, wa, l0, l1, l2, te⟩, ruV r] w (RetRn (tick r ⟨4, be, mi, wa, l0, l1, l2, te⟩) w) := by
  by_cases h : r.pa < wa + 1
  · have t1 : decide (wa + 1 > r.pa) = true := decide_eq_true h
    have e : tick r ⟨4, be, mi, wa, l0, l1, l2, te⟩ = ended ⟨4, be, mi, wa + 1, l0, l1, l2, te⟩ 7 := by unfold tick; rw [if_pos rfl, if_pos h]
    rw [e]
    clear h e
    go_enter Try.func55, Try.ntmps55
    go_wp2_with fail
    refine (ended_any ⟨4, be, mi, wa + 1, l0, l1, l2, te⟩ 7 _).mono ?_
    rintro e w' ⟨rfl, rfl⟩
    go_wp2_with fail
    refine bodyPost_ret (v := rnV (ended ⟨4, be, mi, wa + 1, l0, l1, l2, te⟩ 7)) (by simp [results, Try.results55, go_sem]) rfl ⟨rfl, ?_⟩
    exact ba (ba (ba (below2 _ _ _)))
  · have t1 : decide (wa + 1 > r.pa) = false := decide_eq_false h
    have e : tick r ⟨4, be, mi, wa, l0, l1, l2, te⟩ = ⟨4, be, mi, wa + 1, l0, l1, l2, te⟩ := by unfold tick; rw [if_pos rfl, if_neg h]
    rw [e]
    clear h e
    go_enter Try.func55, Try.ntmps55
    go_wp2_with fail
    refine bodyPost_ret (v := rnV ⟨4, be, mi, wa + 1, l0, l1, l2, te⟩) (by simp [results, Try.results55, go_sem]) rfl ⟨rfl, ?_⟩
    exact ba (below2 _ _ _)
set_option maxRecDepth 100000 in
set_option maxHeartbeats 1000000 in
theorem tick_rest (r : Ru) (x : Rn) (h4 : ¬ x.ph = 4) (hg : goes x.ph = false) (w : World) : Calls Try.prog 55 #[rnV x, ruV r] w (RetRn x w) := by
  have t1 : (x.ph == 4) = false := by simp [h4]
  clear h4
  go_enter Try.func55, Try.ntmps55
  go_wp2_with fail
  refine (goes_any x _).mono ?_
  rintro e w' ⟨rfl, rfl⟩
  rw [hg]
  go_wp2_with fail
  refine bodyPost_ret (v := rnV x) (by simp [results, Try.results55, go_sem]) rfl ⟨rfl, ?_⟩
  exact ba (ba (below2 _ _ _))
set_option maxRecDepth 100000 in
set_option maxHeartbeats 1000000 in
theorem tick_goes (r : Ru) (ph be mi wa : Int) (l0 l1 l2 te : Bool) (G : GoodRules r) (h4 : ¬ ph = 4) (hg : goes ph = true) (hm : IntKind.i64.wrap (mi + 1) = mi + 1)
    (j : Nat) (mv : Int) (hw : IntKind.i64.wrap (ph - 1) = (j : Int)) (hj0 : (0 : Int) ≤ j) (hj3 : (j : Int) < 3) (HM : Hid ((ruA r)[j]? = some (.int .i64 mv))) (hp : IntKind.i64.wrap (ph + 1) = ph + 1) (w : World) :
    Calls Try.prog 55 #[rnV ⟨ph, be, mi, wa, l0, l1, l2, te⟩, ruV r] w (RetRn (if mi + 1 < mv then ⟨ph, be, mi + 1, wa, l0, l1, l2, te⟩ else if ph < 3 then begin r ⟨ph, be, mi + 1, wa, l0, l1, l2, te⟩ (ph + 1) else if te then ended ⟨ph, be, mi + 1, wa, l0, l1, l2, te⟩ 6 else ended ⟨ph, be, mi + 1, wa, l0, l1, l2, te⟩ 5) w) := by
  have t1 : (ph == 4) = false := by simp [h4]
  have HG := Lib.hid G
  clear h4 G
  obtain ⟨u, hu⟩ : ∃ u : Rn, u = (if mi + 1 < mv then ⟨ph, be, mi + 1, wa, l0, l1, l2, te⟩ else if ph < 3 then begin r ⟨ph, be, mi + 1, wa, l0, l1, l2, te⟩ (ph + 1) else if te then ended ⟨ph, be, mi + 1, wa, l0, l1, l2, te⟩ 6 else ended ⟨ph, be, mi + 1, wa, l0, l1, l2, te⟩ 5) := ⟨_, rfl⟩
  rw [← hu]
  have HU := Lib.hid hu
  clear hu
  go_enter Try.func55, Try.ntmps55
  go_wp2_with fail
  refine (goes_any ⟨ph, be, mi, wa, l0, l1, l2, te⟩ _).mono ?_
  rintro e w' ⟨rfl, rfl⟩
  rw [show goes (⟨ph, be, mi, wa, l0, l1, l2, te⟩ : Rn).ph = true from hg]
  go_wp2_with fail
  generalize hW0 : ((w.alloc (.cells (rnA ⟨ph, be, mi + 1, wa, l0, l1, l2, te⟩) 30)).alloc (.cells (ruA r) 25)).alloc (.cells _ _) = W1 at *
  obtain ⟨hal, hB1, hB2, hB3, hWs⟩ := boxesM w _ _ _ _ W1 hW0.symm
  clear hW0
  have HAL := Lib.hid (ba (o := rnO ⟨ph, be, mi, wa, l0, l1, l2, te⟩) hal)
  have hC1 := (heap_alloc_old _ (rnO ⟨ph, be, mi, wa, l0, l1, l2, te⟩) (blk_lt hB1)).trans hB1
  have hC2 := (heap_alloc_old _ (rnO ⟨ph, be, mi, wa, l0, l1, l2, te⟩) (blk_lt hB2)).trans hB2
  have hC3 := (heap_alloc_old _ (rnO ⟨ph, be, mi, wa, l0, l1, l2, te⟩) (blk_lt hB3)).trans hB3
  clear hal hB1 hB2 hB3 hWs
  generalize W1.alloc (rnO ⟨ph, be, mi, wa, l0, l1, l2, te⟩) = W at *
  have a0 := blk_cell hC1 0 _ rfl
  have a2 := blk_cell hC1 2 _ rfl
  have k3 := blk_cell hC2 _ _ HM.out
  have D1 : Hid (W.drew.heap[w.heap.size]? = _) := hC1
  have D2 : Hid (W.drew.heap[w.heap.size + 1]? = _) := hC2
  have D3 : Hid (W.drew.heap[w.heap.size + 1 + 1]? = _) := hC3
  have BV := Lib.hid HAL.out.drew
  clear hC1 hC2 hC3
  go_region_held3 (fun w' => Below W.heap.size W w' ∧ w'.cell? ⟨w.heap.size, 0, none⟩ = some (.int .i64 ph) ∧ w'.cell? ⟨w.heap.size, 2, none⟩ = some (.int .i64 (mi + 1)) ∧ w'.cell? ⟨w.heap.size + 1, j, none⟩ = some (.int .i64 mv))
    (first | exact ⟨(Below.refl _ _).drew, a0, a2, k3⟩ | assumption)
    (fail)
  rename_i hHeld
  clear hHeld a0 a2 k3
  generalize W.drew = V at *
  obtain ⟨k0, k1, k2, k3, k4, k5, k6, k7⟩ := rn8 D1.out
  by_cases c1 : mi + 1 < mv
  · rw [decide_eq_true c1]
    have HU2 : Hid (u = ⟨ph, be, mi + 1, wa, l0, l1, l2, te⟩) := by show _ = _; rw [HU.out, if_pos c1]
    clear c1 HU
    obtain ⟨f0, f1, f2, f3, f4, f5, f6, f7⟩ := rnf (x := rn0) D3.out
    obtain ⟨g0, g1, g2, g3, g4, g5, g6, g7⟩ := rn8 (x := rn0) D3.out
    go_wp2_with fail
    have hE := set8 (u0 := .int .i64 ph) (u1 := .int .i64 be) (u2 := .int .i64 (mi + 1)) (u3 := .int .i64 wa) (u4 := .bool l0) (u5 := .bool l1) (u6 := .bool l2) (u7 := .bool te) D3.out
    obtain ⟨h0, h1, h2, h3, h4, h5, h6, h7⟩ := rn8 (x := ⟨ph, be, mi + 1, wa, l0, l1, l2, te⟩) hE
    refine bodyPost_ret (v := rnV ⟨ph, be, mi + 1, wa, l0, l1, l2, te⟩) (by simp [results, Try.results55, go_sem, h0, h1, h2, h3, h4, h5, h6, h7]) rfl ⟨by rw [HU2.out], ?_⟩
    exact below_set8 BV.out (by omega)
  · rw [decide_eq_false c1]
    by_cases c2 : ph < 3
    · have t3 : decide (ph < 3) = true := decide_eq_true c2
      have HU2 : Hid (u = begin r ⟨ph, be, mi + 1, wa, l0, l1, l2, te⟩ (ph + 1)) := by show _ = _; rw [HU.out, if_neg c1, if_pos c2]
      clear c1 c2 HU
      obtain ⟨m0, m1, m2, m3, m4, m5, m6, m7, m8, m9, m10, m11, m12⟩ := ru13 D2.out
      go_wp2_with fail
      refine (begin_any r ⟨ph, be, mi + 1, wa, l0, l1, l2, te⟩ (ph + 1) HG.out _).mono ?_
      rintro e w1 ⟨rfl, hb⟩
      rw [← HU2.out]
      clear m0 m1 m2 m3 m4 m5 m6 m7 m8 m9 m10 m11 m12 HU2
      have E3 := Lib.hid (blk_keep D3.out hb (blk_lt D3.out))
      have HB := Lib.hid (BV.out.trans (hb.mono BV.out.size))
      obtain ⟨f0, f1, f2, f3, f4, f5, f6, f7⟩ := rnf (x := rn0) E3.out
      obtain ⟨g0, g1, g2, g3, g4, g5, g6, g7⟩ := rn8 (x := rn0) E3.out
      clear k0 k1 k2 k3 k4 k5 k6 k7 hb
      go_wp2_with fail
      obtain ⟨h0, h1, h2, h3, h4, h5, h6, h7⟩ := rn8 (x := u) (set8 (u0 := .int .i64 u.ph) (u1 := .int .i64 u.be) (u2 := .int .i64 u.mi) (u3 := .int .i64 u.wa) (u4 := .bool u.l0) (u5 := .bool u.l1) (u6 := .bool u.l2) (u7 := .bool u.te) E3.out)
      refine bodyPost_ret (v := rnV u) (by simp [results, Try.results55, go_sem, h0, h1, h2, h3, h4, h5, h6, h7]) rfl ⟨rfl, ?_⟩
      exact below_set8 HB.out (by omega)
    · have t3 : decide (ph < 3) = false := decide_eq_false c2
      cases te with
      | true =>
        have HU2 : Hid (u = ended ⟨ph, be, mi + 1, wa, l0, l1, l2, true⟩ 6) := by show _ = _; rw [HU.out, if_neg c1, if_neg c2, if_pos rfl]
        clear c1 c2 HU
        go_wp2_with fail
        refine (ended_any ⟨ph, be, mi + 1, wa, l0, l1, l2, true⟩ 6 _).mono ?_
        rintro e w1 ⟨rfl, hw1⟩
        have hb : Below V.heap.size V w1 := by rw [hw1]; exact below2 _ _ _
        rw [← HU2.out]
        clear hw1 HU2
        have E3 := Lib.hid (blk_keep D3.out hb (blk_lt D3.out))
        have HB := Lib.hid (BV.out.trans (hb.mono BV.out.size))
        obtain ⟨f0, f1, f2, f3, f4, f5, f6, f7⟩ := rnf (x := rn0) E3.out
        obtain ⟨g0, g1, g2, g3, g4, g5, g6, g7⟩ := rn8 (x := rn0) E3.out
        clear k0 k1 k2 k3 k4 k5 k6 k7 hb
        go_wp2_with fail
        obtain ⟨h0, h1, h2, h3, h4, h5, h6, h7⟩ := rn8 (x := u) (set8 (u0 := .int .i64 u.ph) (u1 := .int .i64 u.be) (u2 := .int .i64 u.mi) (u3 := .int .i64 u.wa) (u4 := .bool u.l0) (u5 := .bool u.l1) (u6 := .bool u.l2) (u7 := .bool u.te) E3.out)
        refine bodyPost_ret (v := rnV u) (by simp [results, Try.results55, go_sem, h0, h1, h2, h3, h4, h5, h6, h7]) rfl ⟨rfl, ?_⟩
        exact below_set8 HB.out (by omega)
      | false =>
        have HU2 : Hid (u = ended ⟨ph, be, mi + 1, wa, l0, l1, l2, false⟩ 5) := by show _ = _; rw [HU.out, if_neg c1, if_neg c2, if_neg (by decide)]
        clear c1 c2 HU
        go_wp2_with fail
        refine (ended_any ⟨ph, be, mi + 1, wa, l0, l1, l2, false⟩ 5 _).mono ?_
        rintro e w1 ⟨rfl, hw1⟩
        have hb : Below V.heap.size V w1 := by rw [hw1]; exact below2 _ _ _
        rw [← HU2.out]
        clear hw1 HU2
        have E3 := Lib.hid (blk_keep D3.out hb (blk_lt D3.out))
        have HB := Lib.hid (BV.out.trans (hb.mono BV.out.size))
        obtain ⟨f0, f1, f2, f3, f4, f5, f6, f7⟩ := rnf (x := rn0) E3.out
        obtain ⟨g0, g1, g2, g3, g4, g5, g6, g7⟩ := rn8 (x := rn0) E3.out
        clear k0 k1 k2 k3 k4 k5 k6 k7 hb
        go_wp2_with fail
        obtain ⟨h0, h1, h2, h3, h4, h5, h6, h7⟩ := rn8 (x := u) (set8 (u0 := .int .i64 u.ph) (u1 := .int .i64 u.be) (u2 := .int .i64 u.mi) (u3 := .int .i64 u.wa) (u4 := .bool u.l0) (u5 := .bool u.l1) (u6 := .bool u.l2) (u7 := .bool u.te) E3.out)
        refine bodyPost_ret (v := rnV u) (by simp [results, Try.results55, go_sem, h0, h1, h2, h3, h4, h5, h6, h7]) rfl ⟨rfl, ?_⟩
        exact below_set8 HB.out (by omega)
theorem tick_any (r : Ru) (x : Rn) (G : GoodRules r) (hR : Right r x) (w : World) : Calls Try.prog 55 #[rnV x, ruV r] w (RetRn (tick r x) w) := by
  by_cases h4 : x.ph = 4
  · obtain ⟨ph, be, mi, wa, l0, l1, l2, te⟩ := x
    obtain rfl : ph = 4 := h4
    have hpa := G.pa
    have hwa : 0 ≤ wa ∧ wa ≤ 256 := by
      rcases hR with ⟨a, b, c, d, e⟩ | ⟨a, b, c, d⟩ | ⟨a, b, c, d⟩
      · have : 0 ≤ wa ∧ wa ≤ r.pa := d
        omega
      · have : (1 : Int) ≤ 4 ∧ (4 : Int) ≤ 3 := c
        omega
      · have : (4 : Int) = 0 ∨ (4 : Int) = 5 ∨ (4 : Int) = 6 ∨ (4 : Int) = 7 := d
        omega
    exact tick_wait r be mi wa l0 l1 l2 te (wrap_p hwa) w
  · cases hg : goes x.ph with
    | true =>
      have hp := (goes_iff _).1 hg
      have hmn := G.mn x.ph
      have hmi : 0 ≤ x.mi ∧ x.mi ≤ 256 := by rcases hR with ⟨a, b, c, d, e⟩ | ⟨a, b, c, d⟩ | ⟨a, b, c, d⟩ <;> omega
      obtain ⟨j, hj⟩ : ∃ j : Nat, (j : Int) = x.ph - 1 := ⟨(x.ph - 1).toNat, by omega⟩
      have hM := ruA_mn r j (by omega)
      rw [show (j : Int) + 1 = x.ph from by omega] at hM
      have e : tick r x = (if x.mi + 1 < r.mn x.ph then { x with mi := x.mi + 1 } else if x.ph < 3 then begin r { x with mi := x.mi + 1 } (x.ph + 1) else if x.te then ended { x with mi := x.mi + 1 } 6 else ended { x with mi := x.mi + 1 } 5) := by
        unfold tick
        rw [if_neg h4, if_pos hg]
      rw [e]
      obtain ⟨ph, be, mi, wa, l0, l1, l2, te⟩ := x
      exact tick_goes r ph be mi wa l0 l1 l2 te G h4 hg (wrap_p hmi) j _ (wrap3 _ j hp hj) (by omega) (by omega) hM (wrap_p (by have : 1 ≤ ph ∧ ph ≤ 3 := hp; omega)) w
    | false =>
      have e : tick r x = x := by unfold tick; rw [if_neg h4, if_neg (by rw [hg]; decide)]
      rw [e]
      exact tick_rest r x h4 hg w
end Go.Proofs.Ytmfochplnchgcaa

/- THE WALKS of Run.next, event by event; printed by wip/tools/gen_cj.py. -/
namespace Go.Proofs.Ytmfochplnchgcaa
open Go.RowKit

def RetNx (o : Option Rn) (w : World) (e : Ending) (w' : World) : Prop := e = .returned (.tuple #[rnV (o.getD rn0), .bool o.isSome]) ∧ Below w.heap.size w w'
set_option maxRecDepth 100000 in
set_option maxHeartbeats 1000000 in
theorem next_0 (r : Ru) (ph be mi wa : Int) (l0 l1 l2 te : Bool) (G : GoodRules r) (hR : Right r ⟨ph, be, mi, wa, l0, l1, l2, te⟩) (w : World) : Calls Try.prog 31 #[rnV ⟨ph, be, mi, wa, l0, l1, l2, te⟩, ruV r, .int .i64 0] w (RetNx (some (tick r ⟨ph, be, mi, wa, l0, l1, l2, te⟩)) w) := by
  have HG := Lib.hid G
  have HR := Lib.hid hR
  obtain ⟨u, hu⟩ : ∃ u, u = tick r ⟨ph, be, mi, wa, l0, l1, l2, te⟩ := ⟨_, rfl⟩
  have HU := Lib.hid hu
  rw [← hu]
  clear hu G hR
  go_enter Try.func31, Try.ntmps31
  go_wp2_with fail
  generalize hW0 : ((w.alloc (.cells (rnA ⟨ph, be, mi, wa, l0, l1, l2, te⟩) 30)).alloc (.cells (ruA r) 25)).alloc (.cells _ _) = W at *
  obtain ⟨hal, hB1, hB2, hB3, hWs⟩ := boxesM w _ _ _ _ W hW0.symm
  have HAL := Lib.hid hal
  have HB1 := Lib.hid hB1
  have HB2 := Lib.hid hB2
  have HB3 := Lib.hid hB3
  clear hW0 hal hB1 hB2 hB3 hWs
  refine (tick_any r ⟨ph, be, mi, wa, l0, l1, l2, te⟩ HG.out HR.out _).mono ?_
  rintro e w1 ⟨rfl, hb⟩
  rw [← HU.out]
  have E3 := Lib.hid (blk_keep HB3.out hb (blk_lt HB3.out))
  have HB := Lib.hid (HAL.out.trans (hb.mono HAL.out.size))
  obtain ⟨f0, f1, f2, f3, f4, f5, f6, f7⟩ := rnf (x := rn0) E3.out
  obtain ⟨g0, g1, g2, g3, g4, g5, g6, g7⟩ := rn8 (x := rn0) E3.out
  clear hb HU
  go_wp2_with fail
  obtain ⟨h0, h1, h2, h3, h4, h5, h6, h7⟩ := rn8 (x := u) (set8 (u0 := .int .i64 (u).ph) (u1 := .int .i64 (u).be) (u2 := .int .i64 (u).mi) (u3 := .int .i64 (u).wa) (u4 := .bool (u).l0) (u5 := .bool (u).l1) (u6 := .bool (u).l2) (u7 := .bool (u).te) E3.out)
  refine bodyPost_ret (v := .tuple #[rnV u, .bool true]) (by simp [results, Try.results31, go_sem, h0, h1, h2, h3, h4, h5, h6, h7]) rfl ⟨rfl, ?_⟩
  exact below_set8 HB.out (by omega)
set_option maxRecDepth 100000 in
set_option maxHeartbeats 1000000 in
theorem next_1 (r : Ru) (ph be mi wa : Int) (l0 l1 l2 te : Bool) (G : GoodRules r) (h0 : ph = 0) (w : World) : Calls Try.prog 31 #[rnV ⟨ph, be, mi, wa, l0, l1, l2, te⟩, ruV r, .int .i64 1] w (RetNx (some (begin r ⟨ph, be, mi, wa, l0, l1, l2, false⟩ 1)) w) := by
  have HG := Lib.hid G
  have t1 : (ph != 0) = false := by simp [h0]
  obtain ⟨u, hu⟩ : ∃ u, u = begin r ⟨ph, be, mi, wa, l0, l1, l2, false⟩ 1 := ⟨_, rfl⟩
  have HU := Lib.hid hu
  rw [← hu]
  clear hu G h0
  go_enter Try.func31, Try.ntmps31
  go_wp2_with fail
  generalize hW0 : ((w.alloc (.cells (rnA ⟨ph, be, mi, wa, l0, l1, l2, false⟩) 30)).alloc (.cells (ruA r) 25)).alloc (.cells _ _) = W at *
  obtain ⟨hal, hB1, hB2, hB3, hWs⟩ := boxesM w _ _ _ _ W hW0.symm
  have HAL := Lib.hid hal
  have HB1 := Lib.hid hB1
  have HB2 := Lib.hid hB2
  have HB3 := Lib.hid hB3
  clear hW0 hal hB1 hB2 hB3 hWs
  refine (begin_any r ⟨ph, be, mi, wa, l0, l1, l2, false⟩ 1 HG.out _).mono ?_
  rintro e w1 ⟨rfl, hb⟩
  rw [← HU.out]
  have E3 := Lib.hid (blk_keep HB3.out hb (blk_lt HB3.out))
  have HB := Lib.hid (HAL.out.trans (hb.mono HAL.out.size))
  obtain ⟨f0, f1, f2, f3, f4, f5, f6, f7⟩ := rnf (x := rn0) E3.out
  obtain ⟨g0, g1, g2, g3, g4, g5, g6, g7⟩ := rn8 (x := rn0) E3.out
  clear hb HU
  go_wp2_with fail
  obtain ⟨h0, h1, h2, h3, h4, h5, h6, h7⟩ := rn8 (x := u) (set8 (u0 := .int .i64 (u).ph) (u1 := .int .i64 (u).be) (u2 := .int .i64 (u).mi) (u3 := .int .i64 (u).wa) (u4 := .bool (u).l0) (u5 := .bool (u).l1) (u6 := .bool (u).l2) (u7 := .bool (u).te) E3.out)
  refine bodyPost_ret (v := .tuple #[rnV u, .bool true]) (by simp [results, Try.results31, go_sem, h0, h1, h2, h3, h4, h5, h6, h7]) rfl ⟨rfl, ?_⟩
  exact below_set8 HB.out (by omega)
set_option maxRecDepth 100000 in
set_option maxHeartbeats 1000000 in
theorem next_1n (r : Ru) (ph be mi wa : Int) (l0 l1 l2 te : Bool) (G : GoodRules r) (h0 : ¬ ph = 0) (w : World) : Calls Try.prog 31 #[rnV ⟨ph, be, mi, wa, l0, l1, l2, te⟩, ruV r, .int .i64 1] w (RetNx none w) := by
  have t1 : (ph != 0) = true := by simp [h0]
  clear G h0
  go_enter Try.func31, Try.ntmps31
  go_wp2_with fail
  refine bodyPost_ret (v := .tuple #[rnV rn0, .bool false]) (by simp [results, Try.results31, go_sem, rn0]) rfl ⟨rfl, ba (below2 _ _ _)⟩
set_option maxRecDepth 100000 in
set_option maxHeartbeats 1000000 in
theorem next_2o (r : Ru) (ph be mi wa : Int) (l0 l1 l2 te : Bool) (G : GoodRules r) (h4 : inR ph 0 4 = false) (w : World) : Calls Try.prog 31 #[rnV ⟨ph, be, mi, wa, l0, l1, l2, te⟩, ruV r, .int .i64 2] w (RetNx none w) := by
  clear G
  go_enter Try.func31, Try.ntmps31
  go_wp2_with fail
  refine (in_any _ _ _ _).mono ?_
  rintro e w1 ⟨rfl, rfl⟩
  rw [h4]
  go_wp2_with fail
  refine bodyPost_ret (v := .tuple #[rnV rn0, .bool false]) (by simp [results, Try.results31, go_sem, rn0]) rfl ⟨rfl, ba (below2 _ _ _)⟩
set_option maxRecDepth 100000 in
set_option maxHeartbeats 1000000 in
theorem next_2s (r : Ru) (ph be mi wa : Int) (l0 l1 l2 te : Bool) (G : GoodRules r) (h4 : inR ph 0 4 = true) (w : World) : Calls Try.prog 31 #[rnV ⟨ph, be, mi, wa, true, l1, l2, te⟩, ruV r, .int .i64 2] w (RetNx none w) := by
  clear G
  go_enter Try.func31, Try.ntmps31
  go_wp2_with fail
  refine (in_any _ _ _ _).mono ?_
  rintro e w1 ⟨rfl, rfl⟩
  rw [h4]
  go_wp2_with fail
  refine bodyPost_ret (v := .tuple #[rnV rn0, .bool false]) (by simp [results, Try.results31, go_sem, rn0]) rfl ⟨rfl, ba (below2 _ _ _)⟩
set_option maxRecDepth 100000 in
set_option maxHeartbeats 1000000 in
theorem next_2 (r : Ru) (ph be mi wa : Int) (l0 l1 l2 te : Bool) (G : GoodRules r) (h4 : inR ph 0 4 = true) (w : World) : Calls Try.prog 31 #[rnV ⟨ph, be, mi, wa, false, l1, l2, te⟩, ruV r, .int .i64 2] w (RetNx (some (meet r ⟨ph, be, mi, wa, true, l1, l2, te⟩ 0)) w) := by
  have HG := Lib.hid G
  obtain ⟨u, hu⟩ : ∃ u, u = meet r ⟨ph, be, mi, wa, true, l1, l2, te⟩ 0 := ⟨_, rfl⟩
  have HU := Lib.hid hu
  rw [← hu]
  clear hu G
  go_enter Try.func31, Try.ntmps31
  go_wp2_with fail
  refine (in_any _ _ _ _).mono ?_
  rintro e w1 ⟨rfl, rfl⟩
  rw [h4]
  go_wp2_with fail
  generalize hW0 : ((w.alloc (.cells (rnA ⟨ph, be, mi, wa, true, l1, l2, te⟩) 30)).alloc (.cells (ruA r) 25)).alloc (.cells _ _) = W at *
  obtain ⟨hal, hB1, hB2, hB3, hWs⟩ := boxesM w _ _ _ _ W hW0.symm
  have HAL := Lib.hid hal
  have HB1 := Lib.hid hB1
  have HB2 := Lib.hid hB2
  have HB3 := Lib.hid hB3
  clear hW0 hal hB1 hB2 hB3 hWs
  refine (meet_any r ⟨ph, be, mi, wa, true, l1, l2, te⟩ 0 (by omega) HG.out _).mono ?_
  rintro e w1 ⟨rfl, hb⟩
  rw [← HU.out]
  have E1 := Lib.hid (blk_keep HB1.out hb (blk_lt HB1.out))
  have D3 := Lib.hid (blk_keep HB3.out hb (blk_lt HB3.out))
  have BB := Lib.hid (HAL.out.trans (hb.mono HAL.out.size))
  obtain ⟨f0, f1, f2, f3, f4, f5, f6, f7⟩ := rnf E1.out
  obtain ⟨g0, g1, g2, g3, g4, g5, g6, g7⟩ := rn8 E1.out
  have KV := set8 (u0 := .int .i64 u.ph) (u1 := .int .i64 u.be) (u2 := .int .i64 u.mi) (u3 := .int .i64 u.wa) (u4 := .bool u.l0) (u5 := .bool u.l1) (u6 := .bool u.l2) (u7 := .bool u.te) E1.out
  have E3 := Lib.hid (oth8 (u0 := .int .i64 u.ph) (u1 := .int .i64 u.be) (u2 := .int .i64 u.mi) (u3 := .int .i64 u.wa) (u4 := .bool u.l0) (u5 := .bool u.l1) (u6 := .bool u.l2) (u7 := .bool u.te) D3.out (show w.heap.size + 1 + 1 ≠ w.heap.size by omega))
  have HB := Lib.hid (below_set8 (u0 := .int .i64 u.ph) (u1 := .int .i64 u.be) (u2 := .int .i64 u.mi) (u3 := .int .i64 u.wa) (u4 := .bool u.l0) (u5 := .bool u.l1) (u6 := .bool u.l2) (u7 := .bool u.te) BB.out (Nat.le_refl w.heap.size))
  obtain ⟨x0, x1, x2, x3, x4, x5, x6, x7⟩ := rn8 (x := u) KV
  obtain ⟨y0, y1, y2, y3, y4, y5, y6, y7⟩ := rnf (x := rn0) E3.out
  obtain ⟨z0, z1, z2, z3, z4, z5, z6, z7⟩ := rn8 (x := rn0) E3.out
  clear hb HU KV
  go_wp2_with fail
  obtain ⟨h0, h1, h2, h3, h4, h5, h6, h7⟩ := rn8 (x := u) (set8 (u0 := .int .i64 (u).ph) (u1 := .int .i64 (u).be) (u2 := .int .i64 (u).mi) (u3 := .int .i64 (u).wa) (u4 := .bool (u).l0) (u5 := .bool (u).l1) (u6 := .bool (u).l2) (u7 := .bool (u).te) E3.out)
  refine bodyPost_ret (v := .tuple #[rnV u, .bool true]) (by simp [results, Try.results31, go_sem, h0, h1, h2, h3, h4, h5, h6, h7]) rfl ⟨rfl, ?_⟩
  exact below_set8 HB.out (by omega)
set_option maxRecDepth 100000 in
set_option maxHeartbeats 1000000 in
theorem next_3o (r : Ru) (ph be mi wa : Int) (l0 l1 l2 te : Bool) (G : GoodRules r) (h4 : inR ph 0 4 = false) (w : World) : Calls Try.prog 31 #[rnV ⟨ph, be, mi, wa, l0, l1, l2, te⟩, ruV r, .int .i64 3] w (RetNx none w) := by
  clear G
  go_enter Try.func31, Try.ntmps31
  go_wp2_with fail
  refine (in_any _ _ _ _).mono ?_
  rintro e w1 ⟨rfl, rfl⟩
  rw [h4]
  go_wp2_with fail
  refine bodyPost_ret (v := .tuple #[rnV rn0, .bool false]) (by simp [results, Try.results31, go_sem, rn0]) rfl ⟨rfl, ba (below2 _ _ _)⟩
set_option maxRecDepth 100000 in
set_option maxHeartbeats 1000000 in
theorem next_3s (r : Ru) (ph be mi wa : Int) (l0 l1 l2 te : Bool) (G : GoodRules r) (h4 : inR ph 0 4 = true) (w : World) : Calls Try.prog 31 #[rnV ⟨ph, be, mi, wa, false, l1, l2, te⟩, ruV r, .int .i64 3] w (RetNx none w) := by
  clear G
  go_enter Try.func31, Try.ntmps31
  go_wp2_with fail
  refine (in_any _ _ _ _).mono ?_
  rintro e w1 ⟨rfl, rfl⟩
  rw [h4]
  go_wp2_with fail
  refine bodyPost_ret (v := .tuple #[rnV rn0, .bool false]) (by simp [results, Try.results31, go_sem, rn0]) rfl ⟨rfl, ba (below2 _ _ _)⟩
set_option maxRecDepth 100000 in
set_option maxHeartbeats 1000000 in
theorem next_3n (r : Ru) (ph be mi wa : Int) (l0 l1 l2 te : Bool) (G : GoodRules r) (h4 : inR ph 0 4 = true) (hn : ¬ ph = 4) (w : World) : Calls Try.prog 31 #[rnV ⟨ph, be, mi, wa, true, l1, l2, te⟩, ruV r, .int .i64 3] w (RetNx (some ⟨ph, be, mi, wa, false, l1, l2, te⟩) w) := by
  have t1 : (ph == 4) = false := by simp [hn]
  clear G hn
  go_enter Try.func31, Try.ntmps31
  go_wp2_with fail
  refine (in_any _ _ _ _).mono ?_
  rintro e w1 ⟨rfl, rfl⟩
  rw [h4]
  go_wp2_with fail
  refine bodyPost_ret (v := .tuple #[rnV ⟨ph, be, mi, wa, false, l1, l2, te⟩, .bool true]) (by simp [results, Try.results31, go_sem]) rfl ⟨rfl, ba (below2 _ _ _)⟩
set_option maxRecDepth 100000 in
set_option maxHeartbeats 1000000 in
theorem next_3h (r : Ru) (be mi wa : Int) (l0 l1 l2 te : Bool) (G : GoodRules r) (hp : 1 ≤ be ∧ be ≤ 3) (hh : heldAt r ⟨4, be, mi, wa, false, l1, l2, te⟩ be = true) (w : World) : Calls Try.prog 31 #[rnV ⟨4, be, mi, wa, true, l1, l2, te⟩, ruV r, .int .i64 3] w (RetNx (some ⟨4, be, mi, wa, false, l1, l2, te⟩) w) := by
  have HP := Lib.hid hp
  have HH := Lib.hid hh
  clear G hp hh
  go_enter Try.func31, Try.ntmps31
  go_wp2_with fail
  refine (in_any _ _ _ _).mono ?_
  rintro e w1 ⟨rfl, rfl⟩
  rw [show inR 4 0 4 = true from rfl]
  go_wp2_with fail
  refine (held_any r ⟨4, be, mi, wa, false, l1, l2, te⟩ HP.out _).mono ?_
  rintro e w1 ⟨rfl, rfl⟩
  rw [HH.out]
  go_wp2_with fail
  refine bodyPost_ret (v := .tuple #[rnV ⟨4, be, mi, wa, false, l1, l2, te⟩, .bool true]) (by simp [results, Try.results31, go_sem]) rfl ⟨rfl, ba (ba (ba (below2 _ _ _)))⟩
set_option maxRecDepth 100000 in
set_option maxHeartbeats 1000000 in
theorem next_3u (r : Ru) (be mi wa : Int) (l0 l1 l2 te : Bool) (G : GoodRules r) (hp : 1 ≤ be ∧ be ≤ 3) (hh : heldAt r ⟨4, be, mi, wa, false, l1, l2, te⟩ be = false) (w : World) : Calls Try.prog 31 #[rnV ⟨4, be, mi, wa, true, l1, l2, te⟩, ruV r, .int .i64 3] w (RetNx (some ⟨be, 0, mi, 0, false, l1, l2, te⟩) w) := by
  have HP := Lib.hid hp
  have HH := Lib.hid hh
  clear G hp hh
  go_enter Try.func31, Try.ntmps31
  go_wp2_with fail
  refine (in_any _ _ _ _).mono ?_
  rintro e w1 ⟨rfl, rfl⟩
  rw [show inR 4 0 4 = true from rfl]
  go_wp2_with fail
  refine (held_any r ⟨4, be, mi, wa, false, l1, l2, te⟩ HP.out _).mono ?_
  rintro e w1 ⟨rfl, rfl⟩
  rw [HH.out]
  go_wp2_with fail
  refine bodyPost_ret (v := .tuple #[rnV ⟨be, 0, mi, 0, false, l1, l2, te⟩, .bool true]) (by simp [results, Try.results31, go_sem]) rfl ⟨rfl, ba (ba (ba (below2 _ _ _)))⟩
set_option maxRecDepth 100000 in
set_option maxHeartbeats 1000000 in
theorem next_4o (r : Ru) (ph be mi wa : Int) (l0 l1 l2 te : Bool) (G : GoodRules r) (h4 : inR ph 0 4 = false) (w : World) : Calls Try.prog 31 #[rnV ⟨ph, be, mi, wa, l0, l1, l2, te⟩, ruV r, .int .i64 4] w (RetNx none w) := by
  clear G
  go_enter Try.func31, Try.ntmps31
  go_wp2_with fail
  refine (in_any _ _ _ _).mono ?_
  rintro e w1 ⟨rfl, rfl⟩
  rw [h4]
  go_wp2_with fail
  refine bodyPost_ret (v := .tuple #[rnV rn0, .bool false]) (by simp [results, Try.results31, go_sem, rn0]) rfl ⟨rfl, ba (below2 _ _ _)⟩
set_option maxRecDepth 100000 in
set_option maxHeartbeats 1000000 in
theorem next_4s (r : Ru) (ph be mi wa : Int) (l0 l2 te : Bool) (G : GoodRules r) (h4 : inR ph 0 4 = true) (w : World) : Calls Try.prog 31 #[rnV ⟨ph, be, mi, wa, l0, true, l2, te⟩, ruV r, .int .i64 4] w (RetNx none w) := by
  clear G
  go_enter Try.func31, Try.ntmps31
  go_wp2_with fail
  refine (in_any _ _ _ _).mono ?_
  rintro e w1 ⟨rfl, rfl⟩
  rw [h4]
  go_wp2_with fail
  refine bodyPost_ret (v := .tuple #[rnV rn0, .bool false]) (by simp [results, Try.results31, go_sem, rn0]) rfl ⟨rfl, ba (below2 _ _ _)⟩
set_option maxRecDepth 100000 in
set_option maxHeartbeats 1000000 in
theorem next_4 (r : Ru) (ph be mi wa : Int) (l0 l2 te : Bool) (G : GoodRules r) (h4 : inR ph 0 4 = true) (w : World) : Calls Try.prog 31 #[rnV ⟨ph, be, mi, wa, l0, false, l2, te⟩, ruV r, .int .i64 4] w (RetNx (some (meet r ⟨ph, be, mi, wa, l0, true, l2, te⟩ 1)) w) := by
  have HG := Lib.hid G
  obtain ⟨u, hu⟩ : ∃ u, u = meet r ⟨ph, be, mi, wa, l0, true, l2, te⟩ 1 := ⟨_, rfl⟩
  have HU := Lib.hid hu
  rw [← hu]
  clear hu G
  go_enter Try.func31, Try.ntmps31
  go_wp2_with fail
  refine (in_any _ _ _ _).mono ?_
  rintro e w1 ⟨rfl, rfl⟩
  rw [h4]
  go_wp2_with fail
  generalize hW0 : ((w.alloc (.cells (rnA ⟨ph, be, mi, wa, l0, true, l2, te⟩) 30)).alloc (.cells (ruA r) 25)).alloc (.cells _ _) = W at *
  obtain ⟨hal, hB1, hB2, hB3, hWs⟩ := boxesM w _ _ _ _ W hW0.symm
  have HAL := Lib.hid hal
  have HB1 := Lib.hid hB1
  have HB2 := Lib.hid hB2
  have HB3 := Lib.hid hB3
  clear hW0 hal hB1 hB2 hB3 hWs
  refine (meet_any r ⟨ph, be, mi, wa, l0, true, l2, te⟩ 1 (by omega) HG.out _).mono ?_
  rintro e w1 ⟨rfl, hb⟩
  rw [← HU.out]
  have E1 := Lib.hid (blk_keep HB1.out hb (blk_lt HB1.out))
  have D3 := Lib.hid (blk_keep HB3.out hb (blk_lt HB3.out))
  have BB := Lib.hid (HAL.out.trans (hb.mono HAL.out.size))
  obtain ⟨f0, f1, f2, f3, f4, f5, f6, f7⟩ := rnf E1.out
  obtain ⟨g0, g1, g2, g3, g4, g5, g6, g7⟩ := rn8 E1.out
  have KV := set8 (u0 := .int .i64 u.ph) (u1 := .int .i64 u.be) (u2 := .int .i64 u.mi) (u3 := .int .i64 u.wa) (u4 := .bool u.l0) (u5 := .bool u.l1) (u6 := .bool u.l2) (u7 := .bool u.te) E1.out
  have E3 := Lib.hid (oth8 (u0 := .int .i64 u.ph) (u1 := .int .i64 u.be) (u2 := .int .i64 u.mi) (u3 := .int .i64 u.wa) (u4 := .bool u.l0) (u5 := .bool u.l1) (u6 := .bool u.l2) (u7 := .bool u.te) D3.out (show w.heap.size + 1 + 1 ≠ w.heap.size by omega))
  have HB := Lib.hid (below_set8 (u0 := .int .i64 u.ph) (u1 := .int .i64 u.be) (u2 := .int .i64 u.mi) (u3 := .int .i64 u.wa) (u4 := .bool u.l0) (u5 := .bool u.l1) (u6 := .bool u.l2) (u7 := .bool u.te) BB.out (Nat.le_refl w.heap.size))
  obtain ⟨x0, x1, x2, x3, x4, x5, x6, x7⟩ := rn8 (x := u) KV
  obtain ⟨y0, y1, y2, y3, y4, y5, y6, y7⟩ := rnf (x := rn0) E3.out
  obtain ⟨z0, z1, z2, z3, z4, z5, z6, z7⟩ := rn8 (x := rn0) E3.out
  clear hb HU KV
  go_wp2_with fail
  obtain ⟨h0, h1, h2, h3, h4, h5, h6, h7⟩ := rn8 (x := u) (set8 (u0 := .int .i64 (u).ph) (u1 := .int .i64 (u).be) (u2 := .int .i64 (u).mi) (u3 := .int .i64 (u).wa) (u4 := .bool (u).l0) (u5 := .bool (u).l1) (u6 := .bool (u).l2) (u7 := .bool (u).te) E3.out)
  refine bodyPost_ret (v := .tuple #[rnV u, .bool true]) (by simp [results, Try.results31, go_sem, h0, h1, h2, h3, h4, h5, h6, h7]) rfl ⟨rfl, ?_⟩
  exact below_set8 HB.out (by omega)
set_option maxRecDepth 100000 in
set_option maxHeartbeats 1000000 in
theorem next_5o (r : Ru) (ph be mi wa : Int) (l0 l1 l2 te : Bool) (G : GoodRules r) (h4 : inR ph 0 4 = false) (w : World) : Calls Try.prog 31 #[rnV ⟨ph, be, mi, wa, l0, l1, l2, te⟩, ruV r, .int .i64 5] w (RetNx none w) := by
  clear G
  go_enter Try.func31, Try.ntmps31
  go_wp2_with fail
  refine (in_any _ _ _ _).mono ?_
  rintro e w1 ⟨rfl, rfl⟩
  rw [h4]
  go_wp2_with fail
  refine bodyPost_ret (v := .tuple #[rnV rn0, .bool false]) (by simp [results, Try.results31, go_sem, rn0]) rfl ⟨rfl, ba (below2 _ _ _)⟩
set_option maxRecDepth 100000 in
set_option maxHeartbeats 1000000 in
theorem next_5s (r : Ru) (ph be mi wa : Int) (l0 l2 te : Bool) (G : GoodRules r) (h4 : inR ph 0 4 = true) (w : World) : Calls Try.prog 31 #[rnV ⟨ph, be, mi, wa, l0, false, l2, te⟩, ruV r, .int .i64 5] w (RetNx none w) := by
  clear G
  go_enter Try.func31, Try.ntmps31
  go_wp2_with fail
  refine (in_any _ _ _ _).mono ?_
  rintro e w1 ⟨rfl, rfl⟩
  rw [h4]
  go_wp2_with fail
  refine bodyPost_ret (v := .tuple #[rnV rn0, .bool false]) (by simp [results, Try.results31, go_sem, rn0]) rfl ⟨rfl, ba (below2 _ _ _)⟩
set_option maxRecDepth 100000 in
set_option maxHeartbeats 1000000 in
theorem next_5n (r : Ru) (ph be mi wa : Int) (l0 l2 te : Bool) (G : GoodRules r) (h4 : inR ph 0 4 = true) (hn : ¬ ph = 4) (w : World) : Calls Try.prog 31 #[rnV ⟨ph, be, mi, wa, l0, true, l2, te⟩, ruV r, .int .i64 5] w (RetNx (some ⟨ph, be, mi, wa, l0, false, l2, te⟩) w) := by
  have t1 : (ph == 4) = false := by simp [hn]
  clear G hn
  go_enter Try.func31, Try.ntmps31
  go_wp2_with fail
  refine (in_any _ _ _ _).mono ?_
  rintro e w1 ⟨rfl, rfl⟩
  rw [h4]
  go_wp2_with fail
  refine bodyPost_ret (v := .tuple #[rnV ⟨ph, be, mi, wa, l0, false, l2, te⟩, .bool true]) (by simp [results, Try.results31, go_sem]) rfl ⟨rfl, ba (below2 _ _ _)⟩
set_option maxRecDepth 100000 in
set_option maxHeartbeats 1000000 in
theorem next_5h (r : Ru) (be mi wa : Int) (l0 l2 te : Bool) (G : GoodRules r) (hp : 1 ≤ be ∧ be ≤ 3) (hh : heldAt r ⟨4, be, mi, wa, l0, false, l2, te⟩ be = true) (w : World) : Calls Try.prog 31 #[rnV ⟨4, be, mi, wa, l0, true, l2, te⟩, ruV r, .int .i64 5] w (RetNx (some ⟨4, be, mi, wa, l0, false, l2, te⟩) w) := by
  have HP := Lib.hid hp
  have HH := Lib.hid hh
  clear G hp hh
  go_enter Try.func31, Try.ntmps31
  go_wp2_with fail
  refine (in_any _ _ _ _).mono ?_
  rintro e w1 ⟨rfl, rfl⟩
  rw [show inR 4 0 4 = true from rfl]
  go_wp2_with fail
  refine (held_any r ⟨4, be, mi, wa, l0, false, l2, te⟩ HP.out _).mono ?_
  rintro e w1 ⟨rfl, rfl⟩
  rw [HH.out]
  go_wp2_with fail
  refine bodyPost_ret (v := .tuple #[rnV ⟨4, be, mi, wa, l0, false, l2, te⟩, .bool true]) (by simp [results, Try.results31, go_sem]) rfl ⟨rfl, ba (ba (ba (below2 _ _ _)))⟩
set_option maxRecDepth 100000 in
set_option maxHeartbeats 1000000 in
theorem next_5u (r : Ru) (be mi wa : Int) (l0 l2 te : Bool) (G : GoodRules r) (hp : 1 ≤ be ∧ be ≤ 3) (hh : heldAt r ⟨4, be, mi, wa, l0, false, l2, te⟩ be = false) (w : World) : Calls Try.prog 31 #[rnV ⟨4, be, mi, wa, l0, true, l2, te⟩, ruV r, .int .i64 5] w (RetNx (some ⟨be, 0, mi, 0, l0, false, l2, te⟩) w) := by
  have HP := Lib.hid hp
  have HH := Lib.hid hh
  clear G hp hh
  go_enter Try.func31, Try.ntmps31
  go_wp2_with fail
  refine (in_any _ _ _ _).mono ?_
  rintro e w1 ⟨rfl, rfl⟩
  rw [show inR 4 0 4 = true from rfl]
  go_wp2_with fail
  refine (held_any r ⟨4, be, mi, wa, l0, false, l2, te⟩ HP.out _).mono ?_
  rintro e w1 ⟨rfl, rfl⟩
  rw [HH.out]
  go_wp2_with fail
  refine bodyPost_ret (v := .tuple #[rnV ⟨be, 0, mi, 0, l0, false, l2, te⟩, .bool true]) (by simp [results, Try.results31, go_sem]) rfl ⟨rfl, ba (ba (ba (below2 _ _ _)))⟩
set_option maxRecDepth 100000 in
set_option maxHeartbeats 1000000 in
theorem next_6o (r : Ru) (ph be mi wa : Int) (l0 l1 l2 te : Bool) (G : GoodRules r) (h4 : inR ph 0 4 = false) (w : World) : Calls Try.prog 31 #[rnV ⟨ph, be, mi, wa, l0, l1, l2, te⟩, ruV r, .int .i64 6] w (RetNx none w) := by
  clear G
  go_enter Try.func31, Try.ntmps31
  go_wp2_with fail
  refine (in_any _ _ _ _).mono ?_
  rintro e w1 ⟨rfl, rfl⟩
  rw [h4]
  go_wp2_with fail
  refine bodyPost_ret (v := .tuple #[rnV rn0, .bool false]) (by simp [results, Try.results31, go_sem, rn0]) rfl ⟨rfl, ba (below2 _ _ _)⟩
set_option maxRecDepth 100000 in
set_option maxHeartbeats 1000000 in
theorem next_6s (r : Ru) (ph be mi wa : Int) (l0 l1 te : Bool) (G : GoodRules r) (h4 : inR ph 0 4 = true) (w : World) : Calls Try.prog 31 #[rnV ⟨ph, be, mi, wa, l0, l1, true, te⟩, ruV r, .int .i64 6] w (RetNx none w) := by
  clear G
  go_enter Try.func31, Try.ntmps31
  go_wp2_with fail
  refine (in_any _ _ _ _).mono ?_
  rintro e w1 ⟨rfl, rfl⟩
  rw [h4]
  go_wp2_with fail
  refine bodyPost_ret (v := .tuple #[rnV rn0, .bool false]) (by simp [results, Try.results31, go_sem, rn0]) rfl ⟨rfl, ba (below2 _ _ _)⟩
set_option maxRecDepth 100000 in
set_option maxHeartbeats 1000000 in
theorem next_6 (r : Ru) (ph be mi wa : Int) (l0 l1 te : Bool) (G : GoodRules r) (h4 : inR ph 0 4 = true) (w : World) : Calls Try.prog 31 #[rnV ⟨ph, be, mi, wa, l0, l1, false, te⟩, ruV r, .int .i64 6] w (RetNx (some (meet r ⟨ph, be, mi, wa, l0, l1, true, te⟩ 2)) w) := by
  have HG := Lib.hid G
  obtain ⟨u, hu⟩ : ∃ u, u = meet r ⟨ph, be, mi, wa, l0, l1, true, te⟩ 2 := ⟨_, rfl⟩
  have HU := Lib.hid hu
  rw [← hu]
  clear hu G
  go_enter Try.func31, Try.ntmps31
  go_wp2_with fail
  refine (in_any _ _ _ _).mono ?_
  rintro e w1 ⟨rfl, rfl⟩
  rw [h4]
  go_wp2_with fail
  generalize hW0 : ((w.alloc (.cells (rnA ⟨ph, be, mi, wa, l0, l1, true, te⟩) 30)).alloc (.cells (ruA r) 25)).alloc (.cells _ _) = W at *
  obtain ⟨hal, hB1, hB2, hB3, hWs⟩ := boxesM w _ _ _ _ W hW0.symm
  have HAL := Lib.hid hal
  have HB1 := Lib.hid hB1
  have HB2 := Lib.hid hB2
  have HB3 := Lib.hid hB3
  clear hW0 hal hB1 hB2 hB3 hWs
  refine (meet_any r ⟨ph, be, mi, wa, l0, l1, true, te⟩ 2 (by omega) HG.out _).mono ?_
  rintro e w1 ⟨rfl, hb⟩
  rw [← HU.out]
  have E1 := Lib.hid (blk_keep HB1.out hb (blk_lt HB1.out))
  have D3 := Lib.hid (blk_keep HB3.out hb (blk_lt HB3.out))
  have BB := Lib.hid (HAL.out.trans (hb.mono HAL.out.size))
  obtain ⟨f0, f1, f2, f3, f4, f5, f6, f7⟩ := rnf E1.out
  obtain ⟨g0, g1, g2, g3, g4, g5, g6, g7⟩ := rn8 E1.out
  have KV := set8 (u0 := .int .i64 u.ph) (u1 := .int .i64 u.be) (u2 := .int .i64 u.mi) (u3 := .int .i64 u.wa) (u4 := .bool u.l0) (u5 := .bool u.l1) (u6 := .bool u.l2) (u7 := .bool u.te) E1.out
  have E3 := Lib.hid (oth8 (u0 := .int .i64 u.ph) (u1 := .int .i64 u.be) (u2 := .int .i64 u.mi) (u3 := .int .i64 u.wa) (u4 := .bool u.l0) (u5 := .bool u.l1) (u6 := .bool u.l2) (u7 := .bool u.te) D3.out (show w.heap.size + 1 + 1 ≠ w.heap.size by omega))
  have HB := Lib.hid (below_set8 (u0 := .int .i64 u.ph) (u1 := .int .i64 u.be) (u2 := .int .i64 u.mi) (u3 := .int .i64 u.wa) (u4 := .bool u.l0) (u5 := .bool u.l1) (u6 := .bool u.l2) (u7 := .bool u.te) BB.out (Nat.le_refl w.heap.size))
  obtain ⟨x0, x1, x2, x3, x4, x5, x6, x7⟩ := rn8 (x := u) KV
  obtain ⟨y0, y1, y2, y3, y4, y5, y6, y7⟩ := rnf (x := rn0) E3.out
  obtain ⟨z0, z1, z2, z3, z4, z5, z6, z7⟩ := rn8 (x := rn0) E3.out
  clear hb HU KV
  go_wp2_with fail
  obtain ⟨h0, h1, h2, h3, h4, h5, h6, h7⟩ := rn8 (x := u) (set8 (u0 := .int .i64 (u).ph) (u1 := .int .i64 (u).be) (u2 := .int .i64 (u).mi) (u3 := .int .i64 (u).wa) (u4 := .bool (u).l0) (u5 := .bool (u).l1) (u6 := .bool (u).l2) (u7 := .bool (u).te) E3.out)
  refine bodyPost_ret (v := .tuple #[rnV u, .bool true]) (by simp [results, Try.results31, go_sem, h0, h1, h2, h3, h4, h5, h6, h7]) rfl ⟨rfl, ?_⟩
  exact below_set8 HB.out (by omega)
set_option maxRecDepth 100000 in
set_option maxHeartbeats 1000000 in
theorem next_7o (r : Ru) (ph be mi wa : Int) (l0 l1 l2 te : Bool) (G : GoodRules r) (h4 : inR ph 0 4 = false) (w : World) : Calls Try.prog 31 #[rnV ⟨ph, be, mi, wa, l0, l1, l2, te⟩, ruV r, .int .i64 7] w (RetNx none w) := by
  clear G
  go_enter Try.func31, Try.ntmps31
  go_wp2_with fail
  refine (in_any _ _ _ _).mono ?_
  rintro e w1 ⟨rfl, rfl⟩
  rw [h4]
  go_wp2_with fail
  refine bodyPost_ret (v := .tuple #[rnV rn0, .bool false]) (by simp [results, Try.results31, go_sem, rn0]) rfl ⟨rfl, ba (below2 _ _ _)⟩
set_option maxRecDepth 100000 in
set_option maxHeartbeats 1000000 in
theorem next_7s (r : Ru) (ph be mi wa : Int) (l0 l1 te : Bool) (G : GoodRules r) (h4 : inR ph 0 4 = true) (w : World) : Calls Try.prog 31 #[rnV ⟨ph, be, mi, wa, l0, l1, false, te⟩, ruV r, .int .i64 7] w (RetNx none w) := by
  clear G
  go_enter Try.func31, Try.ntmps31
  go_wp2_with fail
  refine (in_any _ _ _ _).mono ?_
  rintro e w1 ⟨rfl, rfl⟩
  rw [h4]
  go_wp2_with fail
  refine bodyPost_ret (v := .tuple #[rnV rn0, .bool false]) (by simp [results, Try.results31, go_sem, rn0]) rfl ⟨rfl, ba (below2 _ _ _)⟩
set_option maxRecDepth 100000 in
set_option maxHeartbeats 1000000 in
theorem next_7n (r : Ru) (ph be mi wa : Int) (l0 l1 te : Bool) (G : GoodRules r) (h4 : inR ph 0 4 = true) (hn : ¬ ph = 4) (w : World) : Calls Try.prog 31 #[rnV ⟨ph, be, mi, wa, l0, l1, true, te⟩, ruV r, .int .i64 7] w (RetNx (some ⟨ph, be, mi, wa, l0, l1, false, te⟩) w) := by
  have t1 : (ph == 4) = false := by simp [hn]
  clear G hn
  go_enter Try.func31, Try.ntmps31
  go_wp2_with fail
  refine (in_any _ _ _ _).mono ?_
  rintro e w1 ⟨rfl, rfl⟩
  rw [h4]
  go_wp2_with fail
  refine bodyPost_ret (v := .tuple #[rnV ⟨ph, be, mi, wa, l0, l1, false, te⟩, .bool true]) (by simp [results, Try.results31, go_sem]) rfl ⟨rfl, ba (below2 _ _ _)⟩
set_option maxRecDepth 100000 in
set_option maxHeartbeats 1000000 in
theorem next_7h (r : Ru) (be mi wa : Int) (l0 l1 te : Bool) (G : GoodRules r) (hp : 1 ≤ be ∧ be ≤ 3) (hh : heldAt r ⟨4, be, mi, wa, l0, l1, false, te⟩ be = true) (w : World) : Calls Try.prog 31 #[rnV ⟨4, be, mi, wa, l0, l1, true, te⟩, ruV r, .int .i64 7] w (RetNx (some ⟨4, be, mi, wa, l0, l1, false, te⟩) w) := by
  have HP := Lib.hid hp
  have HH := Lib.hid hh
  clear G hp hh
  go_enter Try.func31, Try.ntmps31
  go_wp2_with fail
  refine (in_any _ _ _ _).mono ?_
  rintro e w1 ⟨rfl, rfl⟩
  rw [show inR 4 0 4 = true from rfl]
  go_wp2_with fail
  refine (held_any r ⟨4, be, mi, wa, l0, l1, false, te⟩ HP.out _).mono ?_
  rintro e w1 ⟨rfl, rfl⟩
  rw [HH.out]
  go_wp2_with fail
  refine bodyPost_ret (v := .tuple #[rnV ⟨4, be, mi, wa, l0, l1, false, te⟩, .bool true]) (by simp [results, Try.results31, go_sem]) rfl ⟨rfl, ba (ba (ba (below2 _ _ _)))⟩
set_option maxRecDepth 100000 in
set_option maxHeartbeats 1000000 in
theorem next_7u (r : Ru) (be mi wa : Int) (l0 l1 te : Bool) (G : GoodRules r) (hp : 1 ≤ be ∧ be ≤ 3) (hh : heldAt r ⟨4, be, mi, wa, l0, l1, false, te⟩ be = false) (w : World) : Calls Try.prog 31 #[rnV ⟨4, be, mi, wa, l0, l1, true, te⟩, ruV r, .int .i64 7] w (RetNx (some ⟨be, 0, mi, 0, l0, l1, false, te⟩) w) := by
  have HP := Lib.hid hp
  have HH := Lib.hid hh
  clear G hp hh
  go_enter Try.func31, Try.ntmps31
  go_wp2_with fail
  refine (in_any _ _ _ _).mono ?_
  rintro e w1 ⟨rfl, rfl⟩
  rw [show inR 4 0 4 = true from rfl]
  go_wp2_with fail
  refine (held_any r ⟨4, be, mi, wa, l0, l1, false, te⟩ HP.out _).mono ?_
  rintro e w1 ⟨rfl, rfl⟩
  rw [HH.out]
  go_wp2_with fail
  refine bodyPost_ret (v := .tuple #[rnV ⟨be, 0, mi, 0, l0, l1, false, te⟩, .bool true]) (by simp [results, Try.results31, go_sem]) rfl ⟨rfl, ba (ba (ba (below2 _ _ _)))⟩
end Go.Proofs.Ytmfochplnchgcaa

/- THE WALKS of Run.next (all events) and cure.CheckRules; printed by wip/tools/gen_ck.py. -/
namespace Go.Proofs.Ytmfochplnchgcaa
open Go.RowKit

theorem next_any (r : Ru) (x : Rn) (e : Int) (G : GoodRules r) (hR : Right r x) (he : 0 ≤ e ∧ e ≤ 7) (w : World) : Calls Try.prog 31 #[rnV x, ruV r, .int .i64 e] w (RetNx (next r x e) w) := by
  obtain ⟨ph, be, mi, wa, l0, l1, l2, te⟩ := x
  rcases (show e = 0 ∨ e = 1 ∨ e = 2 ∨ e = 3 ∨ e = 4 ∨ e = 5 ∨ e = 6 ∨ e = 7 by omega) with rfl | rfl | rfl | rfl | rfl | rfl | rfl | rfl
  · exact next_0 r ph be mi wa l0 l1 l2 te G hR w
  · by_cases h0 : ph = 0
    · have e1 : next r ⟨ph, be, mi, wa, l0, l1, l2, te⟩ 1 = some (begin r ⟨ph, be, mi, wa, l0, l1, l2, false⟩ 1) := by unfold next; rw [if_neg (by decide), if_pos rfl, if_pos h0]
      rw [e1]
      exact next_1 r ph be mi wa l0 l1 l2 te G h0 w
    · have e1 : next r ⟨ph, be, mi, wa, l0, l1, l2, te⟩ 1 = none := by unfold next; rw [if_neg (by decide), if_pos rfl, if_neg h0]
      rw [e1]
      exact next_1n r ph be mi wa l0 l1 l2 te G h0 w
  · cases h4 : inR ph 0 4 with
    | false =>
      have e1 : next r ⟨ph, be, mi, wa, l0, l1, l2, te⟩ 2 = none := by unfold next; rw [if_neg (by decide), if_neg (by decide), if_pos (Or.inl h4)]
      rw [e1]
      exact next_2o r ph be mi wa l0 l1 l2 te G h4 w
    | true =>
      cases l0 with
      | true =>
        have e1 : next r ⟨ph, be, mi, wa, true, l1, l2, te⟩ 2 = none := by unfold next; rw [if_neg (by decide), if_neg (by decide), if_pos (Or.inr (by rfl))]
        rw [e1]
        exact next_2s r ph be mi wa true l1 l2 te G h4 w
      | false =>
        have hno : ¬ (inR ph 0 4 = false ∨ Rn.lost ⟨ph, be, mi, wa, false, l1, l2, te⟩ (dOf 2) = lostOf 2) := by
          rw [h4]
          rintro (h | h)
          · cases h
          · exact absurd h (by show ¬ false = true; decide)
        have e1 : next r ⟨ph, be, mi, wa, false, l1, l2, te⟩ 2 = some (meet r ⟨ph, be, mi, wa, true, l1, l2, te⟩ 0) := by unfold next; rw [if_neg (by decide), if_neg (by decide), if_neg hno, if_pos (by decide)]; rfl
        rw [e1]
        exact next_2 r ph be mi wa true l1 l2 te G h4 w
  · cases h4 : inR ph 0 4 with
    | false =>
      have e1 : next r ⟨ph, be, mi, wa, l0, l1, l2, te⟩ 3 = none := by unfold next; rw [if_neg (by decide), if_neg (by decide), if_pos (Or.inl h4)]
      rw [e1]
      exact next_3o r ph be mi wa l0 l1 l2 te G h4 w
    | true =>
      cases l0 with
      | false =>
        have e1 : next r ⟨ph, be, mi, wa, false, l1, l2, te⟩ 3 = none := by unfold next; rw [if_neg (by decide), if_neg (by decide), if_pos (Or.inr (by rfl))]
        rw [e1]
        exact next_3s r ph be mi wa true l1 l2 te G h4 w
      | true =>
        have hno : ¬ (inR ph 0 4 = false ∨ Rn.lost ⟨ph, be, mi, wa, true, l1, l2, te⟩ (dOf 3) = lostOf 3) := by
          rw [h4]
          rintro (h | h)
          · cases h
          · exact absurd h (by show ¬ true = false; decide)
        have e1 : next r ⟨ph, be, mi, wa, true, l1, l2, te⟩ 3 = some (unheld r ⟨ph, be, mi, wa, false, l1, l2, te⟩) := by unfold next; rw [if_neg (by decide), if_neg (by decide), if_neg hno, if_neg (by decide)]; rfl
        rw [e1]
        by_cases hp : ph = 4
        · subst hp
          have hbe : 1 ≤ be ∧ be ≤ 3 := by
            rcases hR with ⟨_, h, _⟩ | ⟨_, _, h, _⟩ | ⟨_, _, _, h⟩
            · exact h
            · have : (1 : Int) ≤ 4 ∧ (4 : Int) ≤ 3 := h
              omega
            · have : (4 : Int) = 0 ∨ (4 : Int) = 5 ∨ (4 : Int) = 6 ∨ (4 : Int) = 7 := h
              omega
          cases hh : heldAt r ⟨4, be, mi, wa, false, l1, l2, te⟩ be with
          | true =>
            have e2 : unheld r ⟨4, be, mi, wa, false, l1, l2, te⟩ = ⟨4, be, mi, wa, false, l1, l2, te⟩ := by unfold unheld; rw [if_neg (by rintro ⟨_, h⟩; rw [show heldAt r ⟨4, be, mi, wa, false, l1, l2, te⟩ be = true from hh] at h; cases h)]
            rw [e2]
            exact next_3h r be mi wa true l1 l2 te G hbe hh w
          | false =>
            have e2 : unheld r ⟨4, be, mi, wa, false, l1, l2, te⟩ = ⟨be, 0, mi, 0, false, l1, l2, te⟩ := by unfold unheld; rw [if_pos ⟨rfl, hh⟩]
            rw [e2]
            exact next_3u r be mi wa true l1 l2 te G hbe hh w
        · have e2 : unheld r ⟨ph, be, mi, wa, false, l1, l2, te⟩ = ⟨ph, be, mi, wa, false, l1, l2, te⟩ := by unfold unheld; rw [if_neg (fun h => hp h.1)]
          rw [e2]
          exact next_3n r ph be mi wa true l1 l2 te G h4 hp w
  · cases h4 : inR ph 0 4 with
    | false =>
      have e1 : next r ⟨ph, be, mi, wa, l0, l1, l2, te⟩ 4 = none := by unfold next; rw [if_neg (by decide), if_neg (by decide), if_pos (Or.inl h4)]
      rw [e1]
      exact next_4o r ph be mi wa l0 l1 l2 te G h4 w
    | true =>
      cases l1 with
      | true =>
        have e1 : next r ⟨ph, be, mi, wa, l0, true, l2, te⟩ 4 = none := by unfold next; rw [if_neg (by decide), if_neg (by decide), if_pos (Or.inr (by rfl))]
        rw [e1]
        exact next_4s r ph be mi wa l0 l2 te G h4 w
      | false =>
        have hno : ¬ (inR ph 0 4 = false ∨ Rn.lost ⟨ph, be, mi, wa, l0, false, l2, te⟩ (dOf 4) = lostOf 4) := by
          rw [h4]
          rintro (h | h)
          · cases h
          · exact absurd h (by show ¬ false = true; decide)
        have e1 : next r ⟨ph, be, mi, wa, l0, false, l2, te⟩ 4 = some (meet r ⟨ph, be, mi, wa, l0, true, l2, te⟩ 1) := by unfold next; rw [if_neg (by decide), if_neg (by decide), if_neg hno, if_pos (by decide)]; rfl
        rw [e1]
        exact next_4 r ph be mi wa l0 l2 te G h4 w
  · cases h4 : inR ph 0 4 with
    | false =>
      have e1 : next r ⟨ph, be, mi, wa, l0, l1, l2, te⟩ 5 = none := by unfold next; rw [if_neg (by decide), if_neg (by decide), if_pos (Or.inl h4)]
      rw [e1]
      exact next_5o r ph be mi wa l0 l1 l2 te G h4 w
    | true =>
      cases l1 with
      | false =>
        have e1 : next r ⟨ph, be, mi, wa, l0, false, l2, te⟩ 5 = none := by unfold next; rw [if_neg (by decide), if_neg (by decide), if_pos (Or.inr (by rfl))]
        rw [e1]
        exact next_5s r ph be mi wa l0 l2 te G h4 w
      | true =>
        have hno : ¬ (inR ph 0 4 = false ∨ Rn.lost ⟨ph, be, mi, wa, l0, true, l2, te⟩ (dOf 5) = lostOf 5) := by
          rw [h4]
          rintro (h | h)
          · cases h
          · exact absurd h (by show ¬ true = false; decide)
        have e1 : next r ⟨ph, be, mi, wa, l0, true, l2, te⟩ 5 = some (unheld r ⟨ph, be, mi, wa, l0, false, l2, te⟩) := by unfold next; rw [if_neg (by decide), if_neg (by decide), if_neg hno, if_neg (by decide)]; rfl
        rw [e1]
        by_cases hp : ph = 4
        · subst hp
          have hbe : 1 ≤ be ∧ be ≤ 3 := by
            rcases hR with ⟨_, h, _⟩ | ⟨_, _, h, _⟩ | ⟨_, _, _, h⟩
            · exact h
            · have : (1 : Int) ≤ 4 ∧ (4 : Int) ≤ 3 := h
              omega
            · have : (4 : Int) = 0 ∨ (4 : Int) = 5 ∨ (4 : Int) = 6 ∨ (4 : Int) = 7 := h
              omega
          cases hh : heldAt r ⟨4, be, mi, wa, l0, false, l2, te⟩ be with
          | true =>
            have e2 : unheld r ⟨4, be, mi, wa, l0, false, l2, te⟩ = ⟨4, be, mi, wa, l0, false, l2, te⟩ := by unfold unheld; rw [if_neg (by rintro ⟨_, h⟩; rw [show heldAt r ⟨4, be, mi, wa, l0, false, l2, te⟩ be = true from hh] at h; cases h)]
            rw [e2]
            exact next_5h r be mi wa l0 l2 te G hbe hh w
          | false =>
            have e2 : unheld r ⟨4, be, mi, wa, l0, false, l2, te⟩ = ⟨be, 0, mi, 0, l0, false, l2, te⟩ := by unfold unheld; rw [if_pos ⟨rfl, hh⟩]
            rw [e2]
            exact next_5u r be mi wa l0 l2 te G hbe hh w
        · have e2 : unheld r ⟨ph, be, mi, wa, l0, false, l2, te⟩ = ⟨ph, be, mi, wa, l0, false, l2, te⟩ := by unfold unheld; rw [if_neg (fun h => hp h.1)]
          rw [e2]
          exact next_5n r ph be mi wa l0 l2 te G h4 hp w
  · cases h4 : inR ph 0 4 with
    | false =>
      have e1 : next r ⟨ph, be, mi, wa, l0, l1, l2, te⟩ 6 = none := by unfold next; rw [if_neg (by decide), if_neg (by decide), if_pos (Or.inl h4)]
      rw [e1]
      exact next_6o r ph be mi wa l0 l1 l2 te G h4 w
    | true =>
      cases l2 with
      | true =>
        have e1 : next r ⟨ph, be, mi, wa, l0, l1, true, te⟩ 6 = none := by unfold next; rw [if_neg (by decide), if_neg (by decide), if_pos (Or.inr (by rfl))]
        rw [e1]
        exact next_6s r ph be mi wa l0 l1 te G h4 w
      | false =>
        have hno : ¬ (inR ph 0 4 = false ∨ Rn.lost ⟨ph, be, mi, wa, l0, l1, false, te⟩ (dOf 6) = lostOf 6) := by
          rw [h4]
          rintro (h | h)
          · cases h
          · exact absurd h (by show ¬ false = true; decide)
        have e1 : next r ⟨ph, be, mi, wa, l0, l1, false, te⟩ 6 = some (meet r ⟨ph, be, mi, wa, l0, l1, true, te⟩ 2) := by unfold next; rw [if_neg (by decide), if_neg (by decide), if_neg hno, if_pos (by decide)]; rfl
        rw [e1]
        exact next_6 r ph be mi wa l0 l1 te G h4 w
  · cases h4 : inR ph 0 4 with
    | false =>
      have e1 : next r ⟨ph, be, mi, wa, l0, l1, l2, te⟩ 7 = none := by unfold next; rw [if_neg (by decide), if_neg (by decide), if_pos (Or.inl h4)]
      rw [e1]
      exact next_7o r ph be mi wa l0 l1 l2 te G h4 w
    | true =>
      cases l2 with
      | false =>
        have e1 : next r ⟨ph, be, mi, wa, l0, l1, false, te⟩ 7 = none := by unfold next; rw [if_neg (by decide), if_neg (by decide), if_pos (Or.inr (by rfl))]
        rw [e1]
        exact next_7s r ph be mi wa l0 l1 te G h4 w
      | true =>
        have hno : ¬ (inR ph 0 4 = false ∨ Rn.lost ⟨ph, be, mi, wa, l0, l1, true, te⟩ (dOf 7) = lostOf 7) := by
          rw [h4]
          rintro (h | h)
          · cases h
          · exact absurd h (by show ¬ true = false; decide)
        have e1 : next r ⟨ph, be, mi, wa, l0, l1, true, te⟩ 7 = some (unheld r ⟨ph, be, mi, wa, l0, l1, false, te⟩) := by unfold next; rw [if_neg (by decide), if_neg (by decide), if_neg hno, if_neg (by decide)]; rfl
        rw [e1]
        by_cases hp : ph = 4
        · subst hp
          have hbe : 1 ≤ be ∧ be ≤ 3 := by
            rcases hR with ⟨_, h, _⟩ | ⟨_, _, h, _⟩ | ⟨_, _, _, h⟩
            · exact h
            · have : (1 : Int) ≤ 4 ∧ (4 : Int) ≤ 3 := h
              omega
            · have : (4 : Int) = 0 ∨ (4 : Int) = 5 ∨ (4 : Int) = 6 ∨ (4 : Int) = 7 := h
              omega
          cases hh : heldAt r ⟨4, be, mi, wa, l0, l1, false, te⟩ be with
          | true =>
            have e2 : unheld r ⟨4, be, mi, wa, l0, l1, false, te⟩ = ⟨4, be, mi, wa, l0, l1, false, te⟩ := by unfold unheld; rw [if_neg (by rintro ⟨_, h⟩; rw [show heldAt r ⟨4, be, mi, wa, l0, l1, false, te⟩ be = true from hh] at h; cases h)]
            rw [e2]
            exact next_7h r be mi wa l0 l1 te G hbe hh w
          | false =>
            have e2 : unheld r ⟨4, be, mi, wa, l0, l1, false, te⟩ = ⟨be, 0, mi, 0, l0, l1, false, te⟩ := by unfold unheld; rw [if_pos ⟨rfl, hh⟩]
            rw [e2]
            exact next_7u r be mi wa l0 l1 te G hbe hh w
        · have e2 : unheld r ⟨ph, be, mi, wa, l0, l1, false, te⟩ = ⟨ph, be, mi, wa, l0, l1, false, te⟩ := by unfold unheld; rw [if_neg (fun h => hp h.1)]
          rw [e2]
          exact next_7n r ph be mi wa l0 l1 te G h4 hp w

/-- Rules that are right up to row i, and in it up to d. -/
def okRow (r : Ru) (i : Nat) : Nat → Bool
  | 0 => inR (r.mn ((i : Int) + 1)) 1 256
  | d + 1 => okRow r i d && inR (r.tb ((i : Int) + 1) d) 0 3
def okUp (r : Ru) : Nat → Bool
  | 0 => inR r.pa 0 256
  | i + 1 => okUp r i && okRow r i 3
theorem okUp_three (r : Ru) : okUp r 3 = rulesOk r := by
  show (((inR r.pa 0 256 && (((inR r.m0 1 256 && inR r.t00 0 3) && inR r.t01 0 3) && inR r.t02 0 3)) && (((inR r.m1 1 256 && inR r.t10 0 3) && inR r.t11 0 3) && inR r.t12 0 3)) && (((inR r.m2 1 256 && inR r.t20 0 3) && inR r.t21 0 3) && inR r.t22 0 3)) = rulesOk r
  unfold rulesOk
  simp only [Bool.and_assoc]
def errRules (r : Ru) : Int := if rulesOk r then 0 else 1
theorem run_index3i (t0 t1 t2 : Int) (d : Nat) (hd : d < 3) (w : World) : (Instr.index 22 (.agg #[.int .i64 t0, .int .i64 t1, .int .i64 t2]) (.int .i64 d)).run Try.prog w = .ok (.int .i64 (if d = 0 then t0 else if d = 1 then t1 else t2)) w := by
  rcases (show d = 0 ∨ d = 1 ∨ d = 2 by omega) with rfl | rfl | rfl
  · exact (show (Instr.index 22 (.agg #[.int .i64 t0, .int .i64 t1, .int .i64 t2]) (.int .i64 0)).run Try.prog w = .ok (.int .i64 t0) w by kernel_rfl)
  · exact (show (Instr.index 22 (.agg #[.int .i64 t0, .int .i64 t1, .int .i64 t2]) (.int .i64 1)).run Try.prog w = .ok (.int .i64 t1) w by kernel_rfl)
  · exact (show (Instr.index 22 (.agg #[.int .i64 t0, .int .i64 t1, .int .i64 t2]) (.int .i64 2)).run Try.prog w = .ok (.int .i64 t2) w by kernel_rfl)
theorem box1 (w : World) (cs : Array Value) (T : Nat) (W : World) (hW : W = w.alloc (.cells cs T)) : Below w.heap.size w W ∧ W.heap[w.heap.size]? = some (.cells cs T (0, 0)) := by
  subst hW
  exact ⟨below1 _ _, blk_new _ _ _⟩
set_option maxRecDepth 100000 in
set_option maxHeartbeats 1000000 in
theorem checkRules_any (r : Ru) (w : World) : Calls Try.prog 13 #[ruV r] w (RetIntS (errRules r) (w.alloc (ruO r))) := by
  go_enter Try.func13, Try.ntmps13
  go_wp2_with fail
  refine (in_any _ _ _ _).mono ?_
  rintro e w1 ⟨rfl, rfl⟩
  go_wp2_with fail
  have H0 : Hid (okUp r 0 = inR r.pa 0 256) := rfl
  generalize inR r.pa 0 256 = b0 at *
  generalize hW0 : w.alloc (.cells (ruA r) 25) = W at *
  obtain ⟨hal, hB1⟩ := box1 w _ _ W hW0.symm
  have HB1 := Lib.hid hB1
  have HW0 := Lib.hid hW0
  clear hal hB1 hW0
  go_loopw [3, 10] (fun b iv wr => ∃ (i : Nat) (ok : Bool), i ≤ 3 ∧ b = .bool ok ∧ iv = .int .i64 i ∧ wr = W ∧ Hid (okUp r i = ok))
    (fun _ iv _ => 3 - (intOf iv).toNat)
  case atStart => exact ⟨0, b0, by omega, rfl, rfl, rfl, H0⟩
  case round =>
    obtain ⟨i, ok, hi, rfl, rfl, rfl, HO⟩ := hrel
    by_cases hlt : i < 3
    · have hlt' : (i : Int) < 3 := by omega
      have hi0 : (0 : Int) ≤ i := by omega
      have HLT := Lib.hid hlt
      have k8 := blk_cell HB1.out _ _ (ruA_mn r i hlt)
      have c0 := blk_cell HB1.out _ _ (ruA_tb r i 0 hlt (by omega))
      have c1 := blk_cell HB1.out _ _ (ruA_tb r i 1 hlt (by omega))
      have c2 := blk_cell HB1.out _ _ (ruA_tb r i 2 hlt (by omega))
      rw [Nat.add_zero] at c0
      have H1 : Hid (okRow r i 0 = inR (r.mn ((i : Int) + 1)) 1 256) := rfl
      have HT : Hid (∀ d, d < 3 → (if d = 0 then r.tb ((i : Int) + 1) 0 else if d = 1 then r.tb ((i : Int) + 1) 1 else r.tb ((i : Int) + 1) 2) = r.tb ((i : Int) + 1) d) := fun d hd => by
        rcases (show d = 0 ∨ d = 1 ∨ d = 2 by omega) with rfl | rfl | rfl <;> rfl
      generalize hT0 : r.tb ((i : Int) + 1) 0 = t0 at *
      generalize hT1 : r.tb ((i : Int) + 1) 1 = t1 at *
      generalize hT2 : r.tb ((i : Int) + 1) 2 = t2 at *
      generalize r.mn ((i : Int) + 1) = m at *
      clear hT0 hT1 hT2 hlt
      cases ok with
      | true =>
        go_wp2_with fail
        refine (in_any _ _ _ _).mono ?_
        rintro e w1 ⟨rfl, rfl⟩
        go_wp2_with fail
        have HB0 : Hid ((okUp r i && okRow r i 0) = inR m 1 256) := by
          show _ = _
          rw [HO.out, H1.out]
          rfl
        obtain ⟨wo, rfl⟩ : ∃ wo, wo = wr := ⟨_, rfl⟩
        go_loopw [3, 25] (fun b iv wr => ∃ (d : Nat) (ok : Bool), d ≤ 3 ∧ b = .bool ok ∧ iv = .int .i64 d ∧ wo = wr ∧ Hid ((okUp r i && okRow r i d) = ok))
          (fun _ iv _ => 3 - (intOf iv).toNat)
        case atStart => exact ⟨0, _, by omega, rfl, rfl, rfl, HB0⟩
        case round =>
          obtain ⟨d, ok, hd, rfl, rfl, rfl, HD⟩ := hrel
          by_cases hdl : d < 3
          · have hdl' : (d : Int) < 3 := by omega
            have hd0 : (0 : Int) ≤ d := by omega
            have HDL := Lib.hid hdl
            have hix := run_index3i t0 t1 t2 d hdl wo
            rw [HT.out d hdl] at hix
            have H2 : Hid (okRow r i (d + 1) = (okRow r i d && inR (r.tb ((i : Int) + 1) d) 0 3)) := rfl
            generalize r.tb ((i : Int) + 1) d = t at *
            clear hdl c0 c1 c2 k8
            cases ok with
            | true =>
              go_wp2_with fail
              refine (in_any _ _ _ _).mono ?_
              rintro e w1 ⟨rfl, rfl⟩
              go_wp2_with fail
              refine ⟨⟨d + 1, _, by have := HDL.out; omega, rfl, by go_num, by first | rfl | trivial, ?_⟩, meas_up HDL.out⟩
              show _ = _
              rw [H2.out, ← Bool.and_assoc, HD.out]
              rfl
            | false =>
              go_wp2_with fail
              refine ⟨⟨d + 1, _, by have := HDL.out; omega, rfl, by go_num, by first | rfl | trivial, ?_⟩, meas_up HDL.out⟩
              show _ = _
              rw [H2.out, ← Bool.and_assoc, HD.out]
              rfl
          · obtain rfl : d = 3 := by omega
            clear c0 c1 c2 k8
            go_wp2_with fail
            exact ⟨⟨i + 1, ok, by have := HLT.out; omega, rfl, by go_num, by first | rfl | trivial, HD⟩, meas_up HLT.out⟩
      | false =>
        go_wp2_with fail
        have HB0 : Hid ((okUp r i && okRow r i 0) = false) := by
          show _ = _
          rw [HO.out]
          rfl
        obtain ⟨wo, rfl⟩ : ∃ wo, wo = wr := ⟨_, rfl⟩
        go_loopw [3, 25] (fun b iv wr => ∃ (d : Nat) (ok : Bool), d ≤ 3 ∧ b = .bool ok ∧ iv = .int .i64 d ∧ wo = wr ∧ Hid ((okUp r i && okRow r i d) = ok))
          (fun _ iv _ => 3 - (intOf iv).toNat)
        case atStart => exact ⟨0, _, by omega, rfl, rfl, rfl, HB0⟩
        case round =>
          obtain ⟨d, ok, hd, rfl, rfl, rfl, HD⟩ := hrel
          by_cases hdl : d < 3
          · have hdl' : (d : Int) < 3 := by omega
            have hd0 : (0 : Int) ≤ d := by omega
            have HDL := Lib.hid hdl
            have hix := run_index3i t0 t1 t2 d hdl wo
            rw [HT.out d hdl] at hix
            have H2 : Hid (okRow r i (d + 1) = (okRow r i d && inR (r.tb ((i : Int) + 1) d) 0 3)) := rfl
            generalize r.tb ((i : Int) + 1) d = t at *
            clear hdl c0 c1 c2 k8
            cases ok with
            | true =>
              go_wp2_with fail
              refine (in_any _ _ _ _).mono ?_
              rintro e w1 ⟨rfl, rfl⟩
              go_wp2_with fail
              refine ⟨⟨d + 1, _, by have := HDL.out; omega, rfl, by go_num, by first | rfl | trivial, ?_⟩, meas_up HDL.out⟩
              show _ = _
              rw [H2.out, ← Bool.and_assoc, HD.out]
              rfl
            | false =>
              go_wp2_with fail
              refine ⟨⟨d + 1, _, by have := HDL.out; omega, rfl, by go_num, by first | rfl | trivial, ?_⟩, meas_up HDL.out⟩
              show _ = _
              rw [H2.out, ← Bool.and_assoc, HD.out]
              rfl
          · obtain rfl : d = 3 := by omega
            clear c0 c1 c2 k8
            go_wp2_with fail
            exact ⟨⟨i + 1, ok, by have := HLT.out; omega, rfl, by go_num, by first | rfl | trivial, HD⟩, meas_up HLT.out⟩
    · obtain rfl : i = 3 := by omega
      have he : Hid (errRules r = if ok then 0 else 1) := by
        show _ = _
        unfold errRules
        rw [← okUp_three, HO.out]
      cases ok with
      | true =>
        go_wp2_with fail
        go_ret
        exact ⟨by rw [he.out]; rfl, rfl⟩
      | false =>
        go_wp2_with fail
        go_ret
        exact ⟨by rw [he.out]; rfl, rfl⟩
end Go.Proofs.Ytmfochplnchgcaa

/- THE WALKS of cure.Next and cure.Play. -/
namespace Go.Proofs.Ytmfochplnchgcaa
open Go.RowKit

def nextE (r : Ru) (x : Rn) (e : Int) : Rn × Int :=
  if rulesOk r then (if right r x && inR e 0 7 then (match next r x e with | some y => (y, 0) | none => (rn0, 51)) else (rn0, 1)) else (rn0, 1)
def RetNE (p : Rn × Int) (w : World) (e : Ending) (w' : World) : Prop := e = .returned (.tuple #[rnV p.1, .int .i64 p.2]) ∧ Below w.heap.size w w'
theorem boxesN (w : World) (r : Ru) (x : Rn) (cs : Array Value) (T : Nat) (W : World) (hW : W = ((w.alloc (.cells (ruA r) 25)).alloc (.cells (rnA x) 30)).alloc (.cells cs T)) :
    Below w.heap.size w W ∧ W.heap[w.heap.size]? = some (.cells (ruA r) 25 (0, 0)) ∧ W.heap[w.heap.size + 1]? = some (.cells (rnA x) 30 (0, 0)) ∧ W.heap[w.heap.size + 1 + 1]? = some (.cells cs T (0, 0)) ∧ W.heap.size = w.heap.size + 3 := by
  subst hW
  have e1 : (w.alloc (.cells (ruA r) 25)).heap.size = w.heap.size + 1 := World.size_alloc ..
  have e2 : ((w.alloc (.cells (ruA r) 25)).alloc (.cells (rnA x) 30)).heap.size = w.heap.size + 1 + 1 := by rw [World.size_alloc, e1]
  have a1 := blk_new w (ruA r) 25
  have a2 := blk_new (w.alloc (.cells (ruA r) 25)) (rnA x) 30
  have a3 := blk_new ((w.alloc (.cells (ruA r) 25)).alloc (.cells (rnA x) 30)) cs T
  rw [e1] at a2
  rw [e2] at a3
  have a1' := (heap_alloc_old _ (.cells (rnA x) 30) (blk_lt a1)).trans a1
  exact ⟨ba (below2 _ _ _), (heap_alloc_old _ _ (blk_lt a1')).trans a1', (heap_alloc_old _ _ (blk_lt a2)).trans a2, a3, by rw [World.size_alloc, e2]⟩
set_option maxRecDepth 100000 in
set_option maxHeartbeats 1000000 in
theorem Next_bad (r : Ru) (x : Rn) (e : Int) (h : rulesOk r = false) (w : World) : Calls Try.prog 11 #[ruV r, rnV x, .int .i64 e] w (RetNE (rn0, 1) w) := by
  have he : errRules r = 1 := by unfold errRules; rw [h]; rfl
  clear h
  go_enter Try.func11, Try.ntmps11
  go_wp2_with fail
  refine (checkRules_any r _).mono ?_
  rintro e w1 ⟨rfl, rfl⟩
  rw [he]
  go_wp2_with fail
  refine bodyPost_ret (v := .tuple #[rnV rn0, .int .i64 1]) (by simp [results, Try.results11, go_sem, rn0]) rfl ⟨rfl, ?_⟩
  exact ba (ba (below2 _ _ _))
set_option maxRecDepth 100000 in
set_option maxHeartbeats 1000000 in
theorem Next_good (r : Ru) (x : Rn) (e : Int) (h : rulesOk r = true) (w : World) : Calls Try.prog 11 #[ruV r, rnV x, .int .i64 e] w (RetNE (if right r x && inR e 0 7 then (match next r x e with | some y => (y, 0) | none => (rn0, 51)) else (rn0, 1)) w) := by
  have he : errRules r = 0 := by unfold errRules; rw [h]; rfl
  have HG := Lib.hid (rulesOk_good h)
  clear h
  obtain ⟨q, hq⟩ : ∃ q, q = (if right r x && inR e 0 7 then (match next r x e with | some y => (y, (0 : Int)) | none => (rn0, 51)) else (rn0, 1)) := ⟨_, rfl⟩
  rw [← hq]
  have HQ := Lib.hid hq
  clear hq
  go_enter Try.func11, Try.ntmps11
  go_wp2_with fail
  refine (checkRules_any r _).mono ?_
  rintro e' w1 ⟨rfl, rfl⟩
  rw [he]
  go_wp2_with fail
  generalize hW0 : ((w.alloc (.cells (ruA r) 25)).alloc (.cells (rnA x) 30)).alloc (.cells _ _) = W1 at *
  obtain ⟨hal, hB1, hB2, hB3, hWs⟩ := boxesN w _ _ _ _ W1 hW0.symm
  have hal' := ba (o := ruO r) hal
  have hC1 := (heap_alloc_old _ (ruO r) (blk_lt hB1)).trans hB1
  have hC2 := (heap_alloc_old _ (ruO r) (blk_lt hB2)).trans hB2
  have hC3 := (heap_alloc_old _ (ruO r) (blk_lt hB3)).trans hB3
  clear hW0 hal hB1 hB2 hB3 hWs
  generalize W1.alloc (ruO r) = W at *
  refine (rightRun_any r x HG.out _).mono ?_
  rintro e' w1 ⟨rfl, hb⟩
  have D1 := Lib.hid (blk_keep hC1 hb (blk_lt hC1))
  have D2 := Lib.hid (blk_keep hC2 hb (blk_lt hC2))
  have D3 := Lib.hid (blk_keep hC3 hb (blk_lt hC3))
  have HB := Lib.hid (hal'.trans (hb.mono hal'.size))
  clear hC1 hC2 hC3 hb hal'
  obtain ⟨f0, f1, f2, f3, f4, f5, f6, f7⟩ := rnf (x := rn0) D3.out
  obtain ⟨g0, g1, g2, g3, g4, g5, g6, g7⟩ := rn8 (x := rn0) D3.out
  cases hr : right r x with
  | false =>
    rw [hr] at HQ
    have HQ2 : Hid (q = (rn0, 1)) := HQ.out
    clear hr HQ
    go_wp2_with fail
    obtain ⟨h0, h1, h2, h3, h4, h5, h6, h7⟩ := rn8 (x := rn0) (set8 (u0 := .int .i64 0) (u1 := .int .i64 0) (u2 := .int .i64 0) (u3 := .int .i64 0) (u4 := .bool false) (u5 := .bool false) (u6 := .bool false) (u7 := .bool false) D3.out)
    refine bodyPost_ret (v := .tuple #[rnV rn0, .int .i64 1]) (by simp [results, Try.results11, go_sem, h0, h1, h2, h3, h4, h5, h6, h7]) rfl ⟨by rw [HQ2.out], ?_⟩
    exact below_set8 HB.out (by omega)
  | true =>
    rw [hr] at HQ
    have HR := Lib.hid ((right_iff r x).1 hr)
    clear hr
    go_wp2_with fail
    refine (in_any _ _ _ _).mono ?_
    rintro e' w2 ⟨rfl, rfl⟩
    cases hi : inR e 0 7 with
    | false =>
      rw [hi] at HQ
      have HQ2 : Hid (q = (rn0, 1)) := HQ.out
      clear hi HQ
      go_wp2_with fail
      obtain ⟨h0, h1, h2, h3, h4, h5, h6, h7⟩ := rn8 (x := rn0) (set8 (u0 := .int .i64 0) (u1 := .int .i64 0) (u2 := .int .i64 0) (u3 := .int .i64 0) (u4 := .bool false) (u5 := .bool false) (u6 := .bool false) (u7 := .bool false) D3.out)
      refine bodyPost_ret (v := .tuple #[rnV rn0, .int .i64 1]) (by simp [results, Try.results11, go_sem, h0, h1, h2, h3, h4, h5, h6, h7]) rfl ⟨by rw [HQ2.out], ?_⟩
      exact below_set8 HB.out (by omega)
    | true =>
      rw [hi] at HQ
      have HQ2 : Hid (q = (match next r x e with | some y => (y, 0) | none => (rn0, 51))) := HQ.out
      have HE : Hid (0 ≤ e ∧ e ≤ 7) := by
        show _ ∧ _
        unfold inR at hi
        simpa using hi
      clear hi HQ
      obtain ⟨m0, m1, m2, m3, m4, m5, m6, m7, m8, m9, m10, m11, m12⟩ := ru13 D1.out
      obtain ⟨k0, k1, k2, k3, k4, k5, k6, k7⟩ := rn8 D2.out
      go_wp2_with fail
      refine (next_any r x e HG.out HR.out HE.out _).mono ?_
      rintro e' w3 ⟨rfl, hb⟩
      have E3 := Lib.hid (blk_keep D3.out hb (blk_lt D3.out))
      have HB2 := Lib.hid (HB.out.trans (hb.mono HB.out.size))
      clear m0 m1 m2 m3 m4 m5 m6 m7 m8 m9 m10 m11 m12 k0 k1 k2 k3 k4 k5 k6 k7 f0 f1 f2 f3 f4 f5 f6 f7 g0 g1 g2 g3 g4 g5 g6 g7 hb
      cases hn : next r x e with
      | none =>
        rw [hn] at HQ2
        have HQ3 : Hid (q = (rn0, 51)) := HQ2.out
        clear HQ2 hn
        have E4 := Lib.hid ((heap_alloc_old _ (rnO rn0) (blk_lt E3.out)).trans E3.out)
        obtain ⟨f0, f1, f2, f3, f4, f5, f6, f7⟩ := rnf (x := rn0) E4.out
        obtain ⟨g0, g1, g2, g3, g4, g5, g6, g7⟩ := rn8 (x := rn0) E4.out
        go_wp2_with fail
        obtain ⟨h0, h1, h2, h3, h4, h5, h6, h7⟩ := rn8 (x := rn0) (set8 (u0 := .int .i64 0) (u1 := .int .i64 0) (u2 := .int .i64 0) (u3 := .int .i64 0) (u4 := .bool false) (u5 := .bool false) (u6 := .bool false) (u7 := .bool false) E4.out)
        refine bodyPost_ret (v := .tuple #[rnV rn0, .int .i64 51]) (by simp [results, Try.results11, go_sem, h0, h1, h2, h3, h4, h5, h6, h7]) rfl ⟨by rw [HQ3.out], ?_⟩
        exact below_set8 (ba HB2.out) (by omega)
      | some y =>
        rw [hn] at HQ2
        have HQ3 : Hid (q = (y, 0)) := HQ2.out
        clear HQ2 hn
        have E4 := Lib.hid ((heap_alloc_old _ (rnO y) (blk_lt E3.out)).trans E3.out)
        obtain ⟨f0, f1, f2, f3, f4, f5, f6, f7⟩ := rnf (x := rn0) E4.out
        obtain ⟨g0, g1, g2, g3, g4, g5, g6, g7⟩ := rn8 (x := rn0) E4.out
        go_wp2_with fail
        obtain ⟨h0, h1, h2, h3, h4, h5, h6, h7⟩ := rn8 (x := y) (set8 (u0 := .int .i64 (y).ph) (u1 := .int .i64 (y).be) (u2 := .int .i64 (y).mi) (u3 := .int .i64 (y).wa) (u4 := .bool (y).l0) (u5 := .bool (y).l1) (u6 := .bool (y).l2) (u7 := .bool (y).te) E4.out)
        refine bodyPost_ret (v := .tuple #[rnV y, .int .i64 0]) (by simp [results, Try.results11, go_sem, h0, h1, h2, h3, h4, h5, h6, h7]) rfl ⟨by rw [HQ3.out], ?_⟩
        exact below_set8 (ba HB2.out) (by omega)
theorem Next_any (r : Ru) (x : Rn) (e : Int) (w : World) : Calls Try.prog 11 #[ruV r, rnV x, .int .i64 e] w (RetNE (nextE r x e) w) := by
  unfold nextE
  cases h : rulesOk r with
  | false => exact Next_bad r x e h w
  | true => exact Next_good r x e h w
end Go.Proofs.Ytmfochplnchgcaa
