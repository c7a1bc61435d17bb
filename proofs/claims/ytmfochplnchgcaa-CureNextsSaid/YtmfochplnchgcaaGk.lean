/- Part k of the lemmas and walks. -/
import Derived.Test.YtmfochplnchgcaaGg
import Derived.Test.YtmfochplnchgcaaGh

/- THE WALKS of the reference's goes, ended, meet, begin; printed by wip/tools/gen_ct.py. -/
namespace Go.Proofs.Ytmfochplnchgcaa
open Go.RowKit

theorem bx3 (w : World) (c1 c2 c3 : Array Value) {t1 t2 t3 : Nat} (W : World) (hW : W = ((w.alloc (.cells c1 t1)).alloc (.cells c2 t2)).alloc (.cells c3 t3)) :
    Below w.heap.size w W ∧ W.heap[w.heap.size]? = some (.cells c1 t1 (0, 0)) ∧ W.heap[w.heap.size + 1]? = some (.cells c2 t2 (0, 0)) ∧ W.heap[w.heap.size + 1 + 1]? = some (.cells c3 t3 (0, 0)) ∧ W.heap.size = w.heap.size + 3 := by
  subst hW
  have e1 : (w.alloc (.cells c1 t1)).heap.size = w.heap.size + 1 := World.size_alloc ..
  have e2 : ((w.alloc (.cells c1 t1)).alloc (.cells c2 t2)).heap.size = w.heap.size + 1 + 1 := by rw [World.size_alloc, e1]
  have a1 := blk_new w c1 t1
  have a2 := blk_new (w.alloc (.cells c1 t1)) c2 t2
  have a3 := blk_new ((w.alloc (.cells c1 t1)).alloc (.cells c2 t2)) c3 t3
  rw [e1] at a2
  rw [e2] at a3
  have a1' := (heap_alloc_old _ (.cells c2 t2) (blk_lt a1)).trans a1
  exact ⟨ba (below2 _ _ _), (heap_alloc_old _ _ (blk_lt a1')).trans a1', (heap_alloc_old _ _ (blk_lt a2)).trans a2, a3, by rw [World.size_alloc, e2]⟩
theorem rn8g {w : World} {B T : Nat} {x : Rn} (h : w.heap[B]? = some (.cells (rnA x) T (0, 0))) :
    w.cell? ⟨B, 0, none⟩ = some (.int .i64 x.ph) ∧ w.cell? ⟨B, 1, none⟩ = some (.int .i64 x.be) ∧ w.cell? ⟨B, 2, none⟩ = some (.int .i64 x.mi) ∧ w.cell? ⟨B, 3, none⟩ = some (.int .i64 x.wa) ∧
    w.cell? ⟨B, 4, none⟩ = some (.bool x.l0) ∧ w.cell? ⟨B, 5, none⟩ = some (.bool x.l1) ∧ w.cell? ⟨B, 6, none⟩ = some (.bool x.l2) ∧ w.cell? ⟨B, 7, none⟩ = some (.bool x.te) :=
  ⟨blk_cell h 0 _ rfl, blk_cell h 1 _ rfl, blk_cell h 2 _ rfl, blk_cell h 3 _ rfl, blk_cell h 4 _ rfl, blk_cell h 5 _ rfl, blk_cell h 6 _ rfl, blk_cell h 7 _ rfl⟩
theorem rnfg {w : World} {B T : Nat} {x : Rn} (h : w.heap[B]? = some (.cells (rnA x) T (0, 0))) :
    w.frozen? ⟨B, 0, none⟩ = false ∧ w.frozen? ⟨B, 1, none⟩ = false ∧ w.frozen? ⟨B, 2, none⟩ = false ∧ w.frozen? ⟨B, 3, none⟩ = false ∧ w.frozen? ⟨B, 4, none⟩ = false ∧ w.frozen? ⟨B, 5, none⟩ = false ∧ w.frozen? ⟨B, 6, none⟩ = false ∧ w.frozen? ⟨B, 7, none⟩ = false :=
  ⟨blk_frozen h 0, blk_frozen h 1, blk_frozen h 2, blk_frozen h 3, blk_frozen h 4, blk_frozen h 5, blk_frozen h 6, blk_frozen h 7⟩
theorem ru13g {w : World} {B T : Nat} {r : Ru} (h : w.heap[B]? = some (.cells (ruA r) T (0, 0))) :
    w.cell? ⟨B, 0, none⟩ = some (.int .i64 r.m0) ∧ w.cell? ⟨B, 1, none⟩ = some (.int .i64 r.m1) ∧ w.cell? ⟨B, 2, none⟩ = some (.int .i64 r.m2) ∧ w.cell? ⟨B, 3, none⟩ = some (.int .i64 r.pa) ∧
    w.cell? ⟨B, 4, none⟩ = some (.int .i64 r.t00) ∧ w.cell? ⟨B, 5, none⟩ = some (.int .i64 r.t01) ∧ w.cell? ⟨B, 6, none⟩ = some (.int .i64 r.t02) ∧ w.cell? ⟨B, 7, none⟩ = some (.int .i64 r.t10) ∧
    w.cell? ⟨B, 8, none⟩ = some (.int .i64 r.t11) ∧ w.cell? ⟨B, 9, none⟩ = some (.int .i64 r.t12) ∧ w.cell? ⟨B, 10, none⟩ = some (.int .i64 r.t20) ∧ w.cell? ⟨B, 11, none⟩ = some (.int .i64 r.t21) ∧ w.cell? ⟨B, 12, none⟩ = some (.int .i64 r.t22) :=
  ⟨blk_cell h 0 _ rfl, blk_cell h 1 _ rfl, blk_cell h 2 _ rfl, blk_cell h 3 _ rfl, blk_cell h 4 _ rfl, blk_cell h 5 _ rfl, blk_cell h 6 _ rfl, blk_cell h 7 _ rfl, blk_cell h 8 _ rfl, blk_cell h 9 _ rfl, blk_cell h 10 _ rfl, blk_cell h 11 _ rfl, blk_cell h 12 _ rfl⟩
abbrev rnQ (x : Rn) : Obj := .cells (rnA x) 34
abbrev ruQ (r : Ru) : Obj := .cells (ruA r) 37

theorem qgoes_any (p : Int) (w : World) : Calls Try.prog 60 #[.int .i64 p] w (RetBW (goes p) w) := by
  by_cases h1 : 1 ≤ p
  · have t1 : decide (p ≥ 1) = true := decide_eq_true h1
    have e : goes p = decide (p ≤ 3) := by unfold goes inR; rw [decide_eq_true h1]; rfl
    rw [e]
    clear h1 e
    go_enter Try.func60, Try.ntmps60
    go_wp2_with fail
    go_ret
    exact ⟨rfl, rfl⟩
  · have t1 : decide (p ≥ 1) = false := decide_eq_false h1
    have e : goes p = false := by unfold goes inR; rw [decide_eq_false h1]; rfl
    rw [e]
    clear h1 e
    go_enter Try.func60, Try.ntmps60
    go_wp2_with fail
    go_ret
    exact ⟨rfl, rfl⟩
theorem qended_any (x : Rn) (p : Int) (w : World) : Calls Try.prog 61 #[rnV x, .int .i64 p] w (RetRnW (ended x p) ((w.alloc (rnQ x)).alloc (rnQ (ended x p)))) := by
  go_enter Try.func61, Try.ntmps61
  go_wp2_with fail
  refine bodyPost_ret (v := rnV (ended x p)) (by simp [results, Try.results61, go_sem, ended]) rfl ?_
  exact ⟨rfl, rfl⟩
set_option maxRecDepth 100000 in
set_option maxHeartbeats 1000000 in
theorem qmeet_10_0 (r : Ru) (be mi wa : Int) (l0 l1 l2 te : Bool) (h3 : ¬ r.t00 = 3) (h1 : ¬ r.t00 = 1) (h2 : ¬ r.t00 = 2) (w : World) : Calls Try.prog 36 #[ruV r, rnV ⟨1, be, mi, wa, l0, l1, l2, te⟩, .int .i64 0] w (RetRn (meetR r ⟨1, be, mi, wa, l0, l1, l2, te⟩ 0) w) := by
  have he : meetR r ⟨1, be, mi, wa, l0, l1, l2, te⟩ 0 = ⟨1, be, mi, wa, l0, l1, l2, te⟩ := by
    unfold meetR
    rw [show inPh ⟨1, be, mi, wa, l0, l1, l2, te⟩ = (1 : Int) from rfl, if_pos (show goes 1 = true from rfl), if_neg (show ¬ r.tb 1 0 = 3 from h3), if_neg (show ¬ r.tb 1 0 = 1 from h1), if_neg (show ¬ r.tb 1 0 = 2 from h2)]
  rw [he]
  have t3 : (r.t00 == 3) = false := by simp [h3]
  have t1 : (r.t00 == 1) = false := by simp [h1]
  have t2 : (r.t00 == 2) = false := by simp [h2]
  clear he h3 h1 h2
  go_enter Try.func36, Try.ntmps36
  go_wp2_with fail
  refine (qgoes_any _ _).mono ?_
  rintro e w' ⟨rfl, rfl⟩
  rw [show goes 1 = true from rfl]
  go_wp2_with fail
  refine bodyPost_ret (v := rnV ⟨1, be, mi, wa, l0, l1, l2, te⟩) (by simp [results, Try.results36, go_sem]) rfl ⟨rfl, ba (below2 _ _ _)⟩
set_option maxRecDepth 100000 in
set_option maxHeartbeats 1000000 in
theorem qmeet_10_1 (r : Ru) (be mi wa : Int) (l0 l1 l2 te : Bool) (h3 : ¬ r.t00 = 3) (h1 : r.t00 = 1) (w : World) : Calls Try.prog 36 #[ruV r, rnV ⟨1, be, mi, wa, l0, l1, l2, te⟩, .int .i64 0] w (RetRn (meetR r ⟨1, be, mi, wa, l0, l1, l2, te⟩ 0) w) := by
  have he : meetR r ⟨1, be, mi, wa, l0, l1, l2, te⟩ 0 = ⟨1, be, mi, wa, l0, l1, l2, true⟩ := by
    unfold meetR
    rw [show inPh ⟨1, be, mi, wa, l0, l1, l2, te⟩ = (1 : Int) from rfl, if_pos (show goes 1 = true from rfl), if_neg (show ¬ r.tb 1 0 = 3 from h3), if_pos (show r.tb 1 0 = 1 from h1)]
  rw [he]
  have t3 : (r.t00 == 3) = false := by simp [h3]
  have t1 : (r.t00 == 1) = true := by simp [h1]
  have t2 : (r.t00 == 2) = false := by simp [h1]
  clear he h3 h1
  go_enter Try.func36, Try.ntmps36
  go_wp2_with fail
  refine (qgoes_any _ _).mono ?_
  rintro e w' ⟨rfl, rfl⟩
  rw [show goes 1 = true from rfl]
  go_wp2_with fail
  refine bodyPost_ret (v := rnV ⟨1, be, mi, wa, l0, l1, l2, true⟩) (by simp [results, Try.results36, go_sem]) rfl ⟨rfl, ba (below2 _ _ _)⟩
set_option maxRecDepth 100000 in
set_option maxHeartbeats 1000000 in
theorem qmeet_10_2 (r : Ru) (be mi wa : Int) (l0 l1 l2 te : Bool) (h3 : ¬ r.t00 = 3) (h1 : ¬ r.t00 = 1) (h2 : r.t00 = 2) (w : World) : Calls Try.prog 36 #[ruV r, rnV ⟨1, be, mi, wa, l0, l1, l2, te⟩, .int .i64 0] w (RetRn (meetR r ⟨1, be, mi, wa, l0, l1, l2, te⟩ 0) w) := by
  have he : meetR r ⟨1, be, mi, wa, l0, l1, l2, te⟩ 0 = ⟨4, 1, mi, 0, l0, l1, l2, te⟩ := by
    unfold meetR
    rw [show inPh ⟨1, be, mi, wa, l0, l1, l2, te⟩ = (1 : Int) from rfl, if_pos (show goes 1 = true from rfl), if_neg (show ¬ r.tb 1 0 = 3 from h3), if_neg (show ¬ r.tb 1 0 = 1 from h1), if_pos (show r.tb 1 0 = 2 from h2), if_neg (show ¬ (1 : Int) = 4 by decide)]
  rw [he]
  have t3 : (r.t00 == 3) = false := by simp [h3]
  have t1 : (r.t00 == 1) = false := by simp [h1]
  have t2 : (r.t00 == 2) = true := by simp [h2]
  clear he h3 h1 h2
  go_enter Try.func36, Try.ntmps36
  go_wp2_with fail
  refine (qgoes_any _ _).mono ?_
  rintro e w' ⟨rfl, rfl⟩
  rw [show goes 1 = true from rfl]
  go_wp2_with fail
  refine bodyPost_ret (v := rnV ⟨4, 1, mi, 0, l0, l1, l2, te⟩) (by simp [results, Try.results36, go_sem]) rfl ⟨rfl, ba (below2 _ _ _)⟩
set_option maxRecDepth 100000 in
set_option maxHeartbeats 1000000 in
theorem qmeet_10_3 (r : Ru) (be mi wa : Int) (l0 l1 l2 te : Bool) (h3 : r.t00 = 3) (w : World) : Calls Try.prog 36 #[ruV r, rnV ⟨1, be, mi, wa, l0, l1, l2, te⟩, .int .i64 0] w (RetRn (meetR r ⟨1, be, mi, wa, l0, l1, l2, te⟩ 0) w) := by
  have he : meetR r ⟨1, be, mi, wa, l0, l1, l2, te⟩ 0 = (ended ⟨1, be, mi, wa, l0, l1, l2, te⟩ 7) := by
    unfold meetR
    rw [show inPh ⟨1, be, mi, wa, l0, l1, l2, te⟩ = (1 : Int) from rfl, if_pos (show goes 1 = true from rfl), if_pos (show r.tb 1 0 = 3 from h3)]
  rw [he]
  have t3 : (r.t00 == 3) = true := by simp [h3]
  clear he h3
  go_enter Try.func36, Try.ntmps36
  go_wp2_with fail
  refine (qgoes_any _ _).mono ?_
  rintro e w' ⟨rfl, rfl⟩
  rw [show goes 1 = true from rfl]
  go_wp2_with fail
  refine (qended_any ⟨1, be, mi, wa, l0, l1, l2, te⟩ 7 _).mono ?_
  rintro e w' ⟨rfl, rfl⟩
  go_wp2_with fail
  refine bodyPost_ret (v := rnV (ended ⟨1, be, mi, wa, l0, l1, l2, te⟩ 7)) (by simp [results, Try.results36, go_sem]) rfl ⟨rfl, ba (ba (ba (below2 _ _ _)))⟩
set_option maxRecDepth 100000 in
set_option maxHeartbeats 1000000 in
theorem qmeet_10w_0 (r : Ru) (mi wa : Int) (l0 l1 l2 te : Bool) (h3 : ¬ r.t00 = 3) (h1 : ¬ r.t00 = 1) (h2 : ¬ r.t00 = 2) (w : World) : Calls Try.prog 36 #[ruV r, rnV ⟨4, 1, mi, wa, l0, l1, l2, te⟩, .int .i64 0] w (RetRn (meetR r ⟨4, 1, mi, wa, l0, l1, l2, te⟩ 0) w) := by
  have he : meetR r ⟨4, 1, mi, wa, l0, l1, l2, te⟩ 0 = ⟨4, 1, mi, wa, l0, l1, l2, te⟩ := by
    unfold meetR
    rw [show inPh ⟨4, 1, mi, wa, l0, l1, l2, te⟩ = (1 : Int) from rfl, if_pos (show goes 1 = true from rfl), if_neg (show ¬ r.tb 1 0 = 3 from h3), if_neg (show ¬ r.tb 1 0 = 1 from h1), if_neg (show ¬ r.tb 1 0 = 2 from h2)]
  rw [he]
  have t3 : (r.t00 == 3) = false := by simp [h3]
  have t1 : (r.t00 == 1) = false := by simp [h1]
  have t2 : (r.t00 == 2) = false := by simp [h2]
  clear he h3 h1 h2
  go_enter Try.func36, Try.ntmps36
  go_wp2_with fail
  refine (qgoes_any _ _).mono ?_
  rintro e w' ⟨rfl, rfl⟩
  rw [show goes 1 = true from rfl]
  go_wp2_with fail
  refine bodyPost_ret (v := rnV ⟨4, 1, mi, wa, l0, l1, l2, te⟩) (by simp [results, Try.results36, go_sem]) rfl ⟨rfl, ba (below2 _ _ _)⟩
set_option maxRecDepth 100000 in
set_option maxHeartbeats 1000000 in
theorem qmeet_10w_1 (r : Ru) (mi wa : Int) (l0 l1 l2 te : Bool) (h3 : ¬ r.t00 = 3) (h1 : r.t00 = 1) (w : World) : Calls Try.prog 36 #[ruV r, rnV ⟨4, 1, mi, wa, l0, l1, l2, te⟩, .int .i64 0] w (RetRn (meetR r ⟨4, 1, mi, wa, l0, l1, l2, te⟩ 0) w) := by
  have he : meetR r ⟨4, 1, mi, wa, l0, l1, l2, te⟩ 0 = ⟨4, 1, mi, wa, l0, l1, l2, true⟩ := by
    unfold meetR
    rw [show inPh ⟨4, 1, mi, wa, l0, l1, l2, te⟩ = (1 : Int) from rfl, if_pos (show goes 1 = true from rfl), if_neg (show ¬ r.tb 1 0 = 3 from h3), if_pos (show r.tb 1 0 = 1 from h1)]
  rw [he]
  have t3 : (r.t00 == 3) = false := by simp [h3]
  have t1 : (r.t00 == 1) = true := by simp [h1]
  have t2 : (r.t00 == 2) = false := by simp [h1]
  clear he h3 h1
  go_enter Try.func36, Try.ntmps36
  go_wp2_with fail
  refine (qgoes_any _ _).mono ?_
  rintro e w' ⟨rfl, rfl⟩
  rw [show goes 1 = true from rfl]
  go_wp2_with fail
  refine bodyPost_ret (v := rnV ⟨4, 1, mi, wa, l0, l1, l2, true⟩) (by simp [results, Try.results36, go_sem]) rfl ⟨rfl, ba (below2 _ _ _)⟩
set_option maxRecDepth 100000 in
set_option maxHeartbeats 1000000 in
theorem qmeet_10w_2 (r : Ru) (mi wa : Int) (l0 l1 l2 te : Bool) (h3 : ¬ r.t00 = 3) (h1 : ¬ r.t00 = 1) (h2 : r.t00 = 2) (w : World) : Calls Try.prog 36 #[ruV r, rnV ⟨4, 1, mi, wa, l0, l1, l2, te⟩, .int .i64 0] w (RetRn (meetR r ⟨4, 1, mi, wa, l0, l1, l2, te⟩ 0) w) := by
  have he : meetR r ⟨4, 1, mi, wa, l0, l1, l2, te⟩ 0 = ⟨4, 1, mi, wa, l0, l1, l2, te⟩ := by
    unfold meetR
    rw [show inPh ⟨4, 1, mi, wa, l0, l1, l2, te⟩ = (1 : Int) from rfl, if_pos (show goes 1 = true from rfl), if_neg (show ¬ r.tb 1 0 = 3 from h3), if_neg (show ¬ r.tb 1 0 = 1 from h1), if_pos (show r.tb 1 0 = 2 from h2), if_pos rfl]
  rw [he]
  have t3 : (r.t00 == 3) = false := by simp [h3]
  have t1 : (r.t00 == 1) = false := by simp [h1]
  have t2 : (r.t00 == 2) = true := by simp [h2]
  clear he h3 h1 h2
  go_enter Try.func36, Try.ntmps36
  go_wp2_with fail
  refine (qgoes_any _ _).mono ?_
  rintro e w' ⟨rfl, rfl⟩
  rw [show goes 1 = true from rfl]
  go_wp2_with fail
  refine bodyPost_ret (v := rnV ⟨4, 1, mi, wa, l0, l1, l2, te⟩) (by simp [results, Try.results36, go_sem]) rfl ⟨rfl, ba (below2 _ _ _)⟩
set_option maxRecDepth 100000 in
set_option maxHeartbeats 1000000 in
theorem qmeet_10w_3 (r : Ru) (mi wa : Int) (l0 l1 l2 te : Bool) (h3 : r.t00 = 3) (w : World) : Calls Try.prog 36 #[ruV r, rnV ⟨4, 1, mi, wa, l0, l1, l2, te⟩, .int .i64 0] w (RetRn (meetR r ⟨4, 1, mi, wa, l0, l1, l2, te⟩ 0) w) := by
  have he : meetR r ⟨4, 1, mi, wa, l0, l1, l2, te⟩ 0 = (ended ⟨4, 1, mi, wa, l0, l1, l2, te⟩ 7) := by
    unfold meetR
    rw [show inPh ⟨4, 1, mi, wa, l0, l1, l2, te⟩ = (1 : Int) from rfl, if_pos (show goes 1 = true from rfl), if_pos (show r.tb 1 0 = 3 from h3)]
  rw [he]
  have t3 : (r.t00 == 3) = true := by simp [h3]
  clear he h3
  go_enter Try.func36, Try.ntmps36
  go_wp2_with fail
  refine (qgoes_any _ _).mono ?_
  rintro e w' ⟨rfl, rfl⟩
  rw [show goes 1 = true from rfl]
  go_wp2_with fail
  refine (qended_any ⟨4, 1, mi, wa, l0, l1, l2, te⟩ 7 _).mono ?_
  rintro e w' ⟨rfl, rfl⟩
  go_wp2_with fail
  refine bodyPost_ret (v := rnV (ended ⟨4, 1, mi, wa, l0, l1, l2, te⟩ 7)) (by simp [results, Try.results36, go_sem]) rfl ⟨rfl, ba (ba (ba (below2 _ _ _)))⟩
set_option maxRecDepth 100000 in
set_option maxHeartbeats 1000000 in
theorem qmeet_11_0 (r : Ru) (be mi wa : Int) (l0 l1 l2 te : Bool) (h3 : ¬ r.t01 = 3) (h1 : ¬ r.t01 = 1) (h2 : ¬ r.t01 = 2) (w : World) : Calls Try.prog 36 #[ruV r, rnV ⟨1, be, mi, wa, l0, l1, l2, te⟩, .int .i64 1] w (RetRn (meetR r ⟨1, be, mi, wa, l0, l1, l2, te⟩ 1) w) := by
  have he : meetR r ⟨1, be, mi, wa, l0, l1, l2, te⟩ 1 = ⟨1, be, mi, wa, l0, l1, l2, te⟩ := by
    unfold meetR
    rw [show inPh ⟨1, be, mi, wa, l0, l1, l2, te⟩ = (1 : Int) from rfl, if_pos (show goes 1 = true from rfl), if_neg (show ¬ r.tb 1 1 = 3 from h3), if_neg (show ¬ r.tb 1 1 = 1 from h1), if_neg (show ¬ r.tb 1 1 = 2 from h2)]
  rw [he]
  have t3 : (r.t01 == 3) = false := by simp [h3]
  have t1 : (r.t01 == 1) = false := by simp [h1]
  have t2 : (r.t01 == 2) = false := by simp [h2]
  clear he h3 h1 h2
  go_enter Try.func36, Try.ntmps36
  go_wp2_with fail
  refine (qgoes_any _ _).mono ?_
  rintro e w' ⟨rfl, rfl⟩
  rw [show goes 1 = true from rfl]
  go_wp2_with fail
  refine bodyPost_ret (v := rnV ⟨1, be, mi, wa, l0, l1, l2, te⟩) (by simp [results, Try.results36, go_sem]) rfl ⟨rfl, ba (below2 _ _ _)⟩
set_option maxRecDepth 100000 in
set_option maxHeartbeats 1000000 in
theorem qmeet_11_1 (r : Ru) (be mi wa : Int) (l0 l1 l2 te : Bool) (h3 : ¬ r.t01 = 3) (h1 : r.t01 = 1) (w : World) : Calls Try.prog 36 #[ruV r, rnV ⟨1, be, mi, wa, l0, l1, l2, te⟩, .int .i64 1] w (RetRn (meetR r ⟨1, be, mi, wa, l0, l1, l2, te⟩ 1) w) := by
  have he : meetR r ⟨1, be, mi, wa, l0, l1, l2, te⟩ 1 = ⟨1, be, mi, wa, l0, l1, l2, true⟩ := by
    unfold meetR
    rw [show inPh ⟨1, be, mi, wa, l0, l1, l2, te⟩ = (1 : Int) from rfl, if_pos (show goes 1 = true from rfl), if_neg (show ¬ r.tb 1 1 = 3 from h3), if_pos (show r.tb 1 1 = 1 from h1)]
  rw [he]
  have t3 : (r.t01 == 3) = false := by simp [h3]
  have t1 : (r.t01 == 1) = true := by simp [h1]
  have t2 : (r.t01 == 2) = false := by simp [h1]
  clear he h3 h1
  go_enter Try.func36, Try.ntmps36
  go_wp2_with fail
  refine (qgoes_any _ _).mono ?_
  rintro e w' ⟨rfl, rfl⟩
  rw [show goes 1 = true from rfl]
  go_wp2_with fail
  refine bodyPost_ret (v := rnV ⟨1, be, mi, wa, l0, l1, l2, true⟩) (by simp [results, Try.results36, go_sem]) rfl ⟨rfl, ba (below2 _ _ _)⟩
set_option maxRecDepth 100000 in
set_option maxHeartbeats 1000000 in
theorem qmeet_11_2 (r : Ru) (be mi wa : Int) (l0 l1 l2 te : Bool) (h3 : ¬ r.t01 = 3) (h1 : ¬ r.t01 = 1) (h2 : r.t01 = 2) (w : World) : Calls Try.prog 36 #[ruV r, rnV ⟨1, be, mi, wa, l0, l1, l2, te⟩, .int .i64 1] w (RetRn (meetR r ⟨1, be, mi, wa, l0, l1, l2, te⟩ 1) w) := by
  have he : meetR r ⟨1, be, mi, wa, l0, l1, l2, te⟩ 1 = ⟨4, 1, mi, 0, l0, l1, l2, te⟩ := by
    unfold meetR
    rw [show inPh ⟨1, be, mi, wa, l0, l1, l2, te⟩ = (1 : Int) from rfl, if_pos (show goes 1 = true from rfl), if_neg (show ¬ r.tb 1 1 = 3 from h3), if_neg (show ¬ r.tb 1 1 = 1 from h1), if_pos (show r.tb 1 1 = 2 from h2), if_neg (show ¬ (1 : Int) = 4 by decide)]
  rw [he]
  have t3 : (r.t01 == 3) = false := by simp [h3]
  have t1 : (r.t01 == 1) = false := by simp [h1]
  have t2 : (r.t01 == 2) = true := by simp [h2]
  clear he h3 h1 h2
  go_enter Try.func36, Try.ntmps36
  go_wp2_with fail
  refine (qgoes_any _ _).mono ?_
  rintro e w' ⟨rfl, rfl⟩
  rw [show goes 1 = true from rfl]
  go_wp2_with fail
  refine bodyPost_ret (v := rnV ⟨4, 1, mi, 0, l0, l1, l2, te⟩) (by simp [results, Try.results36, go_sem]) rfl ⟨rfl, ba (below2 _ _ _)⟩
set_option maxRecDepth 100000 in
set_option maxHeartbeats 1000000 in
theorem qmeet_11_3 (r : Ru) (be mi wa : Int) (l0 l1 l2 te : Bool) (h3 : r.t01 = 3) (w : World) : Calls Try.prog 36 #[ruV r, rnV ⟨1, be, mi, wa, l0, l1, l2, te⟩, .int .i64 1] w (RetRn (meetR r ⟨1, be, mi, wa, l0, l1, l2, te⟩ 1) w) := by
  have he : meetR r ⟨1, be, mi, wa, l0, l1, l2, te⟩ 1 = (ended ⟨1, be, mi, wa, l0, l1, l2, te⟩ 7) := by
    unfold meetR
    rw [show inPh ⟨1, be, mi, wa, l0, l1, l2, te⟩ = (1 : Int) from rfl, if_pos (show goes 1 = true from rfl), if_pos (show r.tb 1 1 = 3 from h3)]
  rw [he]
  have t3 : (r.t01 == 3) = true := by simp [h3]
  clear he h3
  go_enter Try.func36, Try.ntmps36
  go_wp2_with fail
  refine (qgoes_any _ _).mono ?_
  rintro e w' ⟨rfl, rfl⟩
  rw [show goes 1 = true from rfl]
  go_wp2_with fail
  refine (qended_any ⟨1, be, mi, wa, l0, l1, l2, te⟩ 7 _).mono ?_
  rintro e w' ⟨rfl, rfl⟩
  go_wp2_with fail
  refine bodyPost_ret (v := rnV (ended ⟨1, be, mi, wa, l0, l1, l2, te⟩ 7)) (by simp [results, Try.results36, go_sem]) rfl ⟨rfl, ba (ba (ba (below2 _ _ _)))⟩
set_option maxRecDepth 100000 in
set_option maxHeartbeats 1000000 in
theorem qmeet_11w_0 (r : Ru) (mi wa : Int) (l0 l1 l2 te : Bool) (h3 : ¬ r.t01 = 3) (h1 : ¬ r.t01 = 1) (h2 : ¬ r.t01 = 2) (w : World) : Calls Try.prog 36 #[ruV r, rnV ⟨4, 1, mi, wa, l0, l1, l2, te⟩, .int .i64 1] w (RetRn (meetR r ⟨4, 1, mi, wa, l0, l1, l2, te⟩ 1) w) := by
  have he : meetR r ⟨4, 1, mi, wa, l0, l1, l2, te⟩ 1 = ⟨4, 1, mi, wa, l0, l1, l2, te⟩ := by
    unfold meetR
    rw [show inPh ⟨4, 1, mi, wa, l0, l1, l2, te⟩ = (1 : Int) from rfl, if_pos (show goes 1 = true from rfl), if_neg (show ¬ r.tb 1 1 = 3 from h3), if_neg (show ¬ r.tb 1 1 = 1 from h1), if_neg (show ¬ r.tb 1 1 = 2 from h2)]
  rw [he]
  have t3 : (r.t01 == 3) = false := by simp [h3]
  have t1 : (r.t01 == 1) = false := by simp [h1]
  have t2 : (r.t01 == 2) = false := by simp [h2]
  clear he h3 h1 h2
  go_enter Try.func36, Try.ntmps36
  go_wp2_with fail
  refine (qgoes_any _ _).mono ?_
  rintro e w' ⟨rfl, rfl⟩
  rw [show goes 1 = true from rfl]
  go_wp2_with fail
  refine bodyPost_ret (v := rnV ⟨4, 1, mi, wa, l0, l1, l2, te⟩) (by simp [results, Try.results36, go_sem]) rfl ⟨rfl, ba (below2 _ _ _)⟩
set_option maxRecDepth 100000 in
set_option maxHeartbeats 1000000 in
theorem qmeet_11w_1 (r : Ru) (mi wa : Int) (l0 l1 l2 te : Bool) (h3 : ¬ r.t01 = 3) (h1 : r.t01 = 1) (w : World) : Calls Try.prog 36 #[ruV r, rnV ⟨4, 1, mi, wa, l0, l1, l2, te⟩, .int .i64 1] w (RetRn (meetR r ⟨4, 1, mi, wa, l0, l1, l2, te⟩ 1) w) := by
  have he : meetR r ⟨4, 1, mi, wa, l0, l1, l2, te⟩ 1 = ⟨4, 1, mi, wa, l0, l1, l2, true⟩ := by
    unfold meetR
    rw [show inPh ⟨4, 1, mi, wa, l0, l1, l2, te⟩ = (1 : Int) from rfl, if_pos (show goes 1 = true from rfl), if_neg (show ¬ r.tb 1 1 = 3 from h3), if_pos (show r.tb 1 1 = 1 from h1)]
  rw [he]
  have t3 : (r.t01 == 3) = false := by simp [h3]
  have t1 : (r.t01 == 1) = true := by simp [h1]
  have t2 : (r.t01 == 2) = false := by simp [h1]
  clear he h3 h1
  go_enter Try.func36, Try.ntmps36
  go_wp2_with fail
  refine (qgoes_any _ _).mono ?_
  rintro e w' ⟨rfl, rfl⟩
  rw [show goes 1 = true from rfl]
  go_wp2_with fail
  refine bodyPost_ret (v := rnV ⟨4, 1, mi, wa, l0, l1, l2, true⟩) (by simp [results, Try.results36, go_sem]) rfl ⟨rfl, ba (below2 _ _ _)⟩
set_option maxRecDepth 100000 in
set_option maxHeartbeats 1000000 in
theorem qmeet_11w_2 (r : Ru) (mi wa : Int) (l0 l1 l2 te : Bool) (h3 : ¬ r.t01 = 3) (h1 : ¬ r.t01 = 1) (h2 : r.t01 = 2) (w : World) : Calls Try.prog 36 #[ruV r, rnV ⟨4, 1, mi, wa, l0, l1, l2, te⟩, .int .i64 1] w (RetRn (meetR r ⟨4, 1, mi, wa, l0, l1, l2, te⟩ 1) w) := by
  have he : meetR r ⟨4, 1, mi, wa, l0, l1, l2, te⟩ 1 = ⟨4, 1, mi, wa, l0, l1, l2, te⟩ := by
    unfold meetR
    rw [show inPh ⟨4, 1, mi, wa, l0, l1, l2, te⟩ = (1 : Int) from rfl, if_pos (show goes 1 = true from rfl), if_neg (show ¬ r.tb 1 1 = 3 from h3), if_neg (show ¬ r.tb 1 1 = 1 from h1), if_pos (show r.tb 1 1 = 2 from h2), if_pos rfl]
  rw [he]
  have t3 : (r.t01 == 3) = false := by simp [h3]
  have t1 : (r.t01 == 1) = false := by simp [h1]
  have t2 : (r.t01 == 2) = true := by simp [h2]
  clear he h3 h1 h2
  go_enter Try.func36, Try.ntmps36
  go_wp2_with fail
  refine (qgoes_any _ _).mono ?_
  rintro e w' ⟨rfl, rfl⟩
  rw [show goes 1 = true from rfl]
  go_wp2_with fail
  refine bodyPost_ret (v := rnV ⟨4, 1, mi, wa, l0, l1, l2, te⟩) (by simp [results, Try.results36, go_sem]) rfl ⟨rfl, ba (below2 _ _ _)⟩
set_option maxRecDepth 100000 in
set_option maxHeartbeats 1000000 in
theorem qmeet_11w_3 (r : Ru) (mi wa : Int) (l0 l1 l2 te : Bool) (h3 : r.t01 = 3) (w : World) : Calls Try.prog 36 #[ruV r, rnV ⟨4, 1, mi, wa, l0, l1, l2, te⟩, .int .i64 1] w (RetRn (meetR r ⟨4, 1, mi, wa, l0, l1, l2, te⟩ 1) w) := by
  have he : meetR r ⟨4, 1, mi, wa, l0, l1, l2, te⟩ 1 = (ended ⟨4, 1, mi, wa, l0, l1, l2, te⟩ 7) := by
    unfold meetR
    rw [show inPh ⟨4, 1, mi, wa, l0, l1, l2, te⟩ = (1 : Int) from rfl, if_pos (show goes 1 = true from rfl), if_pos (show r.tb 1 1 = 3 from h3)]
  rw [he]
  have t3 : (r.t01 == 3) = true := by simp [h3]
  clear he h3
  go_enter Try.func36, Try.ntmps36
  go_wp2_with fail
  refine (qgoes_any _ _).mono ?_
  rintro e w' ⟨rfl, rfl⟩
  rw [show goes 1 = true from rfl]
  go_wp2_with fail
  refine (qended_any ⟨4, 1, mi, wa, l0, l1, l2, te⟩ 7 _).mono ?_
  rintro e w' ⟨rfl, rfl⟩
  go_wp2_with fail
  refine bodyPost_ret (v := rnV (ended ⟨4, 1, mi, wa, l0, l1, l2, te⟩ 7)) (by simp [results, Try.results36, go_sem]) rfl ⟨rfl, ba (ba (ba (below2 _ _ _)))⟩
set_option maxRecDepth 100000 in
set_option maxHeartbeats 1000000 in
theorem qmeet_12_0 (r : Ru) (be mi wa : Int) (l0 l1 l2 te : Bool) (h3 : ¬ r.t02 = 3) (h1 : ¬ r.t02 = 1) (h2 : ¬ r.t02 = 2) (w : World) : Calls Try.prog 36 #[ruV r, rnV ⟨1, be, mi, wa, l0, l1, l2, te⟩, .int .i64 2] w (RetRn (meetR r ⟨1, be, mi, wa, l0, l1, l2, te⟩ 2) w) := by
  have he : meetR r ⟨1, be, mi, wa, l0, l1, l2, te⟩ 2 = ⟨1, be, mi, wa, l0, l1, l2, te⟩ := by
    unfold meetR
    rw [show inPh ⟨1, be, mi, wa, l0, l1, l2, te⟩ = (1 : Int) from rfl, if_pos (show goes 1 = true from rfl), if_neg (show ¬ r.tb 1 2 = 3 from h3), if_neg (show ¬ r.tb 1 2 = 1 from h1), if_neg (show ¬ r.tb 1 2 = 2 from h2)]
  rw [he]
  have t3 : (r.t02 == 3) = false := by simp [h3]
  have t1 : (r.t02 == 1) = false := by simp [h1]
  have t2 : (r.t02 == 2) = false := by simp [h2]
  clear he h3 h1 h2
  go_enter Try.func36, Try.ntmps36
  go_wp2_with fail
  refine (qgoes_any _ _).mono ?_
  rintro e w' ⟨rfl, rfl⟩
  rw [show goes 1 = true from rfl]
  go_wp2_with fail
  refine bodyPost_ret (v := rnV ⟨1, be, mi, wa, l0, l1, l2, te⟩) (by simp [results, Try.results36, go_sem]) rfl ⟨rfl, ba (below2 _ _ _)⟩
set_option maxRecDepth 100000 in
set_option maxHeartbeats 1000000 in
theorem qmeet_12_1 (r : Ru) (be mi wa : Int) (l0 l1 l2 te : Bool) (h3 : ¬ r.t02 = 3) (h1 : r.t02 = 1) (w : World) : Calls Try.prog 36 #[ruV r, rnV ⟨1, be, mi, wa, l0, l1, l2, te⟩, .int .i64 2] w (RetRn (meetR r ⟨1, be, mi, wa, l0, l1, l2, te⟩ 2) w) := by
  have he : meetR r ⟨1, be, mi, wa, l0, l1, l2, te⟩ 2 = ⟨1, be, mi, wa, l0, l1, l2, true⟩ := by
    unfold meetR
    rw [show inPh ⟨1, be, mi, wa, l0, l1, l2, te⟩ = (1 : Int) from rfl, if_pos (show goes 1 = true from rfl), if_neg (show ¬ r.tb 1 2 = 3 from h3), if_pos (show r.tb 1 2 = 1 from h1)]
  rw [he]
  have t3 : (r.t02 == 3) = false := by simp [h3]
  have t1 : (r.t02 == 1) = true := by simp [h1]
  have t2 : (r.t02 == 2) = false := by simp [h1]
  clear he h3 h1
  go_enter Try.func36, Try.ntmps36
  go_wp2_with fail
  refine (qgoes_any _ _).mono ?_
  rintro e w' ⟨rfl, rfl⟩
  rw [show goes 1 = true from rfl]
  go_wp2_with fail
  refine bodyPost_ret (v := rnV ⟨1, be, mi, wa, l0, l1, l2, true⟩) (by simp [results, Try.results36, go_sem]) rfl ⟨rfl, ba (below2 _ _ _)⟩
set_option maxRecDepth 100000 in
set_option maxHeartbeats 1000000 in
theorem qmeet_12_2 (r : Ru) (be mi wa : Int) (l0 l1 l2 te : Bool) (h3 : ¬ r.t02 = 3) (h1 : ¬ r.t02 = 1) (h2 : r.t02 = 2) (w : World) : Calls Try.prog 36 #[ruV r, rnV ⟨1, be, mi, wa, l0, l1, l2, te⟩, .int .i64 2] w (RetRn (meetR r ⟨1, be, mi, wa, l0, l1, l2, te⟩ 2) w) := by
  have he : meetR r ⟨1, be, mi, wa, l0, l1, l2, te⟩ 2 = ⟨4, 1, mi, 0, l0, l1, l2, te⟩ := by
    unfold meetR
    rw [show inPh ⟨1, be, mi, wa, l0, l1, l2, te⟩ = (1 : Int) from rfl, if_pos (show goes 1 = true from rfl), if_neg (show ¬ r.tb 1 2 = 3 from h3), if_neg (show ¬ r.tb 1 2 = 1 from h1), if_pos (show r.tb 1 2 = 2 from h2), if_neg (show ¬ (1 : Int) = 4 by decide)]
  rw [he]
  have t3 : (r.t02 == 3) = false := by simp [h3]
  have t1 : (r.t02 == 1) = false := by simp [h1]
  have t2 : (r.t02 == 2) = true := by simp [h2]
  clear he h3 h1 h2
  go_enter Try.func36, Try.ntmps36
  go_wp2_with fail
  refine (qgoes_any _ _).mono ?_
  rintro e w' ⟨rfl, rfl⟩
  rw [show goes 1 = true from rfl]
  go_wp2_with fail
  refine bodyPost_ret (v := rnV ⟨4, 1, mi, 0, l0, l1, l2, te⟩) (by simp [results, Try.results36, go_sem]) rfl ⟨rfl, ba (below2 _ _ _)⟩
set_option maxRecDepth 100000 in
set_option maxHeartbeats 1000000 in
theorem qmeet_12_3 (r : Ru) (be mi wa : Int) (l0 l1 l2 te : Bool) (h3 : r.t02 = 3) (w : World) : Calls Try.prog 36 #[ruV r, rnV ⟨1, be, mi, wa, l0, l1, l2, te⟩, .int .i64 2] w (RetRn (meetR r ⟨1, be, mi, wa, l0, l1, l2, te⟩ 2) w) := by
  have he : meetR r ⟨1, be, mi, wa, l0, l1, l2, te⟩ 2 = (ended ⟨1, be, mi, wa, l0, l1, l2, te⟩ 7) := by
    unfold meetR
    rw [show inPh ⟨1, be, mi, wa, l0, l1, l2, te⟩ = (1 : Int) from rfl, if_pos (show goes 1 = true from rfl), if_pos (show r.tb 1 2 = 3 from h3)]
  rw [he]
  have t3 : (r.t02 == 3) = true := by simp [h3]
  clear he h3
  go_enter Try.func36, Try.ntmps36
  go_wp2_with fail
  refine (qgoes_any _ _).mono ?_
  rintro e w' ⟨rfl, rfl⟩
  rw [show goes 1 = true from rfl]
  go_wp2_with fail
  refine (qended_any ⟨1, be, mi, wa, l0, l1, l2, te⟩ 7 _).mono ?_
  rintro e w' ⟨rfl, rfl⟩
  go_wp2_with fail
  refine bodyPost_ret (v := rnV (ended ⟨1, be, mi, wa, l0, l1, l2, te⟩ 7)) (by simp [results, Try.results36, go_sem]) rfl ⟨rfl, ba (ba (ba (below2 _ _ _)))⟩
set_option maxRecDepth 100000 in
set_option maxHeartbeats 1000000 in
theorem qmeet_12w_0 (r : Ru) (mi wa : Int) (l0 l1 l2 te : Bool) (h3 : ¬ r.t02 = 3) (h1 : ¬ r.t02 = 1) (h2 : ¬ r.t02 = 2) (w : World) : Calls Try.prog 36 #[ruV r, rnV ⟨4, 1, mi, wa, l0, l1, l2, te⟩, .int .i64 2] w (RetRn (meetR r ⟨4, 1, mi, wa, l0, l1, l2, te⟩ 2) w) := by
  have he : meetR r ⟨4, 1, mi, wa, l0, l1, l2, te⟩ 2 = ⟨4, 1, mi, wa, l0, l1, l2, te⟩ := by
    unfold meetR
    rw [show inPh ⟨4, 1, mi, wa, l0, l1, l2, te⟩ = (1 : Int) from rfl, if_pos (show goes 1 = true from rfl), if_neg (show ¬ r.tb 1 2 = 3 from h3), if_neg (show ¬ r.tb 1 2 = 1 from h1), if_neg (show ¬ r.tb 1 2 = 2 from h2)]
  rw [he]
  have t3 : (r.t02 == 3) = false := by simp [h3]
  have t1 : (r.t02 == 1) = false := by simp [h1]
  have t2 : (r.t02 == 2) = false := by simp [h2]
  clear he h3 h1 h2
  go_enter Try.func36, Try.ntmps36
  go_wp2_with fail
  refine (qgoes_any _ _).mono ?_
  rintro e w' ⟨rfl, rfl⟩
  rw [show goes 1 = true from rfl]
  go_wp2_with fail
  refine bodyPost_ret (v := rnV ⟨4, 1, mi, wa, l0, l1, l2, te⟩) (by simp [results, Try.results36, go_sem]) rfl ⟨rfl, ba (below2 _ _ _)⟩
set_option maxRecDepth 100000 in
set_option maxHeartbeats 1000000 in
theorem qmeet_12w_1 (r : Ru) (mi wa : Int) (l0 l1 l2 te : Bool) (h3 : ¬ r.t02 = 3) (h1 : r.t02 = 1) (w : World) : Calls Try.prog 36 #[ruV r, rnV ⟨4, 1, mi, wa, l0, l1, l2, te⟩, .int .i64 2] w (RetRn (meetR r ⟨4, 1, mi, wa, l0, l1, l2, te⟩ 2) w) := by
  have he : meetR r ⟨4, 1, mi, wa, l0, l1, l2, te⟩ 2 = ⟨4, 1, mi, wa, l0, l1, l2, true⟩ := by
    unfold meetR
    rw [show inPh ⟨4, 1, mi, wa, l0, l1, l2, te⟩ = (1 : Int) from rfl, if_pos (show goes 1 = true from rfl), if_neg (show ¬ r.tb 1 2 = 3 from h3), if_pos (show r.tb 1 2 = 1 from h1)]
  rw [he]
  have t3 : (r.t02 == 3) = false := by simp [h3]
  have t1 : (r.t02 == 1) = true := by simp [h1]
  have t2 : (r.t02 == 2) = false := by simp [h1]
  clear he h3 h1
  go_enter Try.func36, Try.ntmps36
  go_wp2_with fail
  refine (qgoes_any _ _).mono ?_
  rintro e w' ⟨rfl, rfl⟩
  rw [show goes 1 = true from rfl]
  go_wp2_with fail
  refine bodyPost_ret (v := rnV ⟨4, 1, mi, wa, l0, l1, l2, true⟩) (by simp [results, Try.results36, go_sem]) rfl ⟨rfl, ba (below2 _ _ _)⟩
set_option maxRecDepth 100000 in
set_option maxHeartbeats 1000000 in
theorem qmeet_12w_2 (r : Ru) (mi wa : Int) (l0 l1 l2 te : Bool) (h3 : ¬ r.t02 = 3) (h1 : ¬ r.t02 = 1) (h2 : r.t02 = 2) (w : World) : Calls Try.prog 36 #[ruV r, rnV ⟨4, 1, mi, wa, l0, l1, l2, te⟩, .int .i64 2] w (RetRn (meetR r ⟨4, 1, mi, wa, l0, l1, l2, te⟩ 2) w) := by
  have he : meetR r ⟨4, 1, mi, wa, l0, l1, l2, te⟩ 2 = ⟨4, 1, mi, wa, l0, l1, l2, te⟩ := by
    unfold meetR
    rw [show inPh ⟨4, 1, mi, wa, l0, l1, l2, te⟩ = (1 : Int) from rfl, if_pos (show goes 1 = true from rfl), if_neg (show ¬ r.tb 1 2 = 3 from h3), if_neg (show ¬ r.tb 1 2 = 1 from h1), if_pos (show r.tb 1 2 = 2 from h2), if_pos rfl]
  rw [he]
  have t3 : (r.t02 == 3) = false := by simp [h3]
  have t1 : (r.t02 == 1) = false := by simp [h1]
  have t2 : (r.t02 == 2) = true := by simp [h2]
  clear he h3 h1 h2
  go_enter Try.func36, Try.ntmps36
  go_wp2_with fail
  refine (qgoes_any _ _).mono ?_
  rintro e w' ⟨rfl, rfl⟩
  rw [show goes 1 = true from rfl]
  go_wp2_with fail
  refine bodyPost_ret (v := rnV ⟨4, 1, mi, wa, l0, l1, l2, te⟩) (by simp [results, Try.results36, go_sem]) rfl ⟨rfl, ba (below2 _ _ _)⟩
set_option maxRecDepth 100000 in
set_option maxHeartbeats 1000000 in
theorem qmeet_12w_3 (r : Ru) (mi wa : Int) (l0 l1 l2 te : Bool) (h3 : r.t02 = 3) (w : World) : Calls Try.prog 36 #[ruV r, rnV ⟨4, 1, mi, wa, l0, l1, l2, te⟩, .int .i64 2] w (RetRn (meetR r ⟨4, 1, mi, wa, l0, l1, l2, te⟩ 2) w) := by
  have he : meetR r ⟨4, 1, mi, wa, l0, l1, l2, te⟩ 2 = (ended ⟨4, 1, mi, wa, l0, l1, l2, te⟩ 7) := by
    unfold meetR
    rw [show inPh ⟨4, 1, mi, wa, l0, l1, l2, te⟩ = (1 : Int) from rfl, if_pos (show goes 1 = true from rfl), if_pos (show r.tb 1 2 = 3 from h3)]
  rw [he]
  have t3 : (r.t02 == 3) = true := by simp [h3]
  clear he h3
  go_enter Try.func36, Try.ntmps36
  go_wp2_with fail
  refine (qgoes_any _ _).mono ?_
  rintro e w' ⟨rfl, rfl⟩
  rw [show goes 1 = true from rfl]
  go_wp2_with fail
  refine (qended_any ⟨4, 1, mi, wa, l0, l1, l2, te⟩ 7 _).mono ?_
  rintro e w' ⟨rfl, rfl⟩
  go_wp2_with fail
  refine bodyPost_ret (v := rnV (ended ⟨4, 1, mi, wa, l0, l1, l2, te⟩ 7)) (by simp [results, Try.results36, go_sem]) rfl ⟨rfl, ba (ba (ba (below2 _ _ _)))⟩
set_option maxRecDepth 100000 in
set_option maxHeartbeats 1000000 in
theorem qmeet_20_0 (r : Ru) (be mi wa : Int) (l0 l1 l2 te : Bool) (h3 : ¬ r.t10 = 3) (h1 : ¬ r.t10 = 1) (h2 : ¬ r.t10 = 2) (w : World) : Calls Try.prog 36 #[ruV r, rnV ⟨2, be, mi, wa, l0, l1, l2, te⟩, .int .i64 0] w (RetRn (meetR r ⟨2, be, mi, wa, l0, l1, l2, te⟩ 0) w) := by
  have he : meetR r ⟨2, be, mi, wa, l0, l1, l2, te⟩ 0 = ⟨2, be, mi, wa, l0, l1, l2, te⟩ := by
    unfold meetR
    rw [show inPh ⟨2, be, mi, wa, l0, l1, l2, te⟩ = (2 : Int) from rfl, if_pos (show goes 2 = true from rfl), if_neg (show ¬ r.tb 2 0 = 3 from h3), if_neg (show ¬ r.tb 2 0 = 1 from h1), if_neg (show ¬ r.tb 2 0 = 2 from h2)]
  rw [he]
  have t3 : (r.t10 == 3) = false := by simp [h3]
  have t1 : (r.t10 == 1) = false := by simp [h1]
  have t2 : (r.t10 == 2) = false := by simp [h2]
  clear he h3 h1 h2
  go_enter Try.func36, Try.ntmps36
  go_wp2_with fail
  refine (qgoes_any _ _).mono ?_
  rintro e w' ⟨rfl, rfl⟩
  rw [show goes 2 = true from rfl]
  go_wp2_with fail
  refine bodyPost_ret (v := rnV ⟨2, be, mi, wa, l0, l1, l2, te⟩) (by simp [results, Try.results36, go_sem]) rfl ⟨rfl, ba (below2 _ _ _)⟩
set_option maxRecDepth 100000 in
set_option maxHeartbeats 1000000 in
theorem qmeet_20_1 (r : Ru) (be mi wa : Int) (l0 l1 l2 te : Bool) (h3 : ¬ r.t10 = 3) (h1 : r.t10 = 1) (w : World) : Calls Try.prog 36 #[ruV r, rnV ⟨2, be, mi, wa, l0, l1, l2, te⟩, .int .i64 0] w (RetRn (meetR r ⟨2, be, mi, wa, l0, l1, l2, te⟩ 0) w) := by
  have he : meetR r ⟨2, be, mi, wa, l0, l1, l2, te⟩ 0 = ⟨2, be, mi, wa, l0, l1, l2, true⟩ := by
    unfold meetR
    rw [show inPh ⟨2, be, mi, wa, l0, l1, l2, te⟩ = (2 : Int) from rfl, if_pos (show goes 2 = true from rfl), if_neg (show ¬ r.tb 2 0 = 3 from h3), if_pos (show r.tb 2 0 = 1 from h1)]
  rw [he]
  have t3 : (r.t10 == 3) = false := by simp [h3]
  have t1 : (r.t10 == 1) = true := by simp [h1]
  have t2 : (r.t10 == 2) = false := by simp [h1]
  clear he h3 h1
  go_enter Try.func36, Try.ntmps36
  go_wp2_with fail
  refine (qgoes_any _ _).mono ?_
  rintro e w' ⟨rfl, rfl⟩
  rw [show goes 2 = true from rfl]
  go_wp2_with fail
  refine bodyPost_ret (v := rnV ⟨2, be, mi, wa, l0, l1, l2, true⟩) (by simp [results, Try.results36, go_sem]) rfl ⟨rfl, ba (below2 _ _ _)⟩
set_option maxRecDepth 100000 in
set_option maxHeartbeats 1000000 in
theorem qmeet_20_2 (r : Ru) (be mi wa : Int) (l0 l1 l2 te : Bool) (h3 : ¬ r.t10 = 3) (h1 : ¬ r.t10 = 1) (h2 : r.t10 = 2) (w : World) : Calls Try.prog 36 #[ruV r, rnV ⟨2, be, mi, wa, l0, l1, l2, te⟩, .int .i64 0] w (RetRn (meetR r ⟨2, be, mi, wa, l0, l1, l2, te⟩ 0) w) := by
  have he : meetR r ⟨2, be, mi, wa, l0, l1, l2, te⟩ 0 = ⟨4, 2, mi, 0, l0, l1, l2, te⟩ := by
    unfold meetR
    rw [show inPh ⟨2, be, mi, wa, l0, l1, l2, te⟩ = (2 : Int) from rfl, if_pos (show goes 2 = true from rfl), if_neg (show ¬ r.tb 2 0 = 3 from h3), if_neg (show ¬ r.tb 2 0 = 1 from h1), if_pos (show r.tb 2 0 = 2 from h2), if_neg (show ¬ (2 : Int) = 4 by decide)]
  rw [he]
  have t3 : (r.t10 == 3) = false := by simp [h3]
  have t1 : (r.t10 == 1) = false := by simp [h1]
  have t2 : (r.t10 == 2) = true := by simp [h2]
  clear he h3 h1 h2
  go_enter Try.func36, Try.ntmps36
  go_wp2_with fail
  refine (qgoes_any _ _).mono ?_
  rintro e w' ⟨rfl, rfl⟩
  rw [show goes 2 = true from rfl]
  go_wp2_with fail
  refine bodyPost_ret (v := rnV ⟨4, 2, mi, 0, l0, l1, l2, te⟩) (by simp [results, Try.results36, go_sem]) rfl ⟨rfl, ba (below2 _ _ _)⟩
set_option maxRecDepth 100000 in
set_option maxHeartbeats 1000000 in
theorem qmeet_20_3 (r : Ru) (be mi wa : Int) (l0 l1 l2 te : Bool) (h3 : r.t10 = 3) (w : World) : Calls Try.prog 36 #[ruV r, rnV ⟨2, be, mi, wa, l0, l1, l2, te⟩, .int .i64 0] w (RetRn (meetR r ⟨2, be, mi, wa, l0, l1, l2, te⟩ 0) w) := by
  have he : meetR r ⟨2, be, mi, wa, l0, l1, l2, te⟩ 0 = (ended ⟨2, be, mi, wa, l0, l1, l2, te⟩ 7) := by
    unfold meetR
    rw [show inPh ⟨2, be, mi, wa, l0, l1, l2, te⟩ = (2 : Int) from rfl, if_pos (show goes 2 = true from rfl), if_pos (show r.tb 2 0 = 3 from h3)]
  rw [he]
  have t3 : (r.t10 == 3) = true := by simp [h3]
  clear he h3
  go_enter Try.func36, Try.ntmps36
  go_wp2_with fail
  refine (qgoes_any _ _).mono ?_
  rintro e w' ⟨rfl, rfl⟩
  rw [show goes 2 = true from rfl]
  go_wp2_with fail
  refine (qended_any ⟨2, be, mi, wa, l0, l1, l2, te⟩ 7 _).mono ?_
  rintro e w' ⟨rfl, rfl⟩
  go_wp2_with fail
  refine bodyPost_ret (v := rnV (ended ⟨2, be, mi, wa, l0, l1, l2, te⟩ 7)) (by simp [results, Try.results36, go_sem]) rfl ⟨rfl, ba (ba (ba (below2 _ _ _)))⟩
set_option maxRecDepth 100000 in
set_option maxHeartbeats 1000000 in
theorem qmeet_20w_0 (r : Ru) (mi wa : Int) (l0 l1 l2 te : Bool) (h3 : ¬ r.t10 = 3) (h1 : ¬ r.t10 = 1) (h2 : ¬ r.t10 = 2) (w : World) : Calls Try.prog 36 #[ruV r, rnV ⟨4, 2, mi, wa, l0, l1, l2, te⟩, .int .i64 0] w (RetRn (meetR r ⟨4, 2, mi, wa, l0, l1, l2, te⟩ 0) w) := by
  have he : meetR r ⟨4, 2, mi, wa, l0, l1, l2, te⟩ 0 = ⟨4, 2, mi, wa, l0, l1, l2, te⟩ := by
    unfold meetR
    rw [show inPh ⟨4, 2, mi, wa, l0, l1, l2, te⟩ = (2 : Int) from rfl, if_pos (show goes 2 = true from rfl), if_neg (show ¬ r.tb 2 0 = 3 from h3), if_neg (show ¬ r.tb 2 0 = 1 from h1), if_neg (show ¬ r.tb 2 0 = 2 from h2)]
  rw [he]
  have t3 : (r.t10 == 3) = false := by simp [h3]
  have t1 : (r.t10 == 1) = false := by simp [h1]
  have t2 : (r.t10 == 2) = false := by simp [h2]
  clear he h3 h1 h2
  go_enter Try.func36, Try.ntmps36
  go_wp2_with fail
  refine (qgoes_any _ _).mono ?_
  rintro e w' ⟨rfl, rfl⟩
  rw [show goes 2 = true from rfl]
  go_wp2_with fail
  refine bodyPost_ret (v := rnV ⟨4, 2, mi, wa, l0, l1, l2, te⟩) (by simp [results, Try.results36, go_sem]) rfl ⟨rfl, ba (below2 _ _ _)⟩
set_option maxRecDepth 100000 in
set_option maxHeartbeats 1000000 in
theorem qmeet_20w_1 (r : Ru) (mi wa : Int) (l0 l1 l2 te : Bool) (h3 : ¬ r.t10 = 3) (h1 : r.t10 = 1) (w : World) : Calls Try.prog 36 #[ruV r, rnV ⟨4, 2, mi, wa, l0, l1, l2, te⟩, .int .i64 0] w (RetRn (meetR r ⟨4, 2, mi, wa, l0, l1, l2, te⟩ 0) w) := by
  have he : meetR r ⟨4, 2, mi, wa, l0, l1, l2, te⟩ 0 = ⟨4, 2, mi, wa, l0, l1, l2, true⟩ := by
    unfold meetR
    rw [show inPh ⟨4, 2, mi, wa, l0, l1, l2, te⟩ = (2 : Int) from rfl, if_pos (show goes 2 = true from rfl), if_neg (show ¬ r.tb 2 0 = 3 from h3), if_pos (show r.tb 2 0 = 1 from h1)]
  rw [he]
  have t3 : (r.t10 == 3) = false := by simp [h3]
  have t1 : (r.t10 == 1) = true := by simp [h1]
  have t2 : (r.t10 == 2) = false := by simp [h1]
  clear he h3 h1
  go_enter Try.func36, Try.ntmps36
  go_wp2_with fail
  refine (qgoes_any _ _).mono ?_
  rintro e w' ⟨rfl, rfl⟩
  rw [show goes 2 = true from rfl]
  go_wp2_with fail
  refine bodyPost_ret (v := rnV ⟨4, 2, mi, wa, l0, l1, l2, true⟩) (by simp [results, Try.results36, go_sem]) rfl ⟨rfl, ba (below2 _ _ _)⟩
set_option maxRecDepth 100000 in
set_option maxHeartbeats 1000000 in
theorem qmeet_20w_2 (r : Ru) (mi wa : Int) (l0 l1 l2 te : Bool) (h3 : ¬ r.t10 = 3) (h1 : ¬ r.t10 = 1) (h2 : r.t10 = 2) (w : World) : Calls Try.prog 36 #[ruV r, rnV ⟨4, 2, mi, wa, l0, l1, l2, te⟩, .int .i64 0] w (RetRn (meetR r ⟨4, 2, mi, wa, l0, l1, l2, te⟩ 0) w) := by
  have he : meetR r ⟨4, 2, mi, wa, l0, l1, l2, te⟩ 0 = ⟨4, 2, mi, wa, l0, l1, l2, te⟩ := by
    unfold meetR
    rw [show inPh ⟨4, 2, mi, wa, l0, l1, l2, te⟩ = (2 : Int) from rfl, if_pos (show goes 2 = true from rfl), if_neg (show ¬ r.tb 2 0 = 3 from h3), if_neg (show ¬ r.tb 2 0 = 1 from h1), if_pos (show r.tb 2 0 = 2 from h2), if_pos rfl]
  rw [he]
  have t3 : (r.t10 == 3) = false := by simp [h3]
  have t1 : (r.t10 == 1) = false := by simp [h1]
  have t2 : (r.t10 == 2) = true := by simp [h2]
  clear he h3 h1 h2
  go_enter Try.func36, Try.ntmps36
  go_wp2_with fail
  refine (qgoes_any _ _).mono ?_
  rintro e w' ⟨rfl, rfl⟩
  rw [show goes 2 = true from rfl]
  go_wp2_with fail
  refine bodyPost_ret (v := rnV ⟨4, 2, mi, wa, l0, l1, l2, te⟩) (by simp [results, Try.results36, go_sem]) rfl ⟨rfl, ba (below2 _ _ _)⟩
set_option maxRecDepth 100000 in
set_option maxHeartbeats 1000000 in
theorem qmeet_20w_3 (r : Ru) (mi wa : Int) (l0 l1 l2 te : Bool) (h3 : r.t10 = 3) (w : World) : Calls Try.prog 36 #[ruV r, rnV ⟨4, 2, mi, wa, l0, l1, l2, te⟩, .int .i64 0] w (RetRn (meetR r ⟨4, 2, mi, wa, l0, l1, l2, te⟩ 0) w) := by
  have he : meetR r ⟨4, 2, mi, wa, l0, l1, l2, te⟩ 0 = (ended ⟨4, 2, mi, wa, l0, l1, l2, te⟩ 7) := by
    unfold meetR
    rw [show inPh ⟨4, 2, mi, wa, l0, l1, l2, te⟩ = (2 : Int) from rfl, if_pos (show goes 2 = true from rfl), if_pos (show r.tb 2 0 = 3 from h3)]
  rw [he]
  have t3 : (r.t10 == 3) = true := by simp [h3]
  clear he h3
  go_enter Try.func36, Try.ntmps36
  go_wp2_with fail
  refine (qgoes_any _ _).mono ?_
  rintro e w' ⟨rfl, rfl⟩
  rw [show goes 2 = true from rfl]
  go_wp2_with fail
  refine (qended_any ⟨4, 2, mi, wa, l0, l1, l2, te⟩ 7 _).mono ?_
  rintro e w' ⟨rfl, rfl⟩
  go_wp2_with fail
  refine bodyPost_ret (v := rnV (ended ⟨4, 2, mi, wa, l0, l1, l2, te⟩ 7)) (by simp [results, Try.results36, go_sem]) rfl ⟨rfl, ba (ba (ba (below2 _ _ _)))⟩
set_option maxRecDepth 100000 in
set_option maxHeartbeats 1000000 in
theorem qmeet_21_0 (r : Ru) (be mi wa : Int) (l0 l1 l2 te : Bool) (h3 : ¬ r.t11 = 3) (h1 : ¬ r.t11 = 1) (h2 : ¬ r.t11 = 2) (w : World) : Calls Try.prog 36 #[ruV r, rnV ⟨2, be, mi, wa, l0, l1, l2, te⟩, .int .i64 1] w (RetRn (meetR r ⟨2, be, mi, wa, l0, l1, l2, te⟩ 1) w) := by
  have he : meetR r ⟨2, be, mi, wa, l0, l1, l2, te⟩ 1 = ⟨2, be, mi, wa, l0, l1, l2, te⟩ := by
    unfold meetR
    rw [show inPh ⟨2, be, mi, wa, l0, l1, l2, te⟩ = (2 : Int) from rfl, if_pos (show goes 2 = true from rfl), if_neg (show ¬ r.tb 2 1 = 3 from h3), if_neg (show ¬ r.tb 2 1 = 1 from h1), if_neg (show ¬ r.tb 2 1 = 2 from h2)]
  rw [he]
  have t3 : (r.t11 == 3) = false := by simp [h3]
  have t1 : (r.t11 == 1) = false := by simp [h1]
  have t2 : (r.t11 == 2) = false := by simp [h2]
  clear he h3 h1 h2
  go_enter Try.func36, Try.ntmps36
  go_wp2_with fail
  refine (qgoes_any _ _).mono ?_
  rintro e w' ⟨rfl, rfl⟩
  rw [show goes 2 = true from rfl]
  go_wp2_with fail
  refine bodyPost_ret (v := rnV ⟨2, be, mi, wa, l0, l1, l2, te⟩) (by simp [results, Try.results36, go_sem]) rfl ⟨rfl, ba (below2 _ _ _)⟩
set_option maxRecDepth 100000 in
set_option maxHeartbeats 1000000 in
theorem qmeet_21_1 (r : Ru) (be mi wa : Int) (l0 l1 l2 te : Bool) (h3 : ¬ r.t11 = 3) (h1 : r.t11 = 1) (w : World) : Calls Try.prog 36 #[ruV r, rnV ⟨2, be, mi, wa, l0, l1, l2, te⟩, .int .i64 1] w (RetRn (meetR r ⟨2, be, mi, wa, l0, l1, l2, te⟩ 1) w) := by
  have he : meetR r ⟨2, be, mi, wa, l0, l1, l2, te⟩ 1 = ⟨2, be, mi, wa, l0, l1, l2, true⟩ := by
    unfold meetR
    rw [show inPh ⟨2, be, mi, wa, l0, l1, l2, te⟩ = (2 : Int) from rfl, if_pos (show goes 2 = true from rfl), if_neg (show ¬ r.tb 2 1 = 3 from h3), if_pos (show r.tb 2 1 = 1 from h1)]
  rw [he]
  have t3 : (r.t11 == 3) = false := by simp [h3]
  have t1 : (r.t11 == 1) = true := by simp [h1]
  have t2 : (r.t11 == 2) = false := by simp [h1]
  clear he h3 h1
  go_enter Try.func36, Try.ntmps36
  go_wp2_with fail
  refine (qgoes_any _ _).mono ?_
  rintro e w' ⟨rfl, rfl⟩
  rw [show goes 2 = true from rfl]
  go_wp2_with fail
  refine bodyPost_ret (v := rnV ⟨2, be, mi, wa, l0, l1, l2, true⟩) (by simp [results, Try.results36, go_sem]) rfl ⟨rfl, ba (below2 _ _ _)⟩
set_option maxRecDepth 100000 in
set_option maxHeartbeats 1000000 in
theorem qmeet_21_2 (r : Ru) (be mi wa : Int) (l0 l1 l2 te : Bool) (h3 : ¬ r.t11 = 3) (h1 : ¬ r.t11 = 1) (h2 : r.t11 = 2) (w : World) : Calls Try.prog 36 #[ruV r, rnV ⟨2, be, mi, wa, l0, l1, l2, te⟩, .int .i64 1] w (RetRn (meetR r ⟨2, be, mi, wa, l0, l1, l2, te⟩ 1) w) := by
  have he : meetR r ⟨2, be, mi, wa, l0, l1, l2, te⟩ 1 = ⟨4, 2, mi, 0, l0, l1, l2, te⟩ := by
    unfold meetR
    rw [show inPh ⟨2, be, mi, wa, l0, l1, l2, te⟩ = (2 : Int) from rfl, if_pos (show goes 2 = true from rfl), if_neg (show ¬ r.tb 2 1 = 3 from h3), if_neg (show ¬ r.tb 2 1 = 1 from h1), if_pos (show r.tb 2 1 = 2 from h2), if_neg (show ¬ (2 : Int) = 4 by decide)]
  rw [he]
  have t3 : (r.t11 == 3) = false := by simp [h3]
  have t1 : (r.t11 == 1) = false := by simp [h1]
  have t2 : (r.t11 == 2) = true := by simp [h2]
  clear he h3 h1 h2
  go_enter Try.func36, Try.ntmps36
  go_wp2_with fail
  refine (qgoes_any _ _).mono ?_
  rintro e w' ⟨rfl, rfl⟩
  rw [show goes 2 = true from rfl]
  go_wp2_with fail
  refine bodyPost_ret (v := rnV ⟨4, 2, mi, 0, l0, l1, l2, te⟩) (by simp [results, Try.results36, go_sem]) rfl ⟨rfl, ba (below2 _ _ _)⟩
set_option maxRecDepth 100000 in
set_option maxHeartbeats 1000000 in
theorem qmeet_21_3 (r : Ru) (be mi wa : Int) (l0 l1 l2 te : Bool) (h3 : r.t11 = 3) (w : World) : Calls Try.prog 36 #[ruV r, rnV ⟨2, be, mi, wa, l0, l1, l2, te⟩, .int .i64 1] w (RetRn (meetR r ⟨2, be, mi, wa, l0, l1, l2, te⟩ 1) w) := by
  have he : meetR r ⟨2, be, mi, wa, l0, l1, l2, te⟩ 1 = (ended ⟨2, be, mi, wa, l0, l1, l2, te⟩ 7) := by
    unfold meetR
    rw [show inPh ⟨2, be, mi, wa, l0, l1, l2, te⟩ = (2 : Int) from rfl, if_pos (show goes 2 = true from rfl), if_pos (show r.tb 2 1 = 3 from h3)]
  rw [he]
  have t3 : (r.t11 == 3) = true := by simp [h3]
  clear he h3
  go_enter Try.func36, Try.ntmps36
  go_wp2_with fail
  refine (qgoes_any _ _).mono ?_
  rintro e w' ⟨rfl, rfl⟩
  rw [show goes 2 = true from rfl]
  go_wp2_with fail
  refine (qended_any ⟨2, be, mi, wa, l0, l1, l2, te⟩ 7 _).mono ?_
  rintro e w' ⟨rfl, rfl⟩
  go_wp2_with fail
  refine bodyPost_ret (v := rnV (ended ⟨2, be, mi, wa, l0, l1, l2, te⟩ 7)) (by simp [results, Try.results36, go_sem]) rfl ⟨rfl, ba (ba (ba (below2 _ _ _)))⟩
set_option maxRecDepth 100000 in
set_option maxHeartbeats 1000000 in
theorem qmeet_21w_0 (r : Ru) (mi wa : Int) (l0 l1 l2 te : Bool) (h3 : ¬ r.t11 = 3) (h1 : ¬ r.t11 = 1) (h2 : ¬ r.t11 = 2) (w : World) : Calls Try.prog 36 #[ruV r, rnV ⟨4, 2, mi, wa, l0, l1, l2, te⟩, .int .i64 1] w (RetRn (meetR r ⟨4, 2, mi, wa, l0, l1, l2, te⟩ 1) w) := by
  have he : meetR r ⟨4, 2, mi, wa, l0, l1, l2, te⟩ 1 = ⟨4, 2, mi, wa, l0, l1, l2, te⟩ := by
    unfold meetR
    rw [show inPh ⟨4, 2, mi, wa, l0, l1, l2, te⟩ = (2 : Int) from rfl, if_pos (show goes 2 = true from rfl), if_neg (show ¬ r.tb 2 1 = 3 from h3), if_neg (show ¬ r.tb 2 1 = 1 from h1), if_neg (show ¬ r.tb 2 1 = 2 from h2)]
  rw [he]
  have t3 : (r.t11 == 3) = false := by simp [h3]
  have t1 : (r.t11 == 1) = false := by simp [h1]
  have t2 : (r.t11 == 2) = false := by simp [h2]
  clear he h3 h1 h2
  go_enter Try.func36, Try.ntmps36
  go_wp2_with fail
  refine (qgoes_any _ _).mono ?_
  rintro e w' ⟨rfl, rfl⟩
  rw [show goes 2 = true from rfl]
  go_wp2_with fail
  refine bodyPost_ret (v := rnV ⟨4, 2, mi, wa, l0, l1, l2, te⟩) (by simp [results, Try.results36, go_sem]) rfl ⟨rfl, ba (below2 _ _ _)⟩
set_option maxRecDepth 100000 in
set_option maxHeartbeats 1000000 in
theorem qmeet_21w_1 (r : Ru) (mi wa : Int) (l0 l1 l2 te : Bool) (h3 : ¬ r.t11 = 3) (h1 : r.t11 = 1) (w : World) : Calls Try.prog 36 #[ruV r, rnV ⟨4, 2, mi, wa, l0, l1, l2, te⟩, .int .i64 1] w (RetRn (meetR r ⟨4, 2, mi, wa, l0, l1, l2, te⟩ 1) w) := by
  have he : meetR r ⟨4, 2, mi, wa, l0, l1, l2, te⟩ 1 = ⟨4, 2, mi, wa, l0, l1, l2, true⟩ := by
    unfold meetR
    rw [show inPh ⟨4, 2, mi, wa, l0, l1, l2, te⟩ = (2 : Int) from rfl, if_pos (show goes 2 = true from rfl), if_neg (show ¬ r.tb 2 1 = 3 from h3), if_pos (show r.tb 2 1 = 1 from h1)]
  rw [he]
  have t3 : (r.t11 == 3) = false := by simp [h3]
  have t1 : (r.t11 == 1) = true := by simp [h1]
  have t2 : (r.t11 == 2) = false := by simp [h1]
  clear he h3 h1
  go_enter Try.func36, Try.ntmps36
  go_wp2_with fail
  refine (qgoes_any _ _).mono ?_
  rintro e w' ⟨rfl, rfl⟩
  rw [show goes 2 = true from rfl]
  go_wp2_with fail
  refine bodyPost_ret (v := rnV ⟨4, 2, mi, wa, l0, l1, l2, true⟩) (by simp [results, Try.results36, go_sem]) rfl ⟨rfl, ba (below2 _ _ _)⟩
set_option maxRecDepth 100000 in
set_option maxHeartbeats 1000000 in
theorem qmeet_21w_2 (r : Ru) (mi wa : Int) (l0 l1 l2 te : Bool) (h3 : ¬ r.t11 = 3) (h1 : ¬ r.t11 = 1) (h2 : r.t11 = 2) (w : World) : Calls Try.prog 36 #[ruV r, rnV ⟨4, 2, mi, wa, l0, l1, l2, te⟩, .int .i64 1] w (RetRn (meetR r ⟨4, 2, mi, wa, l0, l1, l2, te⟩ 1) w) := by
  have he : meetR r ⟨4, 2, mi, wa, l0, l1, l2, te⟩ 1 = ⟨4, 2, mi, wa, l0, l1, l2, te⟩ := by
    unfold meetR
    rw [show inPh ⟨4, 2, mi, wa, l0, l1, l2, te⟩ = (2 : Int) from rfl, if_pos (show goes 2 = true from rfl), if_neg (show ¬ r.tb 2 1 = 3 from h3), if_neg (show ¬ r.tb 2 1 = 1 from h1), if_pos (show r.tb 2 1 = 2 from h2), if_pos rfl]
  rw [he]
  have t3 : (r.t11 == 3) = false := by simp [h3]
  have t1 : (r.t11 == 1) = false := by simp [h1]
  have t2 : (r.t11 == 2) = true := by simp [h2]
  clear he h3 h1 h2
  go_enter Try.func36, Try.ntmps36
  go_wp2_with fail
  refine (qgoes_any _ _).mono ?_
  rintro e w' ⟨rfl, rfl⟩
  rw [show goes 2 = true from rfl]
  go_wp2_with fail
  refine bodyPost_ret (v := rnV ⟨4, 2, mi, wa, l0, l1, l2, te⟩) (by simp [results, Try.results36, go_sem]) rfl ⟨rfl, ba (below2 _ _ _)⟩
set_option maxRecDepth 100000 in
set_option maxHeartbeats 1000000 in
theorem qmeet_21w_3 (r : Ru) (mi wa : Int) (l0 l1 l2 te : Bool) (h3 : r.t11 = 3) (w : World) : Calls Try.prog 36 #[ruV r, rnV ⟨4, 2, mi, wa, l0, l1, l2, te⟩, .int .i64 1] w (RetRn (meetR r ⟨4, 2, mi, wa, l0, l1, l2, te⟩ 1) w) := by
  have he : meetR r ⟨4, 2, mi, wa, l0, l1, l2, te⟩ 1 = (ended ⟨4, 2, mi, wa, l0, l1, l2, te⟩ 7) := by
    unfold meetR
    rw [show inPh ⟨4, 2, mi, wa, l0, l1, l2, te⟩ = (2 : Int) from rfl, if_pos (show goes 2 = true from rfl), if_pos (show r.tb 2 1 = 3 from h3)]
  rw [he]
  have t3 : (r.t11 == 3) = true := by simp [h3]
  clear he h3
  go_enter Try.func36, Try.ntmps36
  go_wp2_with fail
  refine (qgoes_any _ _).mono ?_
  rintro e w' ⟨rfl, rfl⟩
  rw [show goes 2 = true from rfl]
  go_wp2_with fail
  refine (qended_any ⟨4, 2, mi, wa, l0, l1, l2, te⟩ 7 _).mono ?_
  rintro e w' ⟨rfl, rfl⟩
  go_wp2_with fail
  refine bodyPost_ret (v := rnV (ended ⟨4, 2, mi, wa, l0, l1, l2, te⟩ 7)) (by simp [results, Try.results36, go_sem]) rfl ⟨rfl, ba (ba (ba (below2 _ _ _)))⟩
set_option maxRecDepth 100000 in
set_option maxHeartbeats 1000000 in
theorem qmeet_22_0 (r : Ru) (be mi wa : Int) (l0 l1 l2 te : Bool) (h3 : ¬ r.t12 = 3) (h1 : ¬ r.t12 = 1) (h2 : ¬ r.t12 = 2) (w : World) : Calls Try.prog 36 #[ruV r, rnV ⟨2, be, mi, wa, l0, l1, l2, te⟩, .int .i64 2] w (RetRn (meetR r ⟨2, be, mi, wa, l0, l1, l2, te⟩ 2) w) := by
  have he : meetR r ⟨2, be, mi, wa, l0, l1, l2, te⟩ 2 = ⟨2, be, mi, wa, l0, l1, l2, te⟩ := by
    unfold meetR
    rw [show inPh ⟨2, be, mi, wa, l0, l1, l2, te⟩ = (2 : Int) from rfl, if_pos (show goes 2 = true from rfl), if_neg (show ¬ r.tb 2 2 = 3 from h3), if_neg (show ¬ r.tb 2 2 = 1 from h1), if_neg (show ¬ r.tb 2 2 = 2 from h2)]
  rw [he]
  have t3 : (r.t12 == 3) = false := by simp [h3]
  have t1 : (r.t12 == 1) = false := by simp [h1]
  have t2 : (r.t12 == 2) = false := by simp [h2]
  clear he h3 h1 h2
  go_enter Try.func36, Try.ntmps36
  go_wp2_with fail
  refine (qgoes_any _ _).mono ?_
  rintro e w' ⟨rfl, rfl⟩
  rw [show goes 2 = true from rfl]
  go_wp2_with fail
  refine bodyPost_ret (v := rnV ⟨2, be, mi, wa, l0, l1, l2, te⟩) (by simp [results, Try.results36, go_sem]) rfl ⟨rfl, ba (below2 _ _ _)⟩
set_option maxRecDepth 100000 in
set_option maxHeartbeats 1000000 in
theorem qmeet_22_1 (r : Ru) (be mi wa : Int) (l0 l1 l2 te : Bool) (h3 : ¬ r.t12 = 3) (h1 : r.t12 = 1) (w : World) : Calls Try.prog 36 #[ruV r, rnV ⟨2, be, mi, wa, l0, l1, l2, te⟩, .int .i64 2] w (RetRn (meetR r ⟨2, be, mi, wa, l0, l1, l2, te⟩ 2) w) := by
  have he : meetR r ⟨2, be, mi, wa, l0, l1, l2, te⟩ 2 = ⟨2, be, mi, wa, l0, l1, l2, true⟩ := by
    unfold meetR
    rw [show inPh ⟨2, be, mi, wa, l0, l1, l2, te⟩ = (2 : Int) from rfl, if_pos (show goes 2 = true from rfl), if_neg (show ¬ r.tb 2 2 = 3 from h3), if_pos (show r.tb 2 2 = 1 from h1)]
  rw [he]
  have t3 : (r.t12 == 3) = false := by simp [h3]
  have t1 : (r.t12 == 1) = true := by simp [h1]
  have t2 : (r.t12 == 2) = false := by simp [h1]
  clear he h3 h1
  go_enter Try.func36, Try.ntmps36
  go_wp2_with fail
  refine (qgoes_any _ _).mono ?_
  rintro e w' ⟨rfl, rfl⟩
  rw [show goes 2 = true from rfl]
  go_wp2_with fail
  refine bodyPost_ret (v := rnV ⟨2, be, mi, wa, l0, l1, l2, true⟩) (by simp [results, Try.results36, go_sem]) rfl ⟨rfl, ba (below2 _ _ _)⟩
set_option maxRecDepth 100000 in
set_option maxHeartbeats 1000000 in
theorem qmeet_22_2 (r : Ru) (be mi wa : Int) (l0 l1 l2 te : Bool) (h3 : ¬ r.t12 = 3) (h1 : ¬ r.t12 = 1) (h2 : r.t12 = 2) (w : World) : Calls Try.prog 36 #[ruV r, rnV ⟨2, be, mi, wa, l0, l1, l2, te⟩, .int .i64 2] w (RetRn (meetR r ⟨2, be, mi, wa, l0, l1, l2, te⟩ 2) w) := by
  have he : meetR r ⟨2, be, mi, wa, l0, l1, l2, te⟩ 2 = ⟨4, 2, mi, 0, l0, l1, l2, te⟩ := by
    unfold meetR
    rw [show inPh ⟨2, be, mi, wa, l0, l1, l2, te⟩ = (2 : Int) from rfl, if_pos (show goes 2 = true from rfl), if_neg (show ¬ r.tb 2 2 = 3 from h3), if_neg (show ¬ r.tb 2 2 = 1 from h1), if_pos (show r.tb 2 2 = 2 from h2), if_neg (show ¬ (2 : Int) = 4 by decide)]
  rw [he]
  have t3 : (r.t12 == 3) = false := by simp [h3]
  have t1 : (r.t12 == 1) = false := by simp [h1]
  have t2 : (r.t12 == 2) = true := by simp [h2]
  clear he h3 h1 h2
  go_enter Try.func36, Try.ntmps36
  go_wp2_with fail
  refine (qgoes_any _ _).mono ?_
  rintro e w' ⟨rfl, rfl⟩
  rw [show goes 2 = true from rfl]
  go_wp2_with fail
  refine bodyPost_ret (v := rnV ⟨4, 2, mi, 0, l0, l1, l2, te⟩) (by simp [results, Try.results36, go_sem]) rfl ⟨rfl, ba (below2 _ _ _)⟩
set_option maxRecDepth 100000 in
set_option maxHeartbeats 1000000 in
theorem qmeet_22_3 (r : Ru) (be mi wa : Int) (l0 l1 l2 te : Bool) (h3 : r.t12 = 3) (w : World) : Calls Try.prog 36 #[ruV r, rnV ⟨2, be, mi, wa, l0, l1, l2, te⟩, .int .i64 2] w (RetRn (meetR r ⟨2, be, mi, wa, l0, l1, l2, te⟩ 2) w) := by
  have he : meetR r ⟨2, be, mi, wa, l0, l1, l2, te⟩ 2 = (ended ⟨2, be, mi, wa, l0, l1, l2, te⟩ 7) := by
    unfold meetR
    rw [show inPh ⟨2, be, mi, wa, l0, l1, l2, te⟩ = (2 : Int) from rfl, if_pos (show goes 2 = true from rfl), if_pos (show r.tb 2 2 = 3 from h3)]
  rw [he]
  have t3 : (r.t12 == 3) = true := by simp [h3]
  clear he h3
  go_enter Try.func36, Try.ntmps36
  go_wp2_with fail
  refine (qgoes_any _ _).mono ?_
  rintro e w' ⟨rfl, rfl⟩
  rw [show goes 2 = true from rfl]
  go_wp2_with fail
  refine (qended_any ⟨2, be, mi, wa, l0, l1, l2, te⟩ 7 _).mono ?_
  rintro e w' ⟨rfl, rfl⟩
  go_wp2_with fail
  refine bodyPost_ret (v := rnV (ended ⟨2, be, mi, wa, l0, l1, l2, te⟩ 7)) (by simp [results, Try.results36, go_sem]) rfl ⟨rfl, ba (ba (ba (below2 _ _ _)))⟩
set_option maxRecDepth 100000 in
set_option maxHeartbeats 1000000 in
theorem qmeet_22w_0 (r : Ru) (mi wa : Int) (l0 l1 l2 te : Bool) (h3 : ¬ r.t12 = 3) (h1 : ¬ r.t12 = 1) (h2 : ¬ r.t12 = 2) (w : World) : Calls Try.prog 36 #[ruV r, rnV ⟨4, 2, mi, wa, l0, l1, l2, te⟩, .int .i64 2] w (RetRn (meetR r ⟨4, 2, mi, wa, l0, l1, l2, te⟩ 2) w) := by
  have he : meetR r ⟨4, 2, mi, wa, l0, l1, l2, te⟩ 2 = ⟨4, 2, mi, wa, l0, l1, l2, te⟩ := by
    unfold meetR
    rw [show inPh ⟨4, 2, mi, wa, l0, l1, l2, te⟩ = (2 : Int) from rfl, if_pos (show goes 2 = true from rfl), if_neg (show ¬ r.tb 2 2 = 3 from h3), if_neg (show ¬ r.tb 2 2 = 1 from h1), if_neg (show ¬ r.tb 2 2 = 2 from h2)]
  rw [he]
  have t3 : (r.t12 == 3) = false := by simp [h3]
  have t1 : (r.t12 == 1) = false := by simp [h1]
  have t2 : (r.t12 == 2) = false := by simp [h2]
  clear he h3 h1 h2
  go_enter Try.func36, Try.ntmps36
  go_wp2_with fail
  refine (qgoes_any _ _).mono ?_
  rintro e w' ⟨rfl, rfl⟩
  rw [show goes 2 = true from rfl]
  go_wp2_with fail
  refine bodyPost_ret (v := rnV ⟨4, 2, mi, wa, l0, l1, l2, te⟩) (by simp [results, Try.results36, go_sem]) rfl ⟨rfl, ba (below2 _ _ _)⟩
set_option maxRecDepth 100000 in
set_option maxHeartbeats 1000000 in
theorem qmeet_22w_1 (r : Ru) (mi wa : Int) (l0 l1 l2 te : Bool) (h3 : ¬ r.t12 = 3) (h1 : r.t12 = 1) (w : World) : Calls Try.prog 36 #[ruV r, rnV ⟨4, 2, mi, wa, l0, l1, l2, te⟩, .int .i64 2] w (RetRn (meetR r ⟨4, 2, mi, wa, l0, l1, l2, te⟩ 2) w) := by
  have he : meetR r ⟨4, 2, mi, wa, l0, l1, l2, te⟩ 2 = ⟨4, 2, mi, wa, l0, l1, l2, true⟩ := by
    unfold meetR
    rw [show inPh ⟨4, 2, mi, wa, l0, l1, l2, te⟩ = (2 : Int) from rfl, if_pos (show goes 2 = true from rfl), if_neg (show ¬ r.tb 2 2 = 3 from h3), if_pos (show r.tb 2 2 = 1 from h1)]
  rw [he]
  have t3 : (r.t12 == 3) = false := by simp [h3]
  have t1 : (r.t12 == 1) = true := by simp [h1]
  have t2 : (r.t12 == 2) = false := by simp [h1]
  clear he h3 h1
  go_enter Try.func36, Try.ntmps36
  go_wp2_with fail
  refine (qgoes_any _ _).mono ?_
  rintro e w' ⟨rfl, rfl⟩
  rw [show goes 2 = true from rfl]
  go_wp2_with fail
  refine bodyPost_ret (v := rnV ⟨4, 2, mi, wa, l0, l1, l2, true⟩) (by simp [results, Try.results36, go_sem]) rfl ⟨rfl, ba (below2 _ _ _)⟩
set_option maxRecDepth 100000 in
set_option maxHeartbeats 1000000 in
theorem qmeet_22w_2 (r : Ru) (mi wa : Int) (l0 l1 l2 te : Bool) (h3 : ¬ r.t12 = 3) (h1 : ¬ r.t12 = 1) (h2 : r.t12 = 2) (w : World) : Calls Try.prog 36 #[ruV r, rnV ⟨4, 2, mi, wa, l0, l1, l2, te⟩, .int .i64 2] w (RetRn (meetR r ⟨4, 2, mi, wa, l0, l1, l2, te⟩ 2) w) := by
  have he : meetR r ⟨4, 2, mi, wa, l0, l1, l2, te⟩ 2 = ⟨4, 2, mi, wa, l0, l1, l2, te⟩ := by
    unfold meetR
    rw [show inPh ⟨4, 2, mi, wa, l0, l1, l2, te⟩ = (2 : Int) from rfl, if_pos (show goes 2 = true from rfl), if_neg (show ¬ r.tb 2 2 = 3 from h3), if_neg (show ¬ r.tb 2 2 = 1 from h1), if_pos (show r.tb 2 2 = 2 from h2), if_pos rfl]
  rw [he]
  have t3 : (r.t12 == 3) = false := by simp [h3]
  have t1 : (r.t12 == 1) = false := by simp [h1]
  have t2 : (r.t12 == 2) = true := by simp [h2]
  clear he h3 h1 h2
  go_enter Try.func36, Try.ntmps36
  go_wp2_with fail
  refine (qgoes_any _ _).mono ?_
  rintro e w' ⟨rfl, rfl⟩
  rw [show goes 2 = true from rfl]
  go_wp2_with fail
  refine bodyPost_ret (v := rnV ⟨4, 2, mi, wa, l0, l1, l2, te⟩) (by simp [results, Try.results36, go_sem]) rfl ⟨rfl, ba (below2 _ _ _)⟩
set_option maxRecDepth 100000 in
set_option maxHeartbeats 1000000 in
theorem qmeet_22w_3 (r : Ru) (mi wa : Int) (l0 l1 l2 te : Bool) (h3 : r.t12 = 3) (w : World) : Calls Try.prog 36 #[ruV r, rnV ⟨4, 2, mi, wa, l0, l1, l2, te⟩, .int .i64 2] w (RetRn (meetR r ⟨4, 2, mi, wa, l0, l1, l2, te⟩ 2) w) := by
  have he : meetR r ⟨4, 2, mi, wa, l0, l1, l2, te⟩ 2 = (ended ⟨4, 2, mi, wa, l0, l1, l2, te⟩ 7) := by
    unfold meetR
    rw [show inPh ⟨4, 2, mi, wa, l0, l1, l2, te⟩ = (2 : Int) from rfl, if_pos (show goes 2 = true from rfl), if_pos (show r.tb 2 2 = 3 from h3)]
  rw [he]
  have t3 : (r.t12 == 3) = true := by simp [h3]
  clear he h3
  go_enter Try.func36, Try.ntmps36
  go_wp2_with fail
  refine (qgoes_any _ _).mono ?_
  rintro e w' ⟨rfl, rfl⟩
  rw [show goes 2 = true from rfl]
  go_wp2_with fail
  refine (qended_any ⟨4, 2, mi, wa, l0, l1, l2, te⟩ 7 _).mono ?_
  rintro e w' ⟨rfl, rfl⟩
  go_wp2_with fail
  refine bodyPost_ret (v := rnV (ended ⟨4, 2, mi, wa, l0, l1, l2, te⟩ 7)) (by simp [results, Try.results36, go_sem]) rfl ⟨rfl, ba (ba (ba (below2 _ _ _)))⟩
set_option maxRecDepth 100000 in
set_option maxHeartbeats 1000000 in
theorem qmeet_30_0 (r : Ru) (be mi wa : Int) (l0 l1 l2 te : Bool) (h3 : ¬ r.t20 = 3) (h1 : ¬ r.t20 = 1) (h2 : ¬ r.t20 = 2) (w : World) : Calls Try.prog 36 #[ruV r, rnV ⟨3, be, mi, wa, l0, l1, l2, te⟩, .int .i64 0] w (RetRn (meetR r ⟨3, be, mi, wa, l0, l1, l2, te⟩ 0) w) := by
  have he : meetR r ⟨3, be, mi, wa, l0, l1, l2, te⟩ 0 = ⟨3, be, mi, wa, l0, l1, l2, te⟩ := by
    unfold meetR
    rw [show inPh ⟨3, be, mi, wa, l0, l1, l2, te⟩ = (3 : Int) from rfl, if_pos (show goes 3 = true from rfl), if_neg (show ¬ r.tb 3 0 = 3 from h3), if_neg (show ¬ r.tb 3 0 = 1 from h1), if_neg (show ¬ r.tb 3 0 = 2 from h2)]
  rw [he]
  have t3 : (r.t20 == 3) = false := by simp [h3]
  have t1 : (r.t20 == 1) = false := by simp [h1]
  have t2 : (r.t20 == 2) = false := by simp [h2]
  clear he h3 h1 h2
  go_enter Try.func36, Try.ntmps36
  go_wp2_with fail
  refine (qgoes_any _ _).mono ?_
  rintro e w' ⟨rfl, rfl⟩
  rw [show goes 3 = true from rfl]
  go_wp2_with fail
  refine bodyPost_ret (v := rnV ⟨3, be, mi, wa, l0, l1, l2, te⟩) (by simp [results, Try.results36, go_sem]) rfl ⟨rfl, ba (below2 _ _ _)⟩
set_option maxRecDepth 100000 in
set_option maxHeartbeats 1000000 in
theorem qmeet_30_1 (r : Ru) (be mi wa : Int) (l0 l1 l2 te : Bool) (h3 : ¬ r.t20 = 3) (h1 : r.t20 = 1) (w : World) : Calls Try.prog 36 #[ruV r, rnV ⟨3, be, mi, wa, l0, l1, l2, te⟩, .int .i64 0] w (RetRn (meetR r ⟨3, be, mi, wa, l0, l1, l2, te⟩ 0) w) := by
  have he : meetR r ⟨3, be, mi, wa, l0, l1, l2, te⟩ 0 = ⟨3, be, mi, wa, l0, l1, l2, true⟩ := by
    unfold meetR
    rw [show inPh ⟨3, be, mi, wa, l0, l1, l2, te⟩ = (3 : Int) from rfl, if_pos (show goes 3 = true from rfl), if_neg (show ¬ r.tb 3 0 = 3 from h3), if_pos (show r.tb 3 0 = 1 from h1)]
  rw [he]
  have t3 : (r.t20 == 3) = false := by simp [h3]
  have t1 : (r.t20 == 1) = true := by simp [h1]
  have t2 : (r.t20 == 2) = false := by simp [h1]
  clear he h3 h1
  go_enter Try.func36, Try.ntmps36
  go_wp2_with fail
  refine (qgoes_any _ _).mono ?_
  rintro e w' ⟨rfl, rfl⟩
  rw [show goes 3 = true from rfl]
  go_wp2_with fail
  refine bodyPost_ret (v := rnV ⟨3, be, mi, wa, l0, l1, l2, true⟩) (by simp [results, Try.results36, go_sem]) rfl ⟨rfl, ba (below2 _ _ _)⟩
set_option maxRecDepth 100000 in
set_option maxHeartbeats 1000000 in
theorem qmeet_30_2 (r : Ru) (be mi wa : Int) (l0 l1 l2 te : Bool) (h3 : ¬ r.t20 = 3) (h1 : ¬ r.t20 = 1) (h2 : r.t20 = 2) (w : World) : Calls Try.prog 36 #[ruV r, rnV ⟨3, be, mi, wa, l0, l1, l2, te⟩, .int .i64 0] w (RetRn (meetR r ⟨3, be, mi, wa, l0, l1, l2, te⟩ 0) w) := by
  have he : meetR r ⟨3, be, mi, wa, l0, l1, l2, te⟩ 0 = ⟨4, 3, mi, 0, l0, l1, l2, te⟩ := by
    unfold meetR
    rw [show inPh ⟨3, be, mi, wa, l0, l1, l2, te⟩ = (3 : Int) from rfl, if_pos (show goes 3 = true from rfl), if_neg (show ¬ r.tb 3 0 = 3 from h3), if_neg (show ¬ r.tb 3 0 = 1 from h1), if_pos (show r.tb 3 0 = 2 from h2), if_neg (show ¬ (3 : Int) = 4 by decide)]
  rw [he]
  have t3 : (r.t20 == 3) = false := by simp [h3]
  have t1 : (r.t20 == 1) = false := by simp [h1]
  have t2 : (r.t20 == 2) = true := by simp [h2]
  clear he h3 h1 h2
  go_enter Try.func36, Try.ntmps36
  go_wp2_with fail
  refine (qgoes_any _ _).mono ?_
  rintro e w' ⟨rfl, rfl⟩
  rw [show goes 3 = true from rfl]
  go_wp2_with fail
  refine bodyPost_ret (v := rnV ⟨4, 3, mi, 0, l0, l1, l2, te⟩) (by simp [results, Try.results36, go_sem]) rfl ⟨rfl, ba (below2 _ _ _)⟩
set_option maxRecDepth 100000 in
set_option maxHeartbeats 1000000 in
theorem qmeet_30_3 (r : Ru) (be mi wa : Int) (l0 l1 l2 te : Bool) (h3 : r.t20 = 3) (w : World) : Calls Try.prog 36 #[ruV r, rnV ⟨3, be, mi, wa, l0, l1, l2, te⟩, .int .i64 0] w (RetRn (meetR r ⟨3, be, mi, wa, l0, l1, l2, te⟩ 0) w) := by
  have he : meetR r ⟨3, be, mi, wa, l0, l1, l2, te⟩ 0 = (ended ⟨3, be, mi, wa, l0, l1, l2, te⟩ 7) := by
    unfold meetR
    rw [show inPh ⟨3, be, mi, wa, l0, l1, l2, te⟩ = (3 : Int) from rfl, if_pos (show goes 3 = true from rfl), if_pos (show r.tb 3 0 = 3 from h3)]
  rw [he]
  have t3 : (r.t20 == 3) = true := by simp [h3]
  clear he h3
  go_enter Try.func36, Try.ntmps36
  go_wp2_with fail
  refine (qgoes_any _ _).mono ?_
  rintro e w' ⟨rfl, rfl⟩
  rw [show goes 3 = true from rfl]
  go_wp2_with fail
  refine (qended_any ⟨3, be, mi, wa, l0, l1, l2, te⟩ 7 _).mono ?_
  rintro e w' ⟨rfl, rfl⟩
  go_wp2_with fail
  refine bodyPost_ret (v := rnV (ended ⟨3, be, mi, wa, l0, l1, l2, te⟩ 7)) (by simp [results, Try.results36, go_sem]) rfl ⟨rfl, ba (ba (ba (below2 _ _ _)))⟩
set_option maxRecDepth 100000 in
set_option maxHeartbeats 1000000 in
theorem qmeet_30w_0 (r : Ru) (mi wa : Int) (l0 l1 l2 te : Bool) (h3 : ¬ r.t20 = 3) (h1 : ¬ r.t20 = 1) (h2 : ¬ r.t20 = 2) (w : World) : Calls Try.prog 36 #[ruV r, rnV ⟨4, 3, mi, wa, l0, l1, l2, te⟩, .int .i64 0] w (RetRn (meetR r ⟨4, 3, mi, wa, l0, l1, l2, te⟩ 0) w) := by
  have he : meetR r ⟨4, 3, mi, wa, l0, l1, l2, te⟩ 0 = ⟨4, 3, mi, wa, l0, l1, l2, te⟩ := by
    unfold meetR
    rw [show inPh ⟨4, 3, mi, wa, l0, l1, l2, te⟩ = (3 : Int) from rfl, if_pos (show goes 3 = true from rfl), if_neg (show ¬ r.tb 3 0 = 3 from h3), if_neg (show ¬ r.tb 3 0 = 1 from h1), if_neg (show ¬ r.tb 3 0 = 2 from h2)]
  rw [he]
  have t3 : (r.t20 == 3) = false := by simp [h3]
  have t1 : (r.t20 == 1) = false := by simp [h1]
  have t2 : (r.t20 == 2) = false := by simp [h2]
  clear he h3 h1 h2
  go_enter Try.func36, Try.ntmps36
  go_wp2_with fail
  refine (qgoes_any _ _).mono ?_
  rintro e w' ⟨rfl, rfl⟩
  rw [show goes 3 = true from rfl]
  go_wp2_with fail
  refine bodyPost_ret (v := rnV ⟨4, 3, mi, wa, l0, l1, l2, te⟩) (by simp [results, Try.results36, go_sem]) rfl ⟨rfl, ba (below2 _ _ _)⟩
set_option maxRecDepth 100000 in
set_option maxHeartbeats 1000000 in
theorem qmeet_30w_1 (r : Ru) (mi wa : Int) (l0 l1 l2 te : Bool) (h3 : ¬ r.t20 = 3) (h1 : r.t20 = 1) (w : World) : Calls Try.prog 36 #[ruV r, rnV ⟨4, 3, mi, wa, l0, l1, l2, te⟩, .int .i64 0] w (RetRn (meetR r ⟨4, 3, mi, wa, l0, l1, l2, te⟩ 0) w) := by
  have he : meetR r ⟨4, 3, mi, wa, l0, l1, l2, te⟩ 0 = ⟨4, 3, mi, wa, l0, l1, l2, true⟩ := by
    unfold meetR
    rw [show inPh ⟨4, 3, mi, wa, l0, l1, l2, te⟩ = (3 : Int) from rfl, if_pos (show goes 3 = true from rfl), if_neg (show ¬ r.tb 3 0 = 3 from h3), if_pos (show r.tb 3 0 = 1 from h1)]
  rw [he]
  have t3 : (r.t20 == 3) = false := by simp [h3]
  have t1 : (r.t20 == 1) = true := by simp [h1]
  have t2 : (r.t20 == 2) = false := by simp [h1]
  clear he h3 h1
  go_enter Try.func36, Try.ntmps36
  go_wp2_with fail
  refine (qgoes_any _ _).mono ?_
  rintro e w' ⟨rfl, rfl⟩
  rw [show goes 3 = true from rfl]
  go_wp2_with fail
  refine bodyPost_ret (v := rnV ⟨4, 3, mi, wa, l0, l1, l2, true⟩) (by simp [results, Try.results36, go_sem]) rfl ⟨rfl, ba (below2 _ _ _)⟩
set_option maxRecDepth 100000 in
set_option maxHeartbeats 1000000 in
theorem qmeet_30w_2 (r : Ru) (mi wa : Int) (l0 l1 l2 te : Bool) (h3 : ¬ r.t20 = 3) (h1 : ¬ r.t20 = 1) (h2 : r.t20 = 2) (w : World) : Calls Try.prog 36 #[ruV r, rnV ⟨4, 3, mi, wa, l0, l1, l2, te⟩, .int .i64 0] w (RetRn (meetR r ⟨4, 3, mi, wa, l0, l1, l2, te⟩ 0) w) := by
  have he : meetR r ⟨4, 3, mi, wa, l0, l1, l2, te⟩ 0 = ⟨4, 3, mi, wa, l0, l1, l2, te⟩ := by
    unfold meetR
    rw [show inPh ⟨4, 3, mi, wa, l0, l1, l2, te⟩ = (3 : Int) from rfl, if_pos (show goes 3 = true from rfl), if_neg (show ¬ r.tb 3 0 = 3 from h3), if_neg (show ¬ r.tb 3 0 = 1 from h1), if_pos (show r.tb 3 0 = 2 from h2), if_pos rfl]
  rw [he]
  have t3 : (r.t20 == 3) = false := by simp [h3]
  have t1 : (r.t20 == 1) = false := by simp [h1]
  have t2 : (r.t20 == 2) = true := by simp [h2]
  clear he h3 h1 h2
  go_enter Try.func36, Try.ntmps36
  go_wp2_with fail
  refine (qgoes_any _ _).mono ?_
  rintro e w' ⟨rfl, rfl⟩
  rw [show goes 3 = true from rfl]
  go_wp2_with fail
  refine bodyPost_ret (v := rnV ⟨4, 3, mi, wa, l0, l1, l2, te⟩) (by simp [results, Try.results36, go_sem]) rfl ⟨rfl, ba (below2 _ _ _)⟩
set_option maxRecDepth 100000 in
set_option maxHeartbeats 1000000 in
theorem qmeet_30w_3 (r : Ru) (mi wa : Int) (l0 l1 l2 te : Bool) (h3 : r.t20 = 3) (w : World) : Calls Try.prog 36 #[ruV r, rnV ⟨4, 3, mi, wa, l0, l1, l2, te⟩, .int .i64 0] w (RetRn (meetR r ⟨4, 3, mi, wa, l0, l1, l2, te⟩ 0) w) := by
  have he : meetR r ⟨4, 3, mi, wa, l0, l1, l2, te⟩ 0 = (ended ⟨4, 3, mi, wa, l0, l1, l2, te⟩ 7) := by
    unfold meetR
    rw [show inPh ⟨4, 3, mi, wa, l0, l1, l2, te⟩ = (3 : Int) from rfl, if_pos (show goes 3 = true from rfl), if_pos (show r.tb 3 0 = 3 from h3)]
  rw [he]
  have t3 : (r.t20 == 3) = true := by simp [h3]
  clear he h3
  go_enter Try.func36, Try.ntmps36
  go_wp2_with fail
  refine (qgoes_any _ _).mono ?_
  rintro e w' ⟨rfl, rfl⟩
  rw [show goes 3 = true from rfl]
  go_wp2_with fail
  refine (qended_any ⟨4, 3, mi, wa, l0, l1, l2, te⟩ 7 _).mono ?_
  rintro e w' ⟨rfl, rfl⟩
  go_wp2_with fail
  refine bodyPost_ret (v := rnV (ended ⟨4, 3, mi, wa, l0, l1, l2, te⟩ 7)) (by simp [results, Try.results36, go_sem]) rfl ⟨rfl, ba (ba (ba (below2 _ _ _)))⟩
set_option maxRecDepth 100000 in
set_option maxHeartbeats 1000000 in
theorem qmeet_31_0 (r : Ru) (be mi wa : Int) (l0 l1 l2 te : Bool) (h3 : ¬ r.t21 = 3) (h1 : ¬ r.t21 = 1) (h2 : ¬ r.t21 = 2) (w : World) : Calls Try.prog 36 #[ruV r, rnV ⟨3, be, mi, wa, l0, l1, l2, te⟩, .int .i64 1] w (RetRn (meetR r ⟨3, be, mi, wa, l0, l1, l2, te⟩ 1) w) := by
  have he : meetR r ⟨3, be, mi, wa, l0, l1, l2, te⟩ 1 = ⟨3, be, mi, wa, l0, l1, l2, te⟩ := by
    unfold meetR
    rw [show inPh ⟨3, be, mi, wa, l0, l1, l2, te⟩ = (3 : Int) from rfl, if_pos (show goes 3 = true from rfl), if_neg (show ¬ r.tb 3 1 = 3 from h3), if_neg (show ¬ r.tb 3 1 = 1 from h1), if_neg (show ¬ r.tb 3 1 = 2 from h2)]
  rw [he]
  have t3 : (r.t21 == 3) = false := by simp [h3]
  have t1 : (r.t21 == 1) = false := by simp [h1]
  have t2 : (r.t21 == 2) = false := by simp [h2]
  clear he h3 h1 h2
  go_enter Try.func36, Try.ntmps36
  go_wp2_with fail
  refine (qgoes_any _ _).mono ?_
  rintro e w' ⟨rfl, rfl⟩
  rw [show goes 3 = true from rfl]
  go_wp2_with fail
  refine bodyPost_ret (v := rnV ⟨3, be, mi, wa, l0, l1, l2, te⟩) (by simp [results, Try.results36, go_sem]) rfl ⟨rfl, ba (below2 _ _ _)⟩
set_option maxRecDepth 100000 in
set_option maxHeartbeats 1000000 in
theorem qmeet_31_1 (r : Ru) (be mi wa : Int) (l0 l1 l2 te : Bool) (h3 : ¬ r.t21 = 3) (h1 : r.t21 = 1) (w : World) : Calls Try.prog 36 #[ruV r, rnV ⟨3, be, mi, wa, l0, l1, l2, te⟩, .int .i64 1] w (RetRn (meetR r ⟨3, be, mi, wa, l0, l1, l2, te⟩ 1) w) := by
  have he : meetR r ⟨3, be, mi, wa, l0, l1, l2, te⟩ 1 = ⟨3, be, mi, wa, l0, l1, l2, true⟩ := by
    unfold meetR
    rw [show inPh ⟨3, be, mi, wa, l0, l1, l2, te⟩ = (3 : Int) from rfl, if_pos (show goes 3 = true from rfl), if_neg (show ¬ r.tb 3 1 = 3 from h3), if_pos (show r.tb 3 1 = 1 from h1)]
  rw [he]
  have t3 : (r.t21 == 3) = false := by simp [h3]
  have t1 : (r.t21 == 1) = true := by simp [h1]
  have t2 : (r.t21 == 2) = false := by simp [h1]
  clear he h3 h1
  go_enter Try.func36, Try.ntmps36
  go_wp2_with fail
  refine (qgoes_any _ _).mono ?_
  rintro e w' ⟨rfl, rfl⟩
  rw [show goes 3 = true from rfl]
  go_wp2_with fail
  refine bodyPost_ret (v := rnV ⟨3, be, mi, wa, l0, l1, l2, true⟩) (by simp [results, Try.results36, go_sem]) rfl ⟨rfl, ba (below2 _ _ _)⟩
set_option maxRecDepth 100000 in
set_option maxHeartbeats 1000000 in
theorem qmeet_31_2 (r : Ru) (be mi wa : Int) (l0 l1 l2 te : Bool) (h3 : ¬ r.t21 = 3) (h1 : ¬ r.t21 = 1) (h2 : r.t21 = 2) (w : World) : Calls Try.prog 36 #[ruV r, rnV ⟨3, be, mi, wa, l0, l1, l2, te⟩, .int .i64 1] w (RetRn (meetR r ⟨3, be, mi, wa, l0, l1, l2, te⟩ 1) w) := by
  have he : meetR r ⟨3, be, mi, wa, l0, l1, l2, te⟩ 1 = ⟨4, 3, mi, 0, l0, l1, l2, te⟩ := by
    unfold meetR
    rw [show inPh ⟨3, be, mi, wa, l0, l1, l2, te⟩ = (3 : Int) from rfl, if_pos (show goes 3 = true from rfl), if_neg (show ¬ r.tb 3 1 = 3 from h3), if_neg (show ¬ r.tb 3 1 = 1 from h1), if_pos (show r.tb 3 1 = 2 from h2), if_neg (show ¬ (3 : Int) = 4 by decide)]
  rw [he]
  have t3 : (r.t21 == 3) = false := by simp [h3]
  have t1 : (r.t21 == 1) = false := by simp [h1]
  have t2 : (r.t21 == 2) = true := by simp [h2]
  clear he h3 h1 h2
  go_enter Try.func36, Try.ntmps36
  go_wp2_with fail
  refine (qgoes_any _ _).mono ?_
  rintro e w' ⟨rfl, rfl⟩
  rw [show goes 3 = true from rfl]
  go_wp2_with fail
  refine bodyPost_ret (v := rnV ⟨4, 3, mi, 0, l0, l1, l2, te⟩) (by simp [results, Try.results36, go_sem]) rfl ⟨rfl, ba (below2 _ _ _)⟩
set_option maxRecDepth 100000 in
set_option maxHeartbeats 1000000 in
theorem qmeet_31_3 (r : Ru) (be mi wa : Int) (l0 l1 l2 te : Bool) (h3 : r.t21 = 3) (w : World) : Calls Try.prog 36 #[ruV r, rnV ⟨3, be, mi, wa, l0, l1, l2, te⟩, .int .i64 1] w (RetRn (meetR r ⟨3, be, mi, wa, l0, l1, l2, te⟩ 1) w) := by
  have he : meetR r ⟨3, be, mi, wa, l0, l1, l2, te⟩ 1 = (ended ⟨3, be, mi, wa, l0, l1, l2, te⟩ 7) := by
    unfold meetR
    rw [show inPh ⟨3, be, mi, wa, l0, l1, l2, te⟩ = (3 : Int) from rfl, if_pos (show goes 3 = true from rfl), if_pos (show r.tb 3 1 = 3 from h3)]
  rw [he]
  have t3 : (r.t21 == 3) = true := by simp [h3]
  clear he h3
  go_enter Try.func36, Try.ntmps36
  go_wp2_with fail
  refine (qgoes_any _ _).mono ?_
  rintro e w' ⟨rfl, rfl⟩
  rw [show goes 3 = true from rfl]
  go_wp2_with fail
  refine (qended_any ⟨3, be, mi, wa, l0, l1, l2, te⟩ 7 _).mono ?_
  rintro e w' ⟨rfl, rfl⟩
  go_wp2_with fail
  refine bodyPost_ret (v := rnV (ended ⟨3, be, mi, wa, l0, l1, l2, te⟩ 7)) (by simp [results, Try.results36, go_sem]) rfl ⟨rfl, ba (ba (ba (below2 _ _ _)))⟩
set_option maxRecDepth 100000 in
set_option maxHeartbeats 1000000 in
theorem qmeet_31w_0 (r : Ru) (mi wa : Int) (l0 l1 l2 te : Bool) (h3 : ¬ r.t21 = 3) (h1 : ¬ r.t21 = 1) (h2 : ¬ r.t21 = 2) (w : World) : Calls Try.prog 36 #[ruV r, rnV ⟨4, 3, mi, wa, l0, l1, l2, te⟩, .int .i64 1] w (RetRn (meetR r ⟨4, 3, mi, wa, l0, l1, l2, te⟩ 1) w) := by
  have he : meetR r ⟨4, 3, mi, wa, l0, l1, l2, te⟩ 1 = ⟨4, 3, mi, wa, l0, l1, l2, te⟩ := by
    unfold meetR
    rw [show inPh ⟨4, 3, mi, wa, l0, l1, l2, te⟩ = (3 : Int) from rfl, if_pos (show goes 3 = true from rfl), if_neg (show ¬ r.tb 3 1 = 3 from h3), if_neg (show ¬ r.tb 3 1 = 1 from h1), if_neg (show ¬ r.tb 3 1 = 2 from h2)]
  rw [he]
  have t3 : (r.t21 == 3) = false := by simp [h3]
  have t1 : (r.t21 == 1) = false := by simp [h1]
  have t2 : (r.t21 == 2) = false := by simp [h2]
  clear he h3 h1 h2
  go_enter Try.func36, Try.ntmps36
  go_wp2_with fail
  refine (qgoes_any _ _).mono ?_
  rintro e w' ⟨rfl, rfl⟩
  rw [show goes 3 = true from rfl]
  go_wp2_with fail
  refine bodyPost_ret (v := rnV ⟨4, 3, mi, wa, l0, l1, l2, te⟩) (by simp [results, Try.results36, go_sem]) rfl ⟨rfl, ba (below2 _ _ _)⟩
set_option maxRecDepth 100000 in
set_option maxHeartbeats 1000000 in
theorem qmeet_31w_1 (r : Ru) (mi wa : Int) (l0 l1 l2 te : Bool) (h3 : ¬ r.t21 = 3) (h1 : r.t21 = 1) (w : World) : Calls Try.prog 36 #[ruV r, rnV ⟨4, 3, mi, wa, l0, l1, l2, te⟩, .int .i64 1] w (RetRn (meetR r ⟨4, 3, mi, wa, l0, l1, l2, te⟩ 1) w) := by
  have he : meetR r ⟨4, 3, mi, wa, l0, l1, l2, te⟩ 1 = ⟨4, 3, mi, wa, l0, l1, l2, true⟩ := by
    unfold meetR
    rw [show inPh ⟨4, 3, mi, wa, l0, l1, l2, te⟩ = (3 : Int) from rfl, if_pos (show goes 3 = true from rfl), if_neg (show ¬ r.tb 3 1 = 3 from h3), if_pos (show r.tb 3 1 = 1 from h1)]
  rw [he]
  have t3 : (r.t21 == 3) = false := by simp [h3]
  have t1 : (r.t21 == 1) = true := by simp [h1]
  have t2 : (r.t21 == 2) = false := by simp [h1]
  clear he h3 h1
  go_enter Try.func36, Try.ntmps36
  go_wp2_with fail
  refine (qgoes_any _ _).mono ?_
  rintro e w' ⟨rfl, rfl⟩
  rw [show goes 3 = true from rfl]
  go_wp2_with fail
  refine bodyPost_ret (v := rnV ⟨4, 3, mi, wa, l0, l1, l2, true⟩) (by simp [results, Try.results36, go_sem]) rfl ⟨rfl, ba (below2 _ _ _)⟩
set_option maxRecDepth 100000 in
set_option maxHeartbeats 1000000 in
theorem qmeet_31w_2 (r : Ru) (mi wa : Int) (l0 l1 l2 te : Bool) (h3 : ¬ r.t21 = 3) (h1 : ¬ r.t21 = 1) (h2 : r.t21 = 2) (w : World) : Calls Try.prog 36 #[ruV r, rnV ⟨4, 3, mi, wa, l0, l1, l2, te⟩, .int .i64 1] w (RetRn (meetR r ⟨4, 3, mi, wa, l0, l1, l2, te⟩ 1) w) := by
  have he : meetR r ⟨4, 3, mi, wa, l0, l1, l2, te⟩ 1 = ⟨4, 3, mi, wa, l0, l1, l2, te⟩ := by
    unfold meetR
    rw [show inPh ⟨4, 3, mi, wa, l0, l1, l2, te⟩ = (3 : Int) from rfl, if_pos (show goes 3 = true from rfl), if_neg (show ¬ r.tb 3 1 = 3 from h3), if_neg (show ¬ r.tb 3 1 = 1 from h1), if_pos (show r.tb 3 1 = 2 from h2), if_pos rfl]
  rw [he]
  have t3 : (r.t21 == 3) = false := by simp [h3]
  have t1 : (r.t21 == 1) = false := by simp [h1]
  have t2 : (r.t21 == 2) = true := by simp [h2]
  clear he h3 h1 h2
  go_enter Try.func36, Try.ntmps36
  go_wp2_with fail
  refine (qgoes_any _ _).mono ?_
  rintro e w' ⟨rfl, rfl⟩
  rw [show goes 3 = true from rfl]
  go_wp2_with fail
  refine bodyPost_ret (v := rnV ⟨4, 3, mi, wa, l0, l1, l2, te⟩) (by simp [results, Try.results36, go_sem]) rfl ⟨rfl, ba (below2 _ _ _)⟩
set_option maxRecDepth 100000 in
set_option maxHeartbeats 1000000 in
theorem qmeet_31w_3 (r : Ru) (mi wa : Int) (l0 l1 l2 te : Bool) (h3 : r.t21 = 3) (w : World) : Calls Try.prog 36 #[ruV r, rnV ⟨4, 3, mi, wa, l0, l1, l2, te⟩, .int .i64 1] w (RetRn (meetR r ⟨4, 3, mi, wa, l0, l1, l2, te⟩ 1) w) := by
  have he : meetR r ⟨4, 3, mi, wa, l0, l1, l2, te⟩ 1 = (ended ⟨4, 3, mi, wa, l0, l1, l2, te⟩ 7) := by
    unfold meetR
    rw [show inPh ⟨4, 3, mi, wa, l0, l1, l2, te⟩ = (3 : Int) from rfl, if_pos (show goes 3 = true from rfl), if_pos (show r.tb 3 1 = 3 from h3)]
  rw [he]
  have t3 : (r.t21 == 3) = true := by simp [h3]
  clear he h3
  go_enter Try.func36, Try.ntmps36
  go_wp2_with fail
  refine (qgoes_any _ _).mono ?_
  rintro e w' ⟨rfl, rfl⟩
  rw [show goes 3 = true from rfl]
  go_wp2_with fail
  refine (qended_any ⟨4, 3, mi, wa, l0, l1, l2, te⟩ 7 _).mono ?_
  rintro e w' ⟨rfl, rfl⟩
  go_wp2_with fail
  refine bodyPost_ret (v := rnV (ended ⟨4, 3, mi, wa, l0, l1, l2, te⟩ 7)) (by simp [results, Try.results36, go_sem]) rfl ⟨rfl, ba (ba (ba (below2 _ _ _)))⟩
set_option maxRecDepth 100000 in
set_option maxHeartbeats 1000000 in
theorem qmeet_32_0 (r : Ru) (be mi wa : Int) (l0 l1 l2 te : Bool) (h3 : ¬ r.t22 = 3) (h1 : ¬ r.t22 = 1) (h2 : ¬ r.t22 = 2) (w : World) : Calls Try.prog 36 #[ruV r, rnV ⟨3, be, mi, wa, l0, l1, l2, te⟩, .int .i64 2] w (RetRn (meetR r ⟨3, be, mi, wa, l0, l1, l2, te⟩ 2) w) := by
  have he : meetR r ⟨3, be, mi, wa, l0, l1, l2, te⟩ 2 = ⟨3, be, mi, wa, l0, l1, l2, te⟩ := by
    unfold meetR
    rw [show inPh ⟨3, be, mi, wa, l0, l1, l2, te⟩ = (3 : Int) from rfl, if_pos (show goes 3 = true from rfl), if_neg (show ¬ r.tb 3 2 = 3 from h3), if_neg (show ¬ r.tb 3 2 = 1 from h1), if_neg (show ¬ r.tb 3 2 = 2 from h2)]
  rw [he]
  have t3 : (r.t22 == 3) = false := by simp [h3]
  have t1 : (r.t22 == 1) = false := by simp [h1]
  have t2 : (r.t22 == 2) = false := by simp [h2]
  clear he h3 h1 h2
  go_enter Try.func36, Try.ntmps36
  go_wp2_with fail
  refine (qgoes_any _ _).mono ?_
  rintro e w' ⟨rfl, rfl⟩
  rw [show goes 3 = true from rfl]
  go_wp2_with fail
  refine bodyPost_ret (v := rnV ⟨3, be, mi, wa, l0, l1, l2, te⟩) (by simp [results, Try.results36, go_sem]) rfl ⟨rfl, ba (below2 _ _ _)⟩
set_option maxRecDepth 100000 in
set_option maxHeartbeats 1000000 in
theorem qmeet_32_1 (r : Ru) (be mi wa : Int) (l0 l1 l2 te : Bool) (h3 : ¬ r.t22 = 3) (h1 : r.t22 = 1) (w : World) : Calls Try.prog 36 #[ruV r, rnV ⟨3, be, mi, wa, l0, l1, l2, te⟩, .int .i64 2] w (RetRn (meetR r ⟨3, be, mi, wa, l0, l1, l2, te⟩ 2) w) := by
  have he : meetR r ⟨3, be, mi, wa, l0, l1, l2, te⟩ 2 = ⟨3, be, mi, wa, l0, l1, l2, true⟩ := by
    unfold meetR
    rw [show inPh ⟨3, be, mi, wa, l0, l1, l2, te⟩ = (3 : Int) from rfl, if_pos (show goes 3 = true from rfl), if_neg (show ¬ r.tb 3 2 = 3 from h3), if_pos (show r.tb 3 2 = 1 from h1)]
  rw [he]
  have t3 : (r.t22 == 3) = false := by simp [h3]
  have t1 : (r.t22 == 1) = true := by simp [h1]
  have t2 : (r.t22 == 2) = false := by simp [h1]
  clear he h3 h1
  go_enter Try.func36, Try.ntmps36
  go_wp2_with fail
  refine (qgoes_any _ _).mono ?_
  rintro e w' ⟨rfl, rfl⟩
  rw [show goes 3 = true from rfl]
  go_wp2_with fail
  refine bodyPost_ret (v := rnV ⟨3, be, mi, wa, l0, l1, l2, true⟩) (by simp [results, Try.results36, go_sem]) rfl ⟨rfl, ba (below2 _ _ _)⟩
set_option maxRecDepth 100000 in
set_option maxHeartbeats 1000000 in
theorem qmeet_32_2 (r : Ru) (be mi wa : Int) (l0 l1 l2 te : Bool) (h3 : ¬ r.t22 = 3) (h1 : ¬ r.t22 = 1) (h2 : r.t22 = 2) (w : World) : Calls Try.prog 36 #[ruV r, rnV ⟨3, be, mi, wa, l0, l1, l2, te⟩, .int .i64 2] w (RetRn (meetR r ⟨3, be, mi, wa, l0, l1, l2, te⟩ 2) w) := by
  have he : meetR r ⟨3, be, mi, wa, l0, l1, l2, te⟩ 2 = ⟨4, 3, mi, 0, l0, l1, l2, te⟩ := by
    unfold meetR
    rw [show inPh ⟨3, be, mi, wa, l0, l1, l2, te⟩ = (3 : Int) from rfl, if_pos (show goes 3 = true from rfl), if_neg (show ¬ r.tb 3 2 = 3 from h3), if_neg (show ¬ r.tb 3 2 = 1 from h1), if_pos (show r.tb 3 2 = 2 from h2), if_neg (show ¬ (3 : Int) = 4 by decide)]
  rw [he]
  have t3 : (r.t22 == 3) = false := by simp [h3]
  have t1 : (r.t22 == 1) = false := by simp [h1]
  have t2 : (r.t22 == 2) = true := by simp [h2]
  clear he h3 h1 h2
  go_enter Try.func36, Try.ntmps36
  go_wp2_with fail
  refine (qgoes_any _ _).mono ?_
  rintro e w' ⟨rfl, rfl⟩
  rw [show goes 3 = true from rfl]
  go_wp2_with fail
  refine bodyPost_ret (v := rnV ⟨4, 3, mi, 0, l0, l1, l2, te⟩) (by simp [results, Try.results36, go_sem]) rfl ⟨rfl, ba (below2 _ _ _)⟩
set_option maxRecDepth 100000 in
set_option maxHeartbeats 1000000 in
theorem qmeet_32_3 (r : Ru) (be mi wa : Int) (l0 l1 l2 te : Bool) (h3 : r.t22 = 3) (w : World) : Calls Try.prog 36 #[ruV r, rnV ⟨3, be, mi, wa, l0, l1, l2, te⟩, .int .i64 2] w (RetRn (meetR r ⟨3, be, mi, wa, l0, l1, l2, te⟩ 2) w) := by
  have he : meetR r ⟨3, be, mi, wa, l0, l1, l2, te⟩ 2 = (ended ⟨3, be, mi, wa, l0, l1, l2, te⟩ 7) := by
    unfold meetR
    rw [show inPh ⟨3, be, mi, wa, l0, l1, l2, te⟩ = (3 : Int) from rfl, if_pos (show goes 3 = true from rfl), if_pos (show r.tb 3 2 = 3 from h3)]
  rw [he]
  have t3 : (r.t22 == 3) = true := by simp [h3]
  clear he h3
  go_enter Try.func36, Try.ntmps36
  go_wp2_with fail
  refine (qgoes_any _ _).mono ?_
  rintro e w' ⟨rfl, rfl⟩
  rw [show goes 3 = true from rfl]
  go_wp2_with fail
  refine (qended_any ⟨3, be, mi, wa, l0, l1, l2, te⟩ 7 _).mono ?_
  rintro e w' ⟨rfl, rfl⟩
  go_wp2_with fail
  refine bodyPost_ret (v := rnV (ended ⟨3, be, mi, wa, l0, l1, l2, te⟩ 7)) (by simp [results, Try.results36, go_sem]) rfl ⟨rfl, ba (ba (ba (below2 _ _ _)))⟩
set_option maxRecDepth 100000 in
set_option maxHeartbeats 1000000 in
theorem qmeet_32w_0 (r : Ru) (mi wa : Int) (l0 l1 l2 te : Bool) (h3 : ¬ r.t22 = 3) (h1 : ¬ r.t22 = 1) (h2 : ¬ r.t22 = 2) (w : World) : Calls Try.prog 36 #[ruV r, rnV ⟨4, 3, mi, wa, l0, l1, l2, te⟩, .int .i64 2] w (RetRn (meetR r ⟨4, 3, mi, wa, l0, l1, l2, te⟩ 2) w) := by
  have he : meetR r ⟨4, 3, mi, wa, l0, l1, l2, te⟩ 2 = ⟨4, 3, mi, wa, l0, l1, l2, te⟩ := by
    unfold meetR
    rw [show inPh ⟨4, 3, mi, wa, l0, l1, l2, te⟩ = (3 : Int) from rfl, if_pos (show goes 3 = true from rfl), if_neg (show ¬ r.tb 3 2 = 3 from h3), if_neg (show ¬ r.tb 3 2 = 1 from h1), if_neg (show ¬ r.tb 3 2 = 2 from h2)]
  rw [he]
  have t3 : (r.t22 == 3) = false := by simp [h3]
  have t1 : (r.t22 == 1) = false := by simp [h1]
  have t2 : (r.t22 == 2) = false := by simp [h2]
  clear he h3 h1 h2
  go_enter Try.func36, Try.ntmps36
  go_wp2_with fail
  refine (qgoes_any _ _).mono ?_
  rintro e w' ⟨rfl, rfl⟩
  rw [show goes 3 = true from rfl]
  go_wp2_with fail
  refine bodyPost_ret (v := rnV ⟨4, 3, mi, wa, l0, l1, l2, te⟩) (by simp [results, Try.results36, go_sem]) rfl ⟨rfl, ba (below2 _ _ _)⟩
set_option maxRecDepth 100000 in
set_option maxHeartbeats 1000000 in
theorem qmeet_32w_1 (r : Ru) (mi wa : Int) (l0 l1 l2 te : Bool) (h3 : ¬ r.t22 = 3) (h1 : r.t22 = 1) (w : World) : Calls Try.prog 36 #[ruV r, rnV ⟨4, 3, mi, wa, l0, l1, l2, te⟩, .int .i64 2] w (RetRn (meetR r ⟨4, 3, mi, wa, l0, l1, l2, te⟩ 2) w) := by
  have he : meetR r ⟨4, 3, mi, wa, l0, l1, l2, te⟩ 2 = ⟨4, 3, mi, wa, l0, l1, l2, true⟩ := by
    unfold meetR
    rw [show inPh ⟨4, 3, mi, wa, l0, l1, l2, te⟩ = (3 : Int) from rfl, if_pos (show goes 3 = true from rfl), if_neg (show ¬ r.tb 3 2 = 3 from h3), if_pos (show r.tb 3 2 = 1 from h1)]
  rw [he]
  have t3 : (r.t22 == 3) = false := by simp [h3]
  have t1 : (r.t22 == 1) = true := by simp [h1]
  have t2 : (r.t22 == 2) = false := by simp [h1]
  clear he h3 h1
  go_enter Try.func36, Try.ntmps36
  go_wp2_with fail
  refine (qgoes_any _ _).mono ?_
  rintro e w' ⟨rfl, rfl⟩
  rw [show goes 3 = true from rfl]
  go_wp2_with fail
  refine bodyPost_ret (v := rnV ⟨4, 3, mi, wa, l0, l1, l2, true⟩) (by simp [results, Try.results36, go_sem]) rfl ⟨rfl, ba (below2 _ _ _)⟩
set_option maxRecDepth 100000 in
set_option maxHeartbeats 1000000 in
theorem qmeet_32w_2 (r : Ru) (mi wa : Int) (l0 l1 l2 te : Bool) (h3 : ¬ r.t22 = 3) (h1 : ¬ r.t22 = 1) (h2 : r.t22 = 2) (w : World) : Calls Try.prog 36 #[ruV r, rnV ⟨4, 3, mi, wa, l0, l1, l2, te⟩, .int .i64 2] w (RetRn (meetR r ⟨4, 3, mi, wa, l0, l1, l2, te⟩ 2) w) := by
  have he : meetR r ⟨4, 3, mi, wa, l0, l1, l2, te⟩ 2 = ⟨4, 3, mi, wa, l0, l1, l2, te⟩ := by
    unfold meetR
    rw [show inPh ⟨4, 3, mi, wa, l0, l1, l2, te⟩ = (3 : Int) from rfl, if_pos (show goes 3 = true from rfl), if_neg (show ¬ r.tb 3 2 = 3 from h3), if_neg (show ¬ r.tb 3 2 = 1 from h1), if_pos (show r.tb 3 2 = 2 from h2), if_pos rfl]
  rw [he]
  have t3 : (r.t22 == 3) = false := by simp [h3]
  have t1 : (r.t22 == 1) = false := by simp [h1]
  have t2 : (r.t22 == 2) = true := by simp [h2]
  clear he h3 h1 h2
  go_enter Try.func36, Try.ntmps36
  go_wp2_with fail
  refine (qgoes_any _ _).mono ?_
  rintro e w' ⟨rfl, rfl⟩
  rw [show goes 3 = true from rfl]
  go_wp2_with fail
  refine bodyPost_ret (v := rnV ⟨4, 3, mi, wa, l0, l1, l2, te⟩) (by simp [results, Try.results36, go_sem]) rfl ⟨rfl, ba (below2 _ _ _)⟩
set_option maxRecDepth 100000 in
set_option maxHeartbeats 1000000 in
theorem qmeet_32w_3 (r : Ru) (mi wa : Int) (l0 l1 l2 te : Bool) (h3 : r.t22 = 3) (w : World) : Calls Try.prog 36 #[ruV r, rnV ⟨4, 3, mi, wa, l0, l1, l2, te⟩, .int .i64 2] w (RetRn (meetR r ⟨4, 3, mi, wa, l0, l1, l2, te⟩ 2) w) := by
  have he : meetR r ⟨4, 3, mi, wa, l0, l1, l2, te⟩ 2 = (ended ⟨4, 3, mi, wa, l0, l1, l2, te⟩ 7) := by
    unfold meetR
    rw [show inPh ⟨4, 3, mi, wa, l0, l1, l2, te⟩ = (3 : Int) from rfl, if_pos (show goes 3 = true from rfl), if_pos (show r.tb 3 2 = 3 from h3)]
  rw [he]
  have t3 : (r.t22 == 3) = true := by simp [h3]
  clear he h3
  go_enter Try.func36, Try.ntmps36
  go_wp2_with fail
  refine (qgoes_any _ _).mono ?_
  rintro e w' ⟨rfl, rfl⟩
  rw [show goes 3 = true from rfl]
  go_wp2_with fail
  refine (qended_any ⟨4, 3, mi, wa, l0, l1, l2, te⟩ 7 _).mono ?_
  rintro e w' ⟨rfl, rfl⟩
  go_wp2_with fail
  refine bodyPost_ret (v := rnV (ended ⟨4, 3, mi, wa, l0, l1, l2, te⟩ 7)) (by simp [results, Try.results36, go_sem]) rfl ⟨rfl, ba (ba (ba (below2 _ _ _)))⟩
set_option maxRecDepth 100000 in
set_option maxHeartbeats 1000000 in
theorem qmeet_out (r : Ru) (x : Rn) (d : Nat) (hg : goes (inPh x) = false) (w : World) : Calls Try.prog 36 #[ruV r, rnV x, .int .i64 d] w (RetRn x w) := by
  obtain ⟨ph, be, mi, wa, l0, l1, l2, te⟩ := x
  by_cases h4 : ph = 4
  · subst h4
    have hin : goes be = false := hg
    clear hg
    go_enter Try.func36, Try.ntmps36
    go_wp2_with fail
    refine (qgoes_any _ _).mono ?_
    rintro e w' ⟨rfl, rfl⟩
    rw [hin]
    clear hin
    go_wp2_with fail
    refine bodyPost_ret (v := rnV ⟨4, be, mi, wa, l0, l1, l2, te⟩) (by simp [results, Try.results36, go_sem]) rfl ⟨rfl, ba (below2 _ _ _)⟩
  · have hin : goes ph = false := by
      have e : inPh ⟨ph, be, mi, wa, l0, l1, l2, te⟩ = ph := if_neg h4
      rw [e] at hg
      exact hg
    have t1 : (ph == 4) = false := by simp [h4]
    clear hg h4
    go_enter Try.func36, Try.ntmps36
    go_wp2_with fail
    refine (qgoes_any _ _).mono ?_
    rintro e w' ⟨rfl, rfl⟩
    rw [hin]
    clear hin t1
    go_wp2_with fail
    refine bodyPost_ret (v := rnV ⟨ph, be, mi, wa, l0, l1, l2, te⟩) (by simp [results, Try.results36, go_sem]) rfl ⟨rfl, ba (below2 _ _ _)⟩
theorem qmeet_any (r : Ru) (x : Rn) (d : Nat) (hd : d < 3) (w : World) : Calls Try.prog 36 #[ruV r, rnV x, .int .i64 d] w (RetRn (meetR r x d) w) := by
  cases hg : goes (inPh x) with
  | false =>
    have e : meetR r x d = x := by unfold meetR; rw [if_neg (by rw [hg]; decide)]
    rw [e]
    exact qmeet_out r x d hg w
  | true =>
    have hp := (goes_iff _).1 hg
    obtain ⟨ph, be, mi, wa, l0, l1, l2, te⟩ := x
    by_cases h4 : ph = 4
    · subst h4
      have hp' : 1 ≤ be ∧ be ≤ 3 := hp
      clear hp hg
      rcases (show be = 1 ∨ be = 2 ∨ be = 3 by omega) with rfl | rfl | rfl <;> rcases (show d = 0 ∨ d = 1 ∨ d = 2 by omega) with rfl | rfl | rfl
      · by_cases h3 : r.t00 = 3
        · exact qmeet_10w_3 r mi wa l0 l1 l2 te h3 w
        · by_cases h1 : r.t00 = 1
          · exact qmeet_10w_1 r mi wa l0 l1 l2 te h3 h1 w
          · by_cases h2 : r.t00 = 2
            · exact qmeet_10w_2 r mi wa l0 l1 l2 te h3 h1 h2 w
            · exact qmeet_10w_0 r mi wa l0 l1 l2 te h3 h1 h2 w
      · by_cases h3 : r.t01 = 3
        · exact qmeet_11w_3 r mi wa l0 l1 l2 te h3 w
        · by_cases h1 : r.t01 = 1
          · exact qmeet_11w_1 r mi wa l0 l1 l2 te h3 h1 w
          · by_cases h2 : r.t01 = 2
            · exact qmeet_11w_2 r mi wa l0 l1 l2 te h3 h1 h2 w
            · exact qmeet_11w_0 r mi wa l0 l1 l2 te h3 h1 h2 w
      · by_cases h3 : r.t02 = 3
        · exact qmeet_12w_3 r mi wa l0 l1 l2 te h3 w
        · by_cases h1 : r.t02 = 1
          · exact qmeet_12w_1 r mi wa l0 l1 l2 te h3 h1 w
          · by_cases h2 : r.t02 = 2
            · exact qmeet_12w_2 r mi wa l0 l1 l2 te h3 h1 h2 w
            · exact qmeet_12w_0 r mi wa l0 l1 l2 te h3 h1 h2 w
      · by_cases h3 : r.t10 = 3
        · exact qmeet_20w_3 r mi wa l0 l1 l2 te h3 w
        · by_cases h1 : r.t10 = 1
          · exact qmeet_20w_1 r mi wa l0 l1 l2 te h3 h1 w
          · by_cases h2 : r.t10 = 2
            · exact qmeet_20w_2 r mi wa l0 l1 l2 te h3 h1 h2 w
            · exact qmeet_20w_0 r mi wa l0 l1 l2 te h3 h1 h2 w
      · by_cases h3 : r.t11 = 3
        · exact qmeet_21w_3 r mi wa l0 l1 l2 te h3 w
        · by_cases h1 : r.t11 = 1
          · exact qmeet_21w_1 r mi wa l0 l1 l2 te h3 h1 w
          · by_cases h2 : r.t11 = 2
            · exact qmeet_21w_2 r mi wa l0 l1 l2 te h3 h1 h2 w
            · exact qmeet_21w_0 r mi wa l0 l1 l2 te h3 h1 h2 w
      · by_cases h3 : r.t12 = 3
        · exact qmeet_22w_3 r mi wa l0 l1 l2 te h3 w
        · by_cases h1 : r.t12 = 1
          · exact qmeet_22w_1 r mi wa l0 l1 l2 te h3 h1 w
          · by_cases h2 : r.t12 = 2
            · exact qmeet_22w_2 r mi wa l0 l1 l2 te h3 h1 h2 w
            · exact qmeet_22w_0 r mi wa l0 l1 l2 te h3 h1 h2 w
      · by_cases h3 : r.t20 = 3
        · exact qmeet_30w_3 r mi wa l0 l1 l2 te h3 w
        · by_cases h1 : r.t20 = 1
          · exact qmeet_30w_1 r mi wa l0 l1 l2 te h3 h1 w
          · by_cases h2 : r.t20 = 2
            · exact qmeet_30w_2 r mi wa l0 l1 l2 te h3 h1 h2 w
            · exact qmeet_30w_0 r mi wa l0 l1 l2 te h3 h1 h2 w
      · by_cases h3 : r.t21 = 3
        · exact qmeet_31w_3 r mi wa l0 l1 l2 te h3 w
        · by_cases h1 : r.t21 = 1
          · exact qmeet_31w_1 r mi wa l0 l1 l2 te h3 h1 w
          · by_cases h2 : r.t21 = 2
            · exact qmeet_31w_2 r mi wa l0 l1 l2 te h3 h1 h2 w
            · exact qmeet_31w_0 r mi wa l0 l1 l2 te h3 h1 h2 w
      · by_cases h3 : r.t22 = 3
        · exact qmeet_32w_3 r mi wa l0 l1 l2 te h3 w
        · by_cases h1 : r.t22 = 1
          · exact qmeet_32w_1 r mi wa l0 l1 l2 te h3 h1 w
          · by_cases h2 : r.t22 = 2
            · exact qmeet_32w_2 r mi wa l0 l1 l2 te h3 h1 h2 w
            · exact qmeet_32w_0 r mi wa l0 l1 l2 te h3 h1 h2 w
    · have e : inPh ⟨ph, be, mi, wa, l0, l1, l2, te⟩ = ph := if_neg h4
      rw [e] at hp
      clear hg e
      rcases (show ph = 1 ∨ ph = 2 ∨ ph = 3 by omega) with rfl | rfl | rfl <;> rcases (show d = 0 ∨ d = 1 ∨ d = 2 by omega) with rfl | rfl | rfl
      · by_cases h3 : r.t00 = 3
        · exact qmeet_10_3 r be mi wa l0 l1 l2 te h3 w
        · by_cases h1 : r.t00 = 1
          · exact qmeet_10_1 r be mi wa l0 l1 l2 te h3 h1 w
          · by_cases h2 : r.t00 = 2
            · exact qmeet_10_2 r be mi wa l0 l1 l2 te h3 h1 h2 w
            · exact qmeet_10_0 r be mi wa l0 l1 l2 te h3 h1 h2 w
      · by_cases h3 : r.t01 = 3
        · exact qmeet_11_3 r be mi wa l0 l1 l2 te h3 w
        · by_cases h1 : r.t01 = 1
          · exact qmeet_11_1 r be mi wa l0 l1 l2 te h3 h1 w
          · by_cases h2 : r.t01 = 2
            · exact qmeet_11_2 r be mi wa l0 l1 l2 te h3 h1 h2 w
            · exact qmeet_11_0 r be mi wa l0 l1 l2 te h3 h1 h2 w
      · by_cases h3 : r.t02 = 3
        · exact qmeet_12_3 r be mi wa l0 l1 l2 te h3 w
        · by_cases h1 : r.t02 = 1
          · exact qmeet_12_1 r be mi wa l0 l1 l2 te h3 h1 w
          · by_cases h2 : r.t02 = 2
            · exact qmeet_12_2 r be mi wa l0 l1 l2 te h3 h1 h2 w
            · exact qmeet_12_0 r be mi wa l0 l1 l2 te h3 h1 h2 w
      · by_cases h3 : r.t10 = 3
        · exact qmeet_20_3 r be mi wa l0 l1 l2 te h3 w
        · by_cases h1 : r.t10 = 1
          · exact qmeet_20_1 r be mi wa l0 l1 l2 te h3 h1 w
          · by_cases h2 : r.t10 = 2
            · exact qmeet_20_2 r be mi wa l0 l1 l2 te h3 h1 h2 w
            · exact qmeet_20_0 r be mi wa l0 l1 l2 te h3 h1 h2 w
      · by_cases h3 : r.t11 = 3
        · exact qmeet_21_3 r be mi wa l0 l1 l2 te h3 w
        · by_cases h1 : r.t11 = 1
          · exact qmeet_21_1 r be mi wa l0 l1 l2 te h3 h1 w
          · by_cases h2 : r.t11 = 2
            · exact qmeet_21_2 r be mi wa l0 l1 l2 te h3 h1 h2 w
            · exact qmeet_21_0 r be mi wa l0 l1 l2 te h3 h1 h2 w
      · by_cases h3 : r.t12 = 3
        · exact qmeet_22_3 r be mi wa l0 l1 l2 te h3 w
        · by_cases h1 : r.t12 = 1
          · exact qmeet_22_1 r be mi wa l0 l1 l2 te h3 h1 w
          · by_cases h2 : r.t12 = 2
            · exact qmeet_22_2 r be mi wa l0 l1 l2 te h3 h1 h2 w
            · exact qmeet_22_0 r be mi wa l0 l1 l2 te h3 h1 h2 w
      · by_cases h3 : r.t20 = 3
        · exact qmeet_30_3 r be mi wa l0 l1 l2 te h3 w
        · by_cases h1 : r.t20 = 1
          · exact qmeet_30_1 r be mi wa l0 l1 l2 te h3 h1 w
          · by_cases h2 : r.t20 = 2
            · exact qmeet_30_2 r be mi wa l0 l1 l2 te h3 h1 h2 w
            · exact qmeet_30_0 r be mi wa l0 l1 l2 te h3 h1 h2 w
      · by_cases h3 : r.t21 = 3
        · exact qmeet_31_3 r be mi wa l0 l1 l2 te h3 w
        · by_cases h1 : r.t21 = 1
          · exact qmeet_31_1 r be mi wa l0 l1 l2 te h3 h1 w
          · by_cases h2 : r.t21 = 2
            · exact qmeet_31_2 r be mi wa l0 l1 l2 te h3 h1 h2 w
            · exact qmeet_31_0 r be mi wa l0 l1 l2 te h3 h1 h2 w
      · by_cases h3 : r.t22 = 3
        · exact qmeet_32_3 r be mi wa l0 l1 l2 te h3 w
        · by_cases h1 : r.t22 = 1
          · exact qmeet_32_1 r be mi wa l0 l1 l2 te h3 h1 w
          · by_cases h2 : r.t22 = 2
            · exact qmeet_32_2 r be mi wa l0 l1 l2 te h3 h1 h2 w
            · exact qmeet_32_0 r be mi wa l0 l1 l2 te h3 h1 h2 w
end Go.Proofs.Ytmfochplnchgcaa

/- THE WALKS of the reference's begin and tick; printed by wip/tools/gen_cu.py. -/
namespace Go.Proofs.Ytmfochplnchgcaa
open Go.RowKit

def stR (r : Ru) (x : Rn) (p : Int) : Nat → Rn
  | 0 => { x with ph := p, mi := 0 }
  | i + 1 => meetIfR r (stR r x p i) i
theorem stR_three (r : Ru) (x : Rn) (p : Int) : stR r x p 3 = beginR r x p := rfl
theorem rnA_lost (x : Rn) (d : Nat) (hd : d < 3) : (rnA x)[4 + d]? = some (.bool (x.lost d)) := by
  match d, hd with
  | 0, _ => rfl
  | 1, _ => rfl
  | 2, _ => rfl
set_option maxRecDepth 100000 in
set_option maxHeartbeats 1000000 in
theorem qbegin_any (r : Ru) (x : Rn) (p : Int) (w : World) : Calls Try.prog 35 #[ruV r, rnV x, .int .i64 p] w (RetRn (beginR r x p) w) := by
  have HS0 : Hid (stR r x p 0 = { x with ph := p, mi := 0 }) := rfl
  obtain ⟨ph, be, mi, wa, l0, l1, l2, te⟩ := x
  go_enter Try.func35, Try.ntmps35
  go_wp2_with fail
  generalize hW0 : ((w.alloc (.cells (ruA r) 37)).alloc (.cells (rnA ⟨p, be, 0, wa, l0, l1, l2, te⟩) 34)).alloc (.cells _ _) = W at *
  obtain ⟨hal, hB1, hB2, hB3, hWs⟩ := bx3 w _ _ _ W hW0.symm
  clear hW0
  have HAL := Lib.hid hal
  have HB1 := Lib.hid hB1
  have HB2 := Lib.hid hB2
  have HB3 := Lib.hid hB3
  clear hal hB1 hB2 hB3 hWs
  go_loopw [7] (fun iv wr => ∃ (i : Nat), i ≤ 3 ∧ iv = .int .i64 i ∧ Hid (wr.heap[w.heap.size + 1]? = some (.cells (rnA (stR r ⟨ph, be, mi, wa, l0, l1, l2, te⟩ p i)) 34 (0, 0))) ∧ Hid (wr.heap[w.heap.size]? = some (.cells (ruA r) 37 (0, 0))) ∧
      Hid (∃ c, wr.heap[w.heap.size + 1 + 1]? = some (.cells (rnA c) 34 (0, 0))) ∧ Hid (Below w.heap.size w wr))
    (fun iv _ => 3 - (intOf iv).toNat)
  case atStart => exact ⟨0, by omega, rfl, HB2, HB1, ⟨rn0, HB3.out⟩, HAL⟩
  case round =>
    obtain ⟨i, hi, rfl, K1, K2, K3, KB⟩ := hrel
    by_cases hlt : i < 3
    · have Hst : Hid (stR r ⟨ph, be, mi, wa, l0, l1, l2, te⟩ p (i + 1) = meetIfR r (stR r ⟨ph, be, mi, wa, l0, l1, l2, te⟩ p i) i) := rfl
      have hlt' : (i : Int) < 3 := by omega
      have hi0 : (0 : Int) ≤ i := by omega
      have HLT := Lib.hid hlt
      clear hlt
      generalize stR r ⟨ph, be, mi, wa, l0, l1, l2, te⟩ p i = y at *
      have kl := blk_cell K1.out _ _ (rnA_lost y i HLT.out)
      cases hl : y.lost i with
      | false =>
        rw [hl] at kl
        have HZ : Hid (stR r ⟨ph, be, mi, wa, l0, l1, l2, te⟩ p (i + 1) = y) := by
          show _ = _
          rw [Hst.out]
          unfold meetIfR
          rw [if_neg (by rw [hl]; decide)]
        clear hl Hst
        go_wp2_with fail
        exact ⟨⟨i + 1, by have := HLT.out; omega, by go_num, by rw [HZ.out]; exact K1, K2, K3, KB⟩, meas_up HLT.out⟩
      | true =>
        rw [hl] at kl
        have HZ : Hid (stR r ⟨ph, be, mi, wa, l0, l1, l2, te⟩ p (i + 1) = meetR r y i) := by
          show _ = _
          rw [Hst.out]
          unfold meetIfR
          rw [if_pos hl]
        clear hl Hst
        obtain ⟨k0, k1, k2, k3, k4, k5, k6, k7⟩ := rn8g K1.out
        obtain ⟨m0, m1, m2, m3, m4, m5, m6, m7, m8, m9, m10, m11, m12⟩ := ru13g K2.out
        go_wp2_with fail
        refine (qmeet_any r y i HLT.out _).mono ?_
        rintro e w1 ⟨rfl, hb⟩
        generalize meetR r y i = u at *
        obtain ⟨c, hB3⟩ := K3.out
        have e1 := blk_keep K1.out hb (blk_lt K1.out)
        have E2 := Lib.hid (blk_keep K2.out hb (blk_lt K2.out))
        have E3 := Lib.hid (blk_keep hB3 hb (blk_lt hB3))
        have HB := Lib.hid (KB.out.trans (hb.mono KB.out.size))
        obtain ⟨g0, g1, g2, g3, g4, g5, g6, g7⟩ := rn8g e1
        obtain ⟨f0, f1, f2, f3, f4, f5, f6, f7⟩ := rnfg e1
        have E1 := Lib.hid e1
        clear hB3 e1 hb kl k0 k1 k2 k3 k4 k5 k6 k7 m0 m1 m2 m3 m4 m5 m6 m7 m8 m9 m10 m11 m12
        go_wp2_with fail
        exact ⟨⟨i + 1, by have := HLT.out; omega, by go_num, (by rw [HZ.out]; exact set8 E1.out), oth8 E2.out (by omega), ⟨c, oth8 E3.out (by omega)⟩, below_set8 HB.out (by omega)⟩, meas_up HLT.out⟩
    · obtain rfl : i = 3 := by omega
      rw [stR_three] at K1
      generalize beginR r ⟨ph, be, mi, wa, l0, l1, l2, te⟩ p = u at *
      obtain ⟨c, hB3⟩ := K3.out
      obtain ⟨k0, k1, k2, k3, k4, k5, k6, k7⟩ := rn8g K1.out
      obtain ⟨g0, g1, g2, g3, g4, g5, g6, g7⟩ := rn8g hB3
      obtain ⟨f0, f1, f2, f3, f4, f5, f6, f7⟩ := rnfg hB3
      have E3 := Lib.hid hB3
      clear hB3
      go_wp2_with fail
      obtain ⟨h0, h1, h2, h3, h4, h5, h6, h7⟩ := rn8g (x := u) (set8 (u0 := .int .i64 u.ph) (u1 := .int .i64 u.be) (u2 := .int .i64 u.mi) (u3 := .int .i64 u.wa) (u4 := .bool u.l0) (u5 := .bool u.l1) (u6 := .bool u.l2) (u7 := .bool u.te) E3.out)
      refine bodyPost_ret (v := rnV u) (by simp [results, Try.results35, go_sem, h0, h1, h2, h3, h4, h5, h6, h7]) rfl ⟨rfl, ?_⟩
      exact below_set8 KB.out (by omega)
set_option maxRecDepth 100000 in
set_option maxHeartbeats 1000000 in
theorem qtick_wait (r : Ru) (be mi wa : Int) (l0 l1 l2 te : Bool) (hw : IntKind.i64.wrap (wa + 1) = wa + 1) (w : World) :
    Calls Try.prog 34 #[ruV r, rnV ⟨4, be, mi, wa, l0, l1, l2, te⟩] w (RetRn (tickR r ⟨4, be, mi, wa, l0, l1, l2, te⟩) w) := by
  have hg : ¬ goes (⟨4, be, mi, wa, l0, l1, l2, te⟩ : Rn).ph = true := by show ¬ goes 4 = true; decide
  by_cases h : r.pa < wa + 1
  · have t1 : decide (wa + 1 > r.pa) = true := decide_eq_true h
    have e : tickR r ⟨4, be, mi, wa, l0, l1, l2, te⟩ = ended ⟨4, be, mi, wa + 1, l0, l1, l2, te⟩ 7 := by unfold tickR; rw [if_neg hg, if_pos rfl, if_pos h]
    rw [e]
    clear h e hg
    go_enter Try.func34, Try.ntmps34
    go_wp2_with fail
    refine (qgoes_any _ _).mono ?_
    rintro e w' ⟨rfl, rfl⟩
    rw [show goes 4 = false from rfl]
    go_wp2_with fail
    refine (qended_any ⟨4, be, mi, wa + 1, l0, l1, l2, te⟩ 7 _).mono ?_
    rintro e w' ⟨rfl, rfl⟩
    go_wp2_with fail
    refine bodyPost_ret (v := rnV (ended ⟨4, be, mi, wa + 1, l0, l1, l2, te⟩ 7)) (by simp [results, Try.results34, go_sem]) rfl ⟨rfl, ?_⟩
    exact ba (ba (ba (below2 _ _ _)))
  · have t1 : decide (wa + 1 > r.pa) = false := decide_eq_false h
    have e : tickR r ⟨4, be, mi, wa, l0, l1, l2, te⟩ = ⟨4, be, mi, wa + 1, l0, l1, l2, te⟩ := by unfold tickR; rw [if_neg hg, if_pos rfl, if_neg h]
    rw [e]
    clear h e hg
    go_enter Try.func34, Try.ntmps34
    go_wp2_with fail
    refine (qgoes_any _ _).mono ?_
    rintro e w' ⟨rfl, rfl⟩
    rw [show goes 4 = false from rfl]
    go_wp2_with fail
    refine bodyPost_ret (v := rnV ⟨4, be, mi, wa + 1, l0, l1, l2, te⟩) (by simp [results, Try.results34, go_sem]) rfl ⟨rfl, ?_⟩
    exact ba (below2 _ _ _)
set_option maxRecDepth 100000 in
set_option maxHeartbeats 1000000 in
theorem qtick_rest (r : Ru) (x : Rn) (h4 : ¬ x.ph = 4) (hg : goes x.ph = false) (w : World) : Calls Try.prog 34 #[ruV r, rnV x] w (RetRn x w) := by
  have t1 : (x.ph == 4) = false := by simp [h4]
  clear h4
  go_enter Try.func34, Try.ntmps34
  go_wp2_with fail
  refine (qgoes_any _ _).mono ?_
  rintro e w' ⟨rfl, rfl⟩
  rw [hg]
  go_wp2_with fail
  refine bodyPost_ret (v := rnV x) (by simp [results, Try.results34, go_sem]) rfl ⟨rfl, ?_⟩
  exact ba (below2 _ _ _)
set_option maxRecDepth 100000 in
set_option maxHeartbeats 1000000 in
theorem qtick_goes (r : Ru) (ph be mi wa : Int) (l0 l1 l2 te : Bool) (hg : goes ph = true) (hm : IntKind.i64.wrap (mi + 1) = mi + 1)
    (j : Nat) (mv : Int) (hw : IntKind.i64.wrap (ph - 1) = (j : Int)) (hj0 : (0 : Int) ≤ j) (hj3 : (j : Int) < 3) (HM : Hid ((ruA r)[j]? = some (.int .i64 mv))) (hp : IntKind.i64.wrap (ph + 1) = ph + 1) (w : World) :
    Calls Try.prog 34 #[ruV r, rnV ⟨ph, be, mi, wa, l0, l1, l2, te⟩] w (RetRn (if mi + 1 < mv then ⟨ph, be, mi + 1, wa, l0, l1, l2, te⟩ else if ph < 3 then beginR r ⟨ph, be, mi + 1, wa, l0, l1, l2, te⟩ (ph + 1) else if te then ended ⟨ph, be, mi + 1, wa, l0, l1, l2, te⟩ 6 else ended ⟨ph, be, mi + 1, wa, l0, l1, l2, te⟩ 5) w) := by
  obtain ⟨u, hu⟩ : ∃ u : Rn, u = (if mi + 1 < mv then ⟨ph, be, mi + 1, wa, l0, l1, l2, te⟩ else if ph < 3 then beginR r ⟨ph, be, mi + 1, wa, l0, l1, l2, te⟩ (ph + 1) else if te then ended ⟨ph, be, mi + 1, wa, l0, l1, l2, te⟩ 6 else ended ⟨ph, be, mi + 1, wa, l0, l1, l2, te⟩ 5) := ⟨_, rfl⟩
  rw [← hu]
  have HU := Lib.hid hu
  clear hu
  go_enter Try.func34, Try.ntmps34
  go_wp2_with fail
  refine (qgoes_any _ _).mono ?_
  rintro e w' ⟨rfl, rfl⟩
  rw [hg]
  go_wp2_with fail
  generalize hW0 : ((w.alloc (.cells (ruA r) 37)).alloc (.cells (rnA ⟨ph, be, mi + 1, wa, l0, l1, l2, te⟩) 34)).alloc (.cells _ _) = W at *
  obtain ⟨hal, hC2, hC1, hC3, hWs⟩ := bx3 w _ _ _ W hW0.symm
  have HAL := Lib.hid hal
  clear hW0 hal hWs
  have a0 : W.cell? ⟨w.heap.size + 1, 0, none⟩ = some (.int .i64 ph) := blk_cell hC1 0 _ rfl
  have a2 : W.cell? ⟨w.heap.size + 1, 2, none⟩ = some (.int .i64 (mi + 1)) := blk_cell hC1 2 _ rfl
  have k3 := blk_cell hC2 _ _ HM.out
  have D1 : Hid (W.drew.heap[w.heap.size + 1]? = _) := hC1
  have D2 : Hid (W.drew.heap[w.heap.size]? = _) := hC2
  have D3 : Hid (W.drew.heap[w.heap.size + 1 + 1]? = _) := hC3
  have BV := Lib.hid HAL.out.drew
  clear hC1 hC2 hC3
  go_region_held3 (fun w' => Below W.heap.size W w' ∧ w'.cell? ⟨w.heap.size + 1, 0, none⟩ = some (.int .i64 ph) ∧ w'.cell? ⟨w.heap.size + 1, 2, none⟩ = some (.int .i64 (mi + 1)) ∧ w'.cell? ⟨w.heap.size, j, none⟩ = some (.int .i64 mv))
    (first | exact ⟨(Below.refl _ _).drew, a0, a2, k3⟩ | assumption)
    (fail)
  rename_i hHeld
  clear hHeld a0 a2 k3
  generalize W.drew = V at *
  obtain ⟨k0, k1, k2, k3, k4, k5, k6, k7⟩ := rn8g (x := ⟨ph, be, mi + 1, wa, l0, l1, l2, te⟩) D1.out
  by_cases c1 : mi + 1 < mv
  · rw [decide_eq_true c1]
    have HU2 : Hid (u = ⟨ph, be, mi + 1, wa, l0, l1, l2, te⟩) := by show _ = _; rw [HU.out, if_pos c1]
    clear c1 HU
    obtain ⟨f0, f1, f2, f3, f4, f5, f6, f7⟩ := rnfg (x := rn0) D3.out
    obtain ⟨g0, g1, g2, g3, g4, g5, g6, g7⟩ := rn8g (x := rn0) D3.out
    go_wp2_with fail
    have hE := set8 (u0 := .int .i64 ph) (u1 := .int .i64 be) (u2 := .int .i64 (mi + 1)) (u3 := .int .i64 wa) (u4 := .bool l0) (u5 := .bool l1) (u6 := .bool l2) (u7 := .bool te) D3.out
    obtain ⟨h0, h1, h2, h3, h4, h5, h6, h7⟩ := rn8g (x := ⟨ph, be, mi + 1, wa, l0, l1, l2, te⟩) hE
    refine bodyPost_ret (v := rnV ⟨ph, be, mi + 1, wa, l0, l1, l2, te⟩) (by simp [results, Try.results34, go_sem, h0, h1, h2, h3, h4, h5, h6, h7]) rfl ⟨by rw [HU2.out], ?_⟩
    exact below_set8 BV.out (by omega)
  · rw [decide_eq_false c1]
    by_cases c2 : ph < 3
    · have t3 : decide (ph < 3) = true := decide_eq_true c2
      have HU2 : Hid (u = beginR r ⟨ph, be, mi + 1, wa, l0, l1, l2, te⟩ (ph + 1)) := by show _ = _; rw [HU.out, if_neg c1, if_pos c2]
      clear c1 c2 HU
      obtain ⟨m0, m1, m2, m3, m4, m5, m6, m7, m8, m9, m10, m11, m12⟩ := ru13g D2.out
      go_wp2_with fail
      refine (qbegin_any r ⟨ph, be, mi + 1, wa, l0, l1, l2, te⟩ (ph + 1) _).mono ?_
      rintro e w1 ⟨rfl, hb⟩
      rw [← HU2.out]
      clear m0 m1 m2 m3 m4 m5 m6 m7 m8 m9 m10 m11 m12 HU2
      have E3 := Lib.hid (blk_keep D3.out hb (blk_lt D3.out))
      have HB := Lib.hid (BV.out.trans (hb.mono BV.out.size))
      obtain ⟨f0, f1, f2, f3, f4, f5, f6, f7⟩ := rnfg (x := rn0) E3.out
      obtain ⟨g0, g1, g2, g3, g4, g5, g6, g7⟩ := rn8g (x := rn0) E3.out
      clear k0 k1 k2 k3 k4 k5 k6 k7 hb
      go_wp2_with fail
      obtain ⟨h0, h1, h2, h3, h4, h5, h6, h7⟩ := rn8g (x := u) (set8 (u0 := .int .i64 u.ph) (u1 := .int .i64 u.be) (u2 := .int .i64 u.mi) (u3 := .int .i64 u.wa) (u4 := .bool u.l0) (u5 := .bool u.l1) (u6 := .bool u.l2) (u7 := .bool u.te) E3.out)
      refine bodyPost_ret (v := rnV u) (by simp [results, Try.results34, go_sem, h0, h1, h2, h3, h4, h5, h6, h7]) rfl ⟨rfl, ?_⟩
      exact below_set8 HB.out (by omega)
    · have t3 : decide (ph < 3) = false := decide_eq_false c2
      cases te with
      | true =>
        have HU2 : Hid (u = ended ⟨ph, be, mi + 1, wa, l0, l1, l2, true⟩ 6) := by show _ = _; rw [HU.out, if_neg c1, if_neg c2, if_pos rfl]
        clear c1 c2 HU
        go_wp2_with fail
        refine (qended_any ⟨ph, be, mi + 1, wa, l0, l1, l2, true⟩ 6 _).mono ?_
        rintro e w1 ⟨rfl, hw1⟩
        have hb : Below V.heap.size V w1 := by rw [hw1]; exact below2 _ _ _
        rw [← HU2.out]
        clear hw1 HU2
        have E3 := Lib.hid (blk_keep D3.out hb (blk_lt D3.out))
        have HB := Lib.hid (BV.out.trans (hb.mono BV.out.size))
        obtain ⟨f0, f1, f2, f3, f4, f5, f6, f7⟩ := rnfg (x := rn0) E3.out
        obtain ⟨g0, g1, g2, g3, g4, g5, g6, g7⟩ := rn8g (x := rn0) E3.out
        clear k0 k1 k2 k3 k4 k5 k6 k7 hb
        go_wp2_with fail
        obtain ⟨h0, h1, h2, h3, h4, h5, h6, h7⟩ := rn8g (x := u) (set8 (u0 := .int .i64 u.ph) (u1 := .int .i64 u.be) (u2 := .int .i64 u.mi) (u3 := .int .i64 u.wa) (u4 := .bool u.l0) (u5 := .bool u.l1) (u6 := .bool u.l2) (u7 := .bool u.te) E3.out)
        refine bodyPost_ret (v := rnV u) (by simp [results, Try.results34, go_sem, h0, h1, h2, h3, h4, h5, h6, h7]) rfl ⟨rfl, ?_⟩
        exact below_set8 HB.out (by omega)
      | false =>
        have HU2 : Hid (u = ended ⟨ph, be, mi + 1, wa, l0, l1, l2, false⟩ 5) := by show _ = _; rw [HU.out, if_neg c1, if_neg c2, if_neg (by decide)]
        clear c1 c2 HU
        go_wp2_with fail
        refine (qended_any ⟨ph, be, mi + 1, wa, l0, l1, l2, false⟩ 5 _).mono ?_
        rintro e w1 ⟨rfl, hw1⟩
        have hb : Below V.heap.size V w1 := by rw [hw1]; exact below2 _ _ _
        rw [← HU2.out]
        clear hw1 HU2
        have E3 := Lib.hid (blk_keep D3.out hb (blk_lt D3.out))
        have HB := Lib.hid (BV.out.trans (hb.mono BV.out.size))
        obtain ⟨f0, f1, f2, f3, f4, f5, f6, f7⟩ := rnfg (x := rn0) E3.out
        obtain ⟨g0, g1, g2, g3, g4, g5, g6, g7⟩ := rn8g (x := rn0) E3.out
        clear k0 k1 k2 k3 k4 k5 k6 k7 hb
        go_wp2_with fail
        obtain ⟨h0, h1, h2, h3, h4, h5, h6, h7⟩ := rn8g (x := u) (set8 (u0 := .int .i64 u.ph) (u1 := .int .i64 u.be) (u2 := .int .i64 u.mi) (u3 := .int .i64 u.wa) (u4 := .bool u.l0) (u5 := .bool u.l1) (u6 := .bool u.l2) (u7 := .bool u.te) E3.out)
        refine bodyPost_ret (v := rnV u) (by simp [results, Try.results34, go_sem, h0, h1, h2, h3, h4, h5, h6, h7]) rfl ⟨rfl, ?_⟩
        exact below_set8 HB.out (by omega)
theorem qtick_any (r : Ru) (x : Rn) (G : GoodRules r) (hR : Right r x) (w : World) : Calls Try.prog 34 #[ruV r, rnV x] w (RetRn (tickR r x) w) := by
  by_cases h4 : x.ph = 4
  · obtain ⟨ph, be, mi, wa, l0, l1, l2, te⟩ := x
    obtain rfl : ph = 4 := h4
    have hpa := G.pa
    have hwa : 0 ≤ wa ∧ wa ≤ 256 := by
      rcases hR with ⟨a, b, c, d, e⟩ | ⟨a, b, c, d⟩ | ⟨a, b, c, d⟩
      · have : 0 ≤ wa ∧ wa ≤ r.pa := d
        omega
      · have : (1 : Int) ≤ 4 ∧ (4 : Int) ≤ 3 := c
        omega
      · have : (4 : Int) = 0 ∨ (4 : Int) = 5 ∨ (4 : Int) = 6 ∨ (4 : Int) = 7 := d
        omega
    exact qtick_wait r be mi wa l0 l1 l2 te (wrap_p hwa) w
  · cases hg : goes x.ph with
    | true =>
      have hp := (goes_iff _).1 hg
      have hmn := G.mn x.ph
      have hmi : 0 ≤ x.mi ∧ x.mi ≤ 256 := by rcases hR with ⟨a, b, c, d, e⟩ | ⟨a, b, c, d⟩ | ⟨a, b, c, d⟩ <;> omega
      obtain ⟨j, hj⟩ : ∃ j : Nat, (j : Int) = x.ph - 1 := ⟨(x.ph - 1).toNat, by omega⟩
      have hM := ruA_mn r j (by omega)
      rw [show (j : Int) + 1 = x.ph from by omega] at hM
      have e : tickR r x = (if x.mi + 1 < r.mn x.ph then { x with mi := x.mi + 1 } else if x.ph < 3 then beginR r { x with mi := x.mi + 1 } (x.ph + 1) else if x.te then ended { x with mi := x.mi + 1 } 6 else ended { x with mi := x.mi + 1 } 5) := by
        unfold tickR
        rw [if_pos hg]
      rw [e]
      obtain ⟨ph, be, mi, wa, l0, l1, l2, te⟩ := x
      exact qtick_goes r ph be mi wa l0 l1 l2 te hg (wrap_p hmi) j _ (wrap3 _ j hp hj) (by omega) (by omega) hM (wrap_p (by have : 1 ≤ ph ∧ ph ≤ 3 := hp; omega)) w
    | false =>
      have e : tickR r x = x := by unfold tickR; rw [if_neg (by rw [hg]; decide), if_neg h4]
      rw [e]
      exact qtick_rest r x h4 hg w
end Go.Proofs.Ytmfochplnchgcaa
