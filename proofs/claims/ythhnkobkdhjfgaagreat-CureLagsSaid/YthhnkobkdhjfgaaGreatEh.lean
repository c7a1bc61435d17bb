/- Part h of the lemmas and walks. -/
import Derived.Test.YthhnkobkdhjfgaaGreatEg

namespace Go.Proofs.YthhnkobkdhjfgaaGreat
open Go.RowKit

theorem inf_ratio_Ratio : (Tryz.prog.info? 42).map (fun i => (i.zero, i.size, i.bytes)) = some (some (.agg #[.bool false, .slice none 0 0, .slice none 0 0]), 3, 56) := by kernel_rfl
theorem Sx.st_RRRI {w0 w : World} {bs : List Bx} {fs : List Fx} (h : Sx w0 w bs fs) (i : Nat) (o0 : R3) (o1 : R3) (o2 : R3) (o3 : Int) (n0 : R3) (n1 : R3) (n2 : R3) (n3 : Int) {B T : Nat} (hi : bs[i]? = some (B, #[.bool o0.b, .slice o0.a o0.n o0.c, .slice o0.d o0.m o0.e, .bool o1.b, .slice o1.a o1.n o1.c, .slice o1.d o1.m o1.e, .bool o2.b, .slice o2.a o2.n o2.c, .slice o2.d o2.m o2.e, .int .i64 o3], T)) :
  Sx w0 (((((((((((w).setCell ⟨B, 0, none⟩ (.bool n0.b)).setCell ⟨B, 1, none⟩ (.slice n0.a n0.n n0.c)).setCell ⟨B, 2, none⟩ (.slice n0.d n0.m n0.e)).setCell ⟨B, 3, none⟩ (.bool n1.b)).setCell ⟨B, 4, none⟩ (.slice n1.a n1.n n1.c)).setCell ⟨B, 5, none⟩ (.slice n1.d n1.m n1.e)).setCell ⟨B, 6, none⟩ (.bool n2.b)).setCell ⟨B, 7, none⟩ (.slice n2.a n2.n n2.c)).setCell ⟨B, 8, none⟩ (.slice n2.d n2.m n2.e)).setCell ⟨B, 9, none⟩ (.int .i64 n3)) (bs.set i (B, #[.bool n0.b, .slice n0.a n0.n n0.c, .slice n0.d n0.m n0.e, .bool n1.b, .slice n1.a n1.n n1.c, .slice n1.d n1.m n1.e, .bool n2.b, .slice n2.a n2.n n2.c, .slice n2.d n2.m n2.e, .int .i64 n3], T)) fs := by
 have hl := (List.getElem?_eq_some_iff.1 hi).1
 have g := ((((((((((h).set i hi 0 (v := .bool n0.b) rfl).set i (by rw [List.getElem?_set, if_pos rfl, if_pos (by simpa using hl)]) 1 (v := .slice n0.a n0.n n0.c) rfl).set i (by rw [List.getElem?_set, if_pos rfl, if_pos (by simpa using hl)]) 2 (v := .slice n0.d n0.m n0.e) rfl).set i (by rw [List.getElem?_set, if_pos rfl, if_pos (by simpa using hl)]) 3 (v := .bool n1.b) rfl).set i (by rw [List.getElem?_set, if_pos rfl, if_pos (by simpa using hl)]) 4 (v := .slice n1.a n1.n n1.c) rfl).set i (by rw [List.getElem?_set, if_pos rfl, if_pos (by simpa using hl)]) 5 (v := .slice n1.d n1.m n1.e) rfl).set i (by rw [List.getElem?_set, if_pos rfl, if_pos (by simpa using hl)]) 6 (v := .bool n2.b) rfl).set i (by rw [List.getElem?_set, if_pos rfl, if_pos (by simpa using hl)]) 7 (v := .slice n2.a n2.n n2.c) rfl).set i (by rw [List.getElem?_set, if_pos rfl, if_pos (by simpa using hl)]) 8 (v := .slice n2.d n2.m n2.e) rfl).set i (by rw [List.getElem?_set, if_pos rfl, if_pos (by simpa using hl)]) 9 (v := .int .i64 n3) rfl
 simpa using g
theorem GsR.st_RRRI {w0 w : World} {bs : List Bx} {gs : List GrR} {fs : List Fx} (h : GsR w0 w bs gs) (hs : Sx w0 w bs fs) (i : Nat) (o0 : R3) (o1 : R3) (o2 : R3) (o3 : Int) (n0 : R3) (n1 : R3) (n2 : R3) (n3 : Int) {B T : Nat} (hi : bs[i]? = some (B, #[.bool o0.b, .slice o0.a o0.n o0.c, .slice o0.d o0.m o0.e, .bool o1.b, .slice o1.a o1.n o1.c, .slice o1.d o1.m o1.e, .bool o2.b, .slice o2.a o2.n o2.c, .slice o2.d o2.m o2.e, .int .i64 o3], T)) :
  GsR w0 (((((((((((w).setCell ⟨B, 0, none⟩ (.bool n0.b)).setCell ⟨B, 1, none⟩ (.slice n0.a n0.n n0.c)).setCell ⟨B, 2, none⟩ (.slice n0.d n0.m n0.e)).setCell ⟨B, 3, none⟩ (.bool n1.b)).setCell ⟨B, 4, none⟩ (.slice n1.a n1.n n1.c)).setCell ⟨B, 5, none⟩ (.slice n1.d n1.m n1.e)).setCell ⟨B, 6, none⟩ (.bool n2.b)).setCell ⟨B, 7, none⟩ (.slice n2.a n2.n n2.c)).setCell ⟨B, 8, none⟩ (.slice n2.d n2.m n2.e)).setCell ⟨B, 9, none⟩ (.int .i64 n3)) (bs.set i (B, #[.bool n0.b, .slice n0.a n0.n n0.c, .slice n0.d n0.m n0.e, .bool n1.b, .slice n1.a n1.n n1.c, .slice n1.d n1.m n1.e, .bool n2.b, .slice n2.a n2.n n2.c, .slice n2.d n2.m n2.e, .int .i64 n3], T)) gs := by
 have hl := (List.getElem?_eq_some_iff.1 hi).1
 have g := ((((((((((h).set2 (hs) i hi 0 (.bool n0.b)).set2 ((hs).set i hi 0 (v := .bool n0.b) rfl) i (by rw [List.getElem?_set, if_pos rfl, if_pos (by simpa using hl)]) 1 (.slice n0.a n0.n n0.c)).set2 (((hs).set i hi 0 (v := .bool n0.b) rfl).set i (by rw [List.getElem?_set, if_pos rfl, if_pos (by simpa using hl)]) 1 (v := .slice n0.a n0.n n0.c) rfl) i (by rw [List.getElem?_set, if_pos rfl, if_pos (by simpa using hl)]) 2 (.slice n0.d n0.m n0.e)).set2 ((((hs).set i hi 0 (v := .bool n0.b) rfl).set i (by rw [List.getElem?_set, if_pos rfl, if_pos (by simpa using hl)]) 1 (v := .slice n0.a n0.n n0.c) rfl).set i (by rw [List.getElem?_set, if_pos rfl, if_pos (by simpa using hl)]) 2 (v := .slice n0.d n0.m n0.e) rfl) i (by rw [List.getElem?_set, if_pos rfl, if_pos (by simpa using hl)]) 3 (.bool n1.b)).set2 (((((hs).set i hi 0 (v := .bool n0.b) rfl).set i (by rw [List.getElem?_set, if_pos rfl, if_pos (by simpa using hl)]) 1 (v := .slice n0.a n0.n n0.c) rfl).set i (by rw [List.getElem?_set, if_pos rfl, if_pos (by simpa using hl)]) 2 (v := .slice n0.d n0.m n0.e) rfl).set i (by rw [List.getElem?_set, if_pos rfl, if_pos (by simpa using hl)]) 3 (v := .bool n1.b) rfl) i (by rw [List.getElem?_set, if_pos rfl, if_pos (by simpa using hl)]) 4 (.slice n1.a n1.n n1.c)).set2 ((((((hs).set i hi 0 (v := .bool n0.b) rfl).set i (by rw [List.getElem?_set, if_pos rfl, if_pos (by simpa using hl)]) 1 (v := .slice n0.a n0.n n0.c) rfl).set i (by rw [List.getElem?_set, if_pos rfl, if_pos (by simpa using hl)]) 2 (v := .slice n0.d n0.m n0.e) rfl).set i (by rw [List.getElem?_set, if_pos rfl, if_pos (by simpa using hl)]) 3 (v := .bool n1.b) rfl).set i (by rw [List.getElem?_set, if_pos rfl, if_pos (by simpa using hl)]) 4 (v := .slice n1.a n1.n n1.c) rfl) i (by rw [List.getElem?_set, if_pos rfl, if_pos (by simpa using hl)]) 5 (.slice n1.d n1.m n1.e)).set2 (((((((hs).set i hi 0 (v := .bool n0.b) rfl).set i (by rw [List.getElem?_set, if_pos rfl, if_pos (by simpa using hl)]) 1 (v := .slice n0.a n0.n n0.c) rfl).set i (by rw [List.getElem?_set, if_pos rfl, if_pos (by simpa using hl)]) 2 (v := .slice n0.d n0.m n0.e) rfl).set i (by rw [List.getElem?_set, if_pos rfl, if_pos (by simpa using hl)]) 3 (v := .bool n1.b) rfl).set i (by rw [List.getElem?_set, if_pos rfl, if_pos (by simpa using hl)]) 4 (v := .slice n1.a n1.n n1.c) rfl).set i (by rw [List.getElem?_set, if_pos rfl, if_pos (by simpa using hl)]) 5 (v := .slice n1.d n1.m n1.e) rfl) i (by rw [List.getElem?_set, if_pos rfl, if_pos (by simpa using hl)]) 6 (.bool n2.b)).set2 ((((((((hs).set i hi 0 (v := .bool n0.b) rfl).set i (by rw [List.getElem?_set, if_pos rfl, if_pos (by simpa using hl)]) 1 (v := .slice n0.a n0.n n0.c) rfl).set i (by rw [List.getElem?_set, if_pos rfl, if_pos (by simpa using hl)]) 2 (v := .slice n0.d n0.m n0.e) rfl).set i (by rw [List.getElem?_set, if_pos rfl, if_pos (by simpa using hl)]) 3 (v := .bool n1.b) rfl).set i (by rw [List.getElem?_set, if_pos rfl, if_pos (by simpa using hl)]) 4 (v := .slice n1.a n1.n n1.c) rfl).set i (by rw [List.getElem?_set, if_pos rfl, if_pos (by simpa using hl)]) 5 (v := .slice n1.d n1.m n1.e) rfl).set i (by rw [List.getElem?_set, if_pos rfl, if_pos (by simpa using hl)]) 6 (v := .bool n2.b) rfl) i (by rw [List.getElem?_set, if_pos rfl, if_pos (by simpa using hl)]) 7 (.slice n2.a n2.n n2.c)).set2 (((((((((hs).set i hi 0 (v := .bool n0.b) rfl).set i (by rw [List.getElem?_set, if_pos rfl, if_pos (by simpa using hl)]) 1 (v := .slice n0.a n0.n n0.c) rfl).set i (by rw [List.getElem?_set, if_pos rfl, if_pos (by simpa using hl)]) 2 (v := .slice n0.d n0.m n0.e) rfl).set i (by rw [List.getElem?_set, if_pos rfl, if_pos (by simpa using hl)]) 3 (v := .bool n1.b) rfl).set i (by rw [List.getElem?_set, if_pos rfl, if_pos (by simpa using hl)]) 4 (v := .slice n1.a n1.n n1.c) rfl).set i (by rw [List.getElem?_set, if_pos rfl, if_pos (by simpa using hl)]) 5 (v := .slice n1.d n1.m n1.e) rfl).set i (by rw [List.getElem?_set, if_pos rfl, if_pos (by simpa using hl)]) 6 (v := .bool n2.b) rfl).set i (by rw [List.getElem?_set, if_pos rfl, if_pos (by simpa using hl)]) 7 (v := .slice n2.a n2.n n2.c) rfl) i (by rw [List.getElem?_set, if_pos rfl, if_pos (by simpa using hl)]) 8 (.slice n2.d n2.m n2.e)).set2 ((((((((((hs).set i hi 0 (v := .bool n0.b) rfl).set i (by rw [List.getElem?_set, if_pos rfl, if_pos (by simpa using hl)]) 1 (v := .slice n0.a n0.n n0.c) rfl).set i (by rw [List.getElem?_set, if_pos rfl, if_pos (by simpa using hl)]) 2 (v := .slice n0.d n0.m n0.e) rfl).set i (by rw [List.getElem?_set, if_pos rfl, if_pos (by simpa using hl)]) 3 (v := .bool n1.b) rfl).set i (by rw [List.getElem?_set, if_pos rfl, if_pos (by simpa using hl)]) 4 (v := .slice n1.a n1.n n1.c) rfl).set i (by rw [List.getElem?_set, if_pos rfl, if_pos (by simpa using hl)]) 5 (v := .slice n1.d n1.m n1.e) rfl).set i (by rw [List.getElem?_set, if_pos rfl, if_pos (by simpa using hl)]) 6 (v := .bool n2.b) rfl).set i (by rw [List.getElem?_set, if_pos rfl, if_pos (by simpa using hl)]) 7 (v := .slice n2.a n2.n n2.c) rfl).set i (by rw [List.getElem?_set, if_pos rfl, if_pos (by simpa using hl)]) 8 (v := .slice n2.d n2.m n2.e) rfl) i (by rw [List.getElem?_set, if_pos rfl, if_pos (by simpa using hl)]) 9 (.int .i64 n3)
 simpa using g
theorem inf_cure_Tool : (Tryz.prog.info? 90).map (fun i => (i.zero, i.size, i.bytes)) = some (some (.agg #[.bool false, .slice none 0 0, .slice none 0 0, .bool false, .slice none 0 0, .slice none 0 0]), 6, 112) := by kernel_rfl
set_option maxRecDepth 100000 in
set_option maxHeartbeats 30000000 in
theorem cureLags_any (lg : List (Nat × Nat)) (n : Nat) (al : List Nat) (n0 n1 n2 n3 : Nat) (vg va : Value) (w : World) (hg : Pair8 w vg lg) (hgb : ∀ i, i < lg.length → (lg.getD i (0, 0)).1 ≤ 255 ∧ (lg.getD i (0, 0)).2 ≤ 255) (ha : BytesOf w va al) (hab : ∀ i, i < al.length → al.getD i 0 ≤ 255) (hn : n ≤ 255) (h0 : n0 ≤ 255) (h1 : n1 ≤ 255) (h2 : n2 ≤ 255) (h3 : n3 ≤ 255) :
  Calls Tryz.prog 6 #[vg, .int .u8 (n : Int), va, .agg #[.int .u8 (n0 : Int), .int .u8 (n1 : Int), .int .u8 (n2 : Int), .int .u8 (n3 : Int)]] w (RetBool true w) := by
 have HS := Lib.hid (Sx.init w)
 have HGB := Lib.hid hgb
 have HAB := Lib.hid hab
 have HN := Lib.hid hn
 have HAL := Lib.hid (airQ_len al)
 obtain ⟨r, hr⟩ : ∃ z, z = n % 251 := ⟨_, rfl⟩
 have HRN := Lib.hid hr
 have HR : Hid (r ≤ 250) := by show _ ≤ _; omega
 obtain ⟨d1, hd1⟩ : ∃ z, z = 2 * n1 := ⟨_, rfl⟩
 obtain ⟨e1, he1⟩ : ∃ z, z = n0 + d1 := ⟨_, rfl⟩
 obtain ⟨q3, hq3⟩ : ∃ z, z = n3 % 4 := ⟨_, rfl⟩
 obtain ⟨m, hm⟩ : ∃ z, z = 1 + q3 := ⟨_, rfl⟩
 have hw1 : IntKind.i64.wrap (2 * (n1 : Int)) = (d1 : Int) := (IntWalk.i64_in _ (by omega)).trans (by omega)
 have hw2 : IntKind.i64.wrap ((n0 : Int) + (d1 : Int)) = (e1 : Int) := (IntWalk.i64_in _ (by omega)).trans (by omega)
 have hw3 : Int.tmod (n3 : Int) 4 = (q3 : Int) := by rw [Int.tmod_eq_emod_of_nonneg (by omega)]; omega
 have hw4 : (n3 : Int) % 4 = (q3 : Int) := by omega
 have hw5 : IntKind.u8.wrap (q3 : Int) = (q3 : Int) := IntWalk.u8_in _ (by omega)
 have hw6 : IntKind.i64.wrap (q3 : Int) = (q3 : Int) := IntWalk.i64_in _ (by omega)
 have hw7 : IntKind.i64.wrap (1 + (q3 : Int)) = (m : Int) := (IntWalk.i64_in _ (by omega)).trans (by omega)
 have hw8 : IntKind.i64.wrap (n0 : Int) = (n0 : Int) := IntWalk.i64_in _ (by omega)
 have hw9 : IntKind.i64.wrap (n1 : Int) = (n1 : Int) := IntWalk.i64_in _ (by omega)
 have hw10 : IntKind.i64.wrap (n2 : Int) = (n2 : Int) := IntWalk.i64_in _ (by omega)
 have HP0 : Hid (∀ W, Calls Tryz.prog 26 #[.int .i64 (n0 : Int), .int .i64 2] W (RetRat (ptQ n0 2) W)) := fun W => partN_any n0 2 2 rfl W (by omega) (by omega) (by omega)
 have HP1 : Hid (∀ W, Calls Tryz.prog 26 #[.int .i64 (e1 : Int), .int .i64 2] W (RetRat (ptQ (n0 + 2 * n1) 2) W)) := fun W => by rw [← hd1, ← he1]; exact partN_any e1 2 2 rfl W (by omega) (by omega) (by omega)
 have HP2 : Hid (∀ W, Calls Tryz.prog 26 #[.int .i64 (n2 : Int), .int .i64 1] W (RetRat (ptQ n2 1) W)) := fun W => partN_any n2 1 1 rfl W (by omega) (by omega) (by omega)
 have hnd : ndErr (ptQ n0 2) (ptQ (n0 + 2 * n1) 2) (ptQ n2 1) (m : Int) = 0 := by rw [hm]; exact ndErr_0 (by omega)
 have hE : al.length ≤ 8 → LagE (airQ al) (ptQ n0 2) (ptQ (n0 + 2 * n1) 2) (ptQ n2 1) (m : Int) := fun h8 => ⟨by rw [airQ_len]; exact h8, fun i => (airQ_ok hab i).1, fun i => szR_mono (airQ_ok hab i).2 (by omega), szR_mono (ptQ_sz (by omega) (by omega) (by omega)) (show 100 ≤ 1000 by omega), szR_mono (ptQ_sz (by omega) (by omega) (by omega)) (show 100 ≤ 1000 by omega), szR_mono (ptQ_sz (by omega) (by omega) (by omega)) (show 100 ≤ 1000 by omega), hnd⟩
 generalize ptQ n0 2 = le at *
 generalize ptQ (n0 + 2 * n1) 2 = mo at *
 generalize ptQ n2 1 = ri at *
 obtain ⟨ag, cg, rfl, hEG⟩ := hg
 obtain ⟨aa, ca, rfl, hEB⟩ := ha
 have HEG := Lib.hid hEG
 have HEB := Lib.hid hEB
 clear hEG hEB hgb hab hr hd1 he1 hq3 hm hnd
 by_cases hl1 : lg.length < 1
 ·
  have t1 : decide ((lg.length : Int) < 1) = true := decide_eq_true (by omega)
  have t1b : decide (lg.length < 1) = true := decide_eq_true (by omega)
  go_enter Tryz.func6, Tryz.ntmps6
  go_wp2_with fail
  generalize hW1 : (w).alloc (.cells _ _) = W1 at *
  replace HS := Lib.hid (((HS.out).alloc (B := w.heap.size) rfl (by rfl)).to hW1 (by (try simp only [nb5, nb6]); rfl))
  clear hW1
  refine (awake05_any _).mono ?_
  rintro e w2 ⟨rfl, hb2⟩
  replace HS := Lib.hid (HS.out.below hb2)
  clear hb2
  go_wp2_with fail
  go_ret
  exact ⟨by rfl, HS.out.bel⟩
 by_cases hl2 : 3 < lg.length
 ·
  have t1 : decide ((lg.length : Int) < 1) = false := decide_eq_false (by omega)
  have t1b : decide (lg.length < 1) = false := decide_eq_false (by omega)
  have t2 : decide ((lg.length : Int) > 3) = true := decide_eq_true (by omega)
  have t2b : decide (3 < lg.length) = true := decide_eq_true (by omega)
  go_enter Tryz.func6, Tryz.ntmps6
  go_wp2_with fail
  generalize hW3 : (w).alloc (.cells _ _) = W3 at *
  replace HS := Lib.hid (((HS.out).alloc (B := w.heap.size) rfl (by rfl)).to hW3 (by (try simp only [nb5, nb6]); rfl))
  clear hW3
  refine (awake05_any _).mono ?_
  rintro e w4 ⟨rfl, hb4⟩
  replace HS := Lib.hid (HS.out.below hb4)
  clear hb4
  go_wp2_with fail
  go_ret
  exact ⟨by rfl, HS.out.bel⟩
 by_cases hl3 : 8 < al.length
 ·
  have t1 : decide ((lg.length : Int) < 1) = false := decide_eq_false (by omega)
  have t1b : decide (lg.length < 1) = false := decide_eq_false (by omega)
  have t2 : decide ((lg.length : Int) > 3) = false := decide_eq_false (by omega)
  have t2b : decide (3 < lg.length) = false := decide_eq_false (by omega)
  have t3 : decide ((al.length : Int) > 8) = true := decide_eq_true (by omega)
  have t3b : decide (8 < al.length) = true := decide_eq_true (by omega)
  go_enter Tryz.func6, Tryz.ntmps6
  go_wp2_with fail
  generalize hW5 : (w).alloc (.cells _ _) = W5 at *
  replace HS := Lib.hid (((HS.out).alloc (B := w.heap.size) rfl (by rfl)).to hW5 (by (try simp only [nb5, nb6]); rfl))
  clear hW5
  refine (awake05_any _).mono ?_
  rintro e w6 ⟨rfl, hb6⟩
  replace HS := Lib.hid (HS.out.below hb6)
  clear hb6
  go_wp2_with fail
  go_ret
  exact ⟨by rfl, HS.out.bel⟩
 ·
  have HE := Lib.hid (hE (by omega))
  have HL0 : Hid (0 < lg.length) := by show _ < _; omega
  have HL3 : Hid (lg.length ≤ 3) := by show _ ≤ _; omega
  have HL8 : Hid (al.length ≤ 8) := by show _ ≤ _; omega
  clear hE
  have t1 : decide ((lg.length : Int) < 1) = false := decide_eq_false (by omega)
  have t1b : decide (lg.length < 1) = false := decide_eq_false (by omega)
  have t2 : decide ((lg.length : Int) > 3) = false := decide_eq_false (by omega)
  have t2b : decide (3 < lg.length) = false := decide_eq_false (by omega)
  have t3 : decide ((al.length : Int) > 8) = false := decide_eq_false (by omega)
  have t3b : decide (8 < al.length) = false := decide_eq_false (by omega)
  have hszE : ∀ (ls : List (List Rat)), (∀ i, i < ls.length → ∃ q, q < lg.length ∧ ls.getD i [] = [lgA lg q, lgB lg q]) → ∀ i j, szR ((ls.getD i []).getD j 0) 1000 := fun ls h i j => by
   by_cases hi : i < ls.length
   ·
    obtain ⟨q, hq, e⟩ := h i hi
    rw [e]
    match j with
    | 0 => exact szR_mono (lgA_sz lg q) (by omega)
    | 1 => exact lgB_sz lg q (HGB.out q hq).2
    | j + 2 => exact szR_zero _ (by omega)
   ·
    have e : ls.getD i [] = [] := by
     rw [List.getD_eq_getElem?_getD, List.getElem?_eq_none (by omega)]
     rfl
    rw [e]; exact szR_zero _ (by omega)
  have hlt1 : ∀ i, i < (lgT (lgA lg) (lgB lg) lg.length).length → ∃ q, q < lg.length ∧ (lgT (lgA lg) (lgB lg) lg.length).getD i [] = [lgA lg q, lgB lg q] := fun i hi => by rw [lgT_len] at hi; exact ⟨i, hi, lgT_at _ _ hi⟩
  have hlt2 : ∀ i, i < (lgR (lgA lg) (lgB lg) lg.length).length → ∃ q, q < lg.length ∧ (lgR (lgA lg) (lgB lg) lg.length).getD i [] = [lgA lg q, lgB lg q] := fun i hi => by rw [lgR_len] at hi; exact ⟨_, by omega, lgR_at _ _ hi⟩
  have hlt3 : ∀ i, i < [[lgA lg 0, lgB lg 0]].length → ∃ q, q < lg.length ∧ [[lgA lg 0, lgB lg 0]].getD i [] = [lgA lg q, lgB lg q] := fun i hi => by
   have hi0 : i = 0 := by simpa using hi
   subst hi0
   exact ⟨0, by omega, rfl⟩
  have hadm : ∀ (ls : List (List Rat)), (∀ i, i < ls.length → ∃ q, q < lg.length ∧ ls.getD i [] = [lgA lg q, lgB lg q]) → ¬ ls.length < 1 → ¬ 64 < ls.length → ∀ (W : World) (vl vS va : Value) (y1 y2 y3 : R3), RecsOf true 2 W vl ls → IsRat W vS 0 → FrcsOf IsRat W va (airQ al) → IsRat W y1.val le → IsRat W y2.val mo → IsRat W y3.val ri → Calls Tryz.prog 36 #[vl, vS, va, .agg #[.bool y1.b, .slice y1.a y1.n y1.c, .slice y1.d y1.m y1.e, .bool y2.b, .slice y2.a y2.n y2.c, .slice y2.d y2.m y2.e, .bool y3.b, .slice y3.a y3.n y3.c, .slice y3.d y3.m y3.e, .int .i64 (m : Int)], .int .i64 12] W (RetII (firstUp (adBad 0 le mo ri (m : Int) 12 (airQ al) ls) ls.length) 0 W) := fun ls h n1 n2 W vl vS va y1 y2 y3 g1 g2 g3 g4 g5 g6 =>
   admit0 HE.out n1 n2 (fun i hi => by obtain ⟨q, _, e⟩ := h i hi; rw [e]; obtain ⟨p0, p1, p2, p3, _⟩ := lg_ok lg HR.out q; exact ⟨⟨p0, Rat.le_trans p1 p2⟩, p3⟩) (hszE ls h) y1 y2 y3 vl vS va W g1 g2 g3 g4 g5 g6
  have HA1 := Lib.hid (hadm (lgT (lgA lg) (lgB lg) lg.length) hlt1 (by rw [lgT_len]; omega) (by rw [lgT_len]; omega))
  have HA2 := Lib.hid (hadm (lgR (lgA lg) (lgB lg) lg.length) hlt2 (by rw [lgR_len]; omega) (by rw [lgR_len]; omega))
  have HA3 := Lib.hid (hadm [[lgA lg 0, lgB lg 0]] hlt3 (by simp) (by simp))
  have HI1 := Lib.hid (ad_tools (le := le) (mo := mo) (ri := ri) (m := (m : Int)) (aq := airQ al) (A := lgA lg) (B := lgB lg) (n := lg.length))
  have HI2 := Lib.hid (ad_turned (le := le) (mo := mo) (ri := ri) (m := (m : Int)) (aq := airQ al) (A := lgA lg) (B := lgB lg) (n := lg.length))
  have HI3 : Hid (upAll (lgOk le mo ri (m : Int) (airQ al) (lgA lg) (lgB lg)) lg.length = true → firstUp (adBad 0 le mo ri (m : Int) 12 (airQ al) [[lgA lg 0, lgB lg 0]]) [[lgA lg 0, lgB lg 0]].length = -1) := fun h => ad_fewer (n := lg.length) (by have := HL0.out; omega) h
  generalize firstUp (adBad 0 le mo ri (m : Int) 12 (airQ al) (lgT (lgA lg) (lgB lg) lg.length)) (lgT (lgA lg) (lgB lg) lg.length).length = i1 at *
  generalize firstUp (adBad 0 le mo ri (m : Int) 12 (airQ al) (lgR (lgA lg) (lgB lg) lg.length)) (lgR (lgA lg) (lgB lg) lg.length).length = i2 at *
  generalize firstUp (adBad 0 le mo ri (m : Int) 12 (airQ al) [[lgA lg 0, lgB lg 0]]) [[lgA lg 0, lgB lg 0]].length = i3 at *
  clear hszE hlt1 hlt2 hlt3 hadm
  go_enter Tryz.func6, Tryz.ntmps6
  go_wp2_with fail
  generalize hW7 : (w).alloc (.cells _ _) = W7 at *
  replace HS := Lib.hid (((HS.out).alloc (B := w.heap.size) rfl (by rfl)).to hW7 (by (try simp only [nb5, nb6]); rfl))
  clear hW7
  have HG := Lib.hid ((GsR.nil w W7 [(w.heap.size, #[.int .u8 (n0 : Int), .int .u8 (n1 : Int), .int .u8 (n2 : Int), .int .u8 (n3 : Int)], 79)]).add 42 true 1)
  go_wp2_with fail
  go_loopw [54, 9] (fun u54 u9 wr => ∃ (i : Nat) (rv : Value) (rx : List Value), i ≤ al.length ∧ u54 = .int .i64 i ∧ rv = u9 ∧ Hid (Sx w wr [(w.heap.size, #[.int .u8 (n0 : Int), .int .u8 (n1 : Int), .int .u8 (n2 : Int), .int .u8 (n3 : Int)], 79)] []) ∧ Hid (GsR w wr [(w.heap.size, #[.int .u8 (n0 : Int), .int .u8 (n1 : Int), .int .u8 (n2 : Int), .int .u8 (n3 : Int)], 79)] [⟨42, true, 1, rv, rx, (uRow (airQ al) i)⟩]))
   (fun u _ _ => al.length - (intOf u).toNat)
  case atStart => exact ⟨0, .slice none 0 0, [], Nat.zero_le _, rfl, rfl, Lib.hid (HS.out.bare), HG⟩
  case round =>
   obtain ⟨wr8, hwr8⟩ : ∃ z, z = wr := ⟨_, rfl⟩
   subst hwr8
   clear HS HG
   obtain ⟨i, rv, rx, hi, rfl, rfl, HS, HG⟩ := hrel
   by_cases hlt : i < al.length
   ·
    have hlt' : (i : Int) < al.length := by omega
    have hge' : (0 : Int) ≤ i := by omega
    have HLT := Lib.hid hlt
    have h8 : al.length ≤ 8 := HL8.out
    obtain ⟨bb, ob, hae, hbb, hEB⟩ := HEB.out (by omega)
    subst hae
    have HBB := Lib.hid hbb
    have hc0 := hEB i hlt
    have hcb := HAB.out i hlt
    have HAQ := Lib.hid (airQ_at hlt)
    have hln := uRow_len (airQ al) i
    have HUS := Lib.hid (uRow_succ (airQ al) i)
    generalize al.getD i 0 = c at *
    have HC0 := Lib.hid hc0
    have HPc : Hid (∀ W, Calls Tryz.prog 26 #[.int .i64 (c : Int), .int .i64 1] W (RetRat ((airQ al).getD i 0) W)) := fun W => by rw [HAQ.out]; exact partN_any c 1 1 rfl W (by omega) (by omega) (by omega)
    generalize (airQ al).getD i 0 = a at *
    have hwc : IntKind.i64.wrap (c : Int) = (c : Int) := IntWalk.i64_in _ (by omega)
    clear hbb hEB hc0 hlt
    have Ec0 := (HS.out.bel.cell (p := ⟨bb, ob + i, none⟩) HBB.out).trans HC0.out
    go_upto_region 7 with fail
    clear Ec0
    go_wp2_with fail
    refine (HPc.out _).mono ?_
    rintro e w9 ⟨v9, rfl, hv9, hb9⟩
    obtain ⟨z9, rfl⟩ := hv9.open3
    replace HS := Lib.hid (HS.out.below hb9)
    replace HG := Lib.hid (HG.out.below hb9)
    clear hb9
    replace HS := Lib.hid (HS.out.addP hv9)
    clear hv9
    have HSA := Lib.hid ((HS.out).alloc (B := w9.heap.size) (T := 42) (cs := #[.bool z9.b, .slice z9.a z9.n z9.c, .slice z9.d z9.m z9.e]) rfl (by rfl))
    have HGA := Lib.hid ((HG.out).alloc (B := w9.heap.size) (T := 42) (cs := #[.bool z9.b, .slice z9.a z9.n z9.c, .slice z9.d z9.m z9.e]) rfl)
    obtain ⟨ii10, hi10, hz10, hs10, hy10⟩ := info_parts inf_ratio_Ratio
    have hzd10 : ∀ u ∈ (Value.agg #[.bool false, .slice none 0 0, .slice none 0 0]).cells.toList, noDig u := by
     intro u hu
     have hu : u ∈ [.bool false, .slice none 0 0, .slice none 0 0] := hu
     simp only [List.mem_cons, List.not_mem_nil, or_false] at hu
     rcases hu with rfl | rfl | rfl
     all_goals first | exact noDig_bool _ | exact noDig_slice _ _ _
    go_wp2_with (at_builtin; refine wpList_append_lrow _ rfl (.tmp 58) (.tmp 62) 55 rfl w.heap.size 42 ii10 _ 3 56 Tryz.underlying55 hi10 hz10 hs10 hy10 rfl (by decide) hzd10 _ _ _ rfl (HGA.out.row 0 _ rfl) ⟨w9.heap.size, 0, none⟩ 1 1 [.bool z9.b, .slice z9.a z9.n z9.c, .slice z9.d z9.m z9.e] rfl rfl (cells_blk (HSA.out.at 0 _ _ _ rfl)) (by simp [Value.oneCell']) (by intro u hu; simp only [List.mem_cons, List.not_mem_nil, or_false] at hu; rcases hu with rfl | rfl | rfl; all_goals first | exact noDig_bool _ | exact noDig_slice _ _ _) (by omega) (by dsimp only; unfold maxLen; omega) (by dsimp only; omega) HSA.out.bel.size ?_)
    intro g10 cap10 w10 hL10 hgr10 hat10
    have hL10' : LRow w10 w.heap.size 42 3 (.slice (some ⟨g10, 0, none⟩) (((uRow (airQ al) i)).length + 1) cap10) (((uRow (airQ al) i)).length + 1) (rx ++ [.bool z9.b, .slice z9.a z9.n z9.c, .slice z9.d z9.m z9.e]) := by first | exact hL10 | (rw [hln]; exact hL10)
    clear hL10
    have hL10 := hL10'
    clear hL10'
    obtain ⟨hs10', hg10'⟩ := Sx.append HSA.out HGA.out 0 rfl [z9] [a] rfl (fun j x hx => by match j, hx with
      | 0, hx => (simp at hx; subst hx; exact (HSA.out.p 0 _ _ rfl))
      | j + 1, hx => simp at hx) hL10 hgr10 (by intro c hc; simp [Value.ownBlock] at hc; subst hc; first | exact hat10 | simpa using hat10)
    clear HSA HGA
    replace HS : Hid (Sx w w10 [(w9.heap.size, z9.arr, 42), (w.heap.size, #[.int .u8 (n0 : Int), .int .u8 (n1 : Int), .int .u8 (n2 : Int), .int .u8 (n3 : Int)], 79)] [(true, z9.val, a)]) := hs10'
    replace HG : Hid (GsR w w10 [(w9.heap.size, z9.arr, 42), (w.heap.size, #[.int .u8 (n0 : Int), .int .u8 (n1 : Int), .int .u8 (n2 : Int), .int .u8 (n3 : Int)], 79)] [⟨42, true, 1, (.slice (some ⟨g10, 0, none⟩) ((uRow (airQ al) i).length + 1) cap10), (rx ++ cellsR [z9]), ((uRow (airQ al) i) ++ [[a]])⟩]) := hg10'
    clear hs10' hg10' hL10 hgr10 hat10 hzd10 hi10 hz10 hs10 hy10
    go_wp2_with fail
    exact ⟨⟨i + 1, (.slice (some ⟨g10, 0, none⟩) ((uRow (airQ al) i).length + 1) cap10), (rx ++ cellsR [z9]), by have := HLT.out; omega, by go_num, by first | rfl | rw [hln], Lib.hid ((HS.out).erase 0), Lib.hid (by rw [HUS.out]; exact HG.out.mono (fun b hb => ⟨b, by simp only [List.mem_cons] at hb ⊢; first | exact hb | (repeat (first | exact hb | right)), rfl⟩))⟩, meas_up HLT.out⟩
   ·
    obtain rfl : i = al.length := by omega
    obtain ⟨ua, uc', hu, _, _⟩ := (HG.out.row 0 _ rfl).capOk
    dsimp only at hu
    rw [uRow_len] at hu
    subst hu
    go_wp2_with fail
    refine wp_region_held_drew (S := (fun w' => Sx w w' [(w.heap.size, #[.int .u8 (n0 : Int), .int .u8 (n1 : Int), .int .u8 (n2 : Int), .int .u8 (n3 : Int)], 79)] [])) (by kernel_rfl) ((HS.out.drew).bare) (fun hh => ?_)
    replace HS := Lib.hid HS.out.drew
    replace HG := Lib.hid (HG.out.below (Below.refl _ _).drew)
    have HSW := Lib.hid HS.out.bel.size
    refine tkB (i := 0) (v := ?vk12) rfl ?hk12 ?rk12
    case hk12 => intro u hSu; go_simp <;> with_reducible rfl
    try simp only [nbs, Act.put]
    refine tkB (i := 1) (v := ?vk13) rfl ?hk13 ?rk13
    case hk13 => intro u hSu; (try dsimp only at hSu); have qb0e := (hSu.at 0 _ _ _ rfl); have qb0c0 := blk_cell qb0e 0 (.int .u8 (n0 : Int)) rfl; have qb0c1 := blk_cell qb0e 1 (.int .u8 (n1 : Int)) rfl; have qb0c2 := blk_cell qb0e 2 (.int .u8 (n2 : Int)) rfl; have qb0c3 := blk_cell qb0e 3 (.int .u8 (n3 : Int)) rfl; clear qb0e; clear hSu; go_simp <;> with_reducible rfl
    try simp only [nbs, Act.put]
    refine tkB (i := 2) (v := ?vk14) rfl ?hk14 ?rk14
    case hk14 => intro u hSu; go_simp <;> with_reducible rfl
    try simp only [nbs, Act.put]
    refine tkB (i := 4) (v := ?vk15) rfl ?hk15 ?rk15
    case hk15 => intro u hSu; go_simp <;> with_reducible rfl
    try simp only [nbs, Act.put]
    refine tkB (i := 5) (v := ?vk16) rfl ?hk16 ?rk16
    case hk16 => intro u hSu; (try dsimp only at hSu); have qb0e := (hSu.at 0 _ _ _ rfl); have qb0c0 := blk_cell qb0e 0 (.int .u8 (n0 : Int)) rfl; have qb0c1 := blk_cell qb0e 1 (.int .u8 (n1 : Int)) rfl; have qb0c2 := blk_cell qb0e 2 (.int .u8 (n2 : Int)) rfl; have qb0c3 := blk_cell qb0e 3 (.int .u8 (n3 : Int)) rfl; clear qb0e; clear hSu; go_simp <;> with_reducible rfl
    try simp only [nbs, Act.put]
    refine tkB (i := 6) (v := ?vk17) rfl ?hk17 ?rk17
    case hk17 => intro u hSu; go_simp <;> with_reducible rfl
    try simp only [nbs, Act.put]
    refine tkB (i := 7) (v := ?vk18) rfl ?hk18 ?rk18
    case hk18 => intro u hSu; go_simp <;> with_reducible rfl
    try simp only [nbs, Act.put]
    refine tkB (i := 8) (v := ?vk19) rfl ?hk19 ?rk19
    case hk19 => intro u hSu; (try dsimp only at hSu); have qb0e := (hSu.at 0 _ _ _ rfl); have qb0c0 := blk_cell qb0e 0 (.int .u8 (n0 : Int)) rfl; have qb0c1 := blk_cell qb0e 1 (.int .u8 (n1 : Int)) rfl; have qb0c2 := blk_cell qb0e 2 (.int .u8 (n2 : Int)) rfl; have qb0c3 := blk_cell qb0e 3 (.int .u8 (n3 : Int)) rfl; clear qb0e; clear hSu; go_simp <;> with_reducible rfl
    try simp only [nbs, Act.put]
    refine tkB (i := 9) (v := ?vk20) rfl ?hk20 ?rk20
    case hk20 => intro u hSu; go_simp <;> with_reducible rfl
    try simp only [nbs, Act.put]
    refine tkB (i := 10) (v := ?vk21) rfl ?hk21 ?rk21
    case hk21 => intro u hSu; go_simp <;> with_reducible rfl
    try simp only [nbs, Act.put]
    refine tkB (i := 11) (v := ?vk22) rfl ?hk22 ?rk22
    case hk22 => intro u hSu; go_simp <;> with_reducible rfl
    try simp only [nbs, Act.put]
    refine tkB (i := 13) (v := ?vk23) rfl ?hk23 ?rk23
    case hk23 => intro u hSu; go_simp <;> with_reducible rfl
    try simp only [nbs, Act.put]
    refine tkB (i := 14) (v := ?vk24) rfl ?hk24 ?rk24
    case hk24 => intro u hSu; (try dsimp only at hSu); have qb0e := (hSu.at 0 _ _ _ rfl); have qb0c0 := blk_cell qb0e 0 (.int .u8 (n0 : Int)) rfl; have qb0c1 := blk_cell qb0e 1 (.int .u8 (n1 : Int)) rfl; have qb0c2 := blk_cell qb0e 2 (.int .u8 (n2 : Int)) rfl; have qb0c3 := blk_cell qb0e 3 (.int .u8 (n3 : Int)) rfl; clear qb0e; clear hSu; go_simp <;> with_reducible rfl
    try simp only [nbs, Act.put]
    refine tkB (i := 15) (v := ?vk25) rfl ?hk25 ?rk25
    case hk25 => intro u hSu; go_simp <;> with_reducible rfl
    try simp only [nbs, Act.put]
    refine tkB (i := 17) (v := ?vk26) rfl ?hk26 ?rk26
    case hk26 => intro u hSu; go_simp <;> with_reducible rfl
    try simp only [nbs, Act.put]
    refine tkB (i := 18) (v := ?vk27) rfl ?hk27 ?rk27
    case hk27 => intro u hSu; (try dsimp only at hSu); have qb0e := (hSu.at 0 _ _ _ rfl); have qb0c0 := blk_cell qb0e 0 (.int .u8 (n0 : Int)) rfl; have qb0c1 := blk_cell qb0e 1 (.int .u8 (n1 : Int)) rfl; have qb0c2 := blk_cell qb0e 2 (.int .u8 (n2 : Int)) rfl; have qb0c3 := blk_cell qb0e 3 (.int .u8 (n3 : Int)) rfl; clear qb0e; clear hSu; go_simp <;> with_reducible rfl
    try simp only [nbs, Act.put]
    refine tkB (i := 19) (v := ?vk28) rfl ?hk28 ?rk28
    case hk28 => intro u hSu; go_simp <;> with_reducible rfl
    try simp only [nbs, Act.put]
    refine tkB (i := 20) (v := ?vk29) rfl ?hk29 ?rk29
    case hk29 => intro u hSu; go_simp <;> with_reducible rfl
    try simp only [nbs, Act.put]
    refine tkB (i := 21) (v := ?vk30) rfl ?hk30 ?rk30
    case hk30 => intro u hSu; go_simp <;> with_reducible rfl
    try simp only [nbs, Act.put]
    refine wpAnyH_modular [3, 12, 16, 22, 23] [3, 12, 16, 23] [22] [68, 77, 81, 87, 12] #[true, true, true, true, true, true, true, true, true, true, true, true, true, true, true, true, true, true, true, true, true, true, true, true, false] 1 [(3, 68), (12, 77), (16, 81), (22, 87), (23, 12)] [(3, []), (12, [3]), (16, [12]), (22, [3, 12, 16]), (23, [])] [23] [(3, fun v w => ∃ z31 : R3, v = z31.val ∧ Fr true w z31.val le), (12, fun v w => ∃ z32 : R3, v = z32.val ∧ Fr true w z32.val mo), (16, fun v w => ∃ z33 : R3, v = z33.val ∧ Fr true w z33.val ri), (22, fun v w => ∃ z31q22 z32q22 z33q22 : R3, v = .agg #[.bool z31q22.b, .slice z31q22.a z31q22.n z31q22.c, .slice z31q22.d z31q22.m z31q22.e, .bool z32q22.b, .slice z32q22.a z32q22.n z32q22.c, .slice z32q22.d z32q22.m z32q22.e, .bool z33q22.b, .slice z33q22.a z33q22.n z33q22.c, .slice z33q22.d z33q22.m z33q22.e, .int .i64 (m : Int)] ∧ Fr true w z31q22.val le ∧ Fr true w z32q22.val mo ∧ Fr true w z33q22.val ri), (23, fun v w => ∃ Br11_23 : Nat, v = .pointer (some ⟨Br11_23, 0, none⟩) ∧ wr8.drew.heap.size ≤ Br11_23 ∧ w.heap[Br11_23]? = some (.cells #[.bool false, .slice none 0 0, .slice none 0 0, .bool false, .slice none 0 0, .slice none 0 0, .bool false, .slice none 0 0, .slice none 0 0, .int .i64 0] 82 (0, 0)))]
     rfl (by kernel_rfl) (by decide) rfl ⟨(fun v w w' hb ⟨z0, e, h0⟩ => ⟨z0, e, Fr.below h0 hb⟩), ⟨(fun v w w' hb ⟨z0, e, h0⟩ => ⟨z0, e, Fr.below h0 hb⟩), ⟨(fun v w w' hb ⟨z0, e, h0⟩ => ⟨z0, e, Fr.below h0 hb⟩), ⟨(fun v w w' hb ⟨z0, z1, z2, e, h0, h1, h2⟩ => ⟨z0, z1, z2, e, Fr.below h0 hb, Fr.below h1 hb, Fr.below h2 hb⟩), ⟨(fun v w w' hb ⟨B, e, g, k⟩ => ⟨B, e, g, blk_keep k hb (blk_lt k)⟩), trivial⟩⟩⟩⟩⟩ ⟨fun v w ⟨B, e, g, k⟩ => ⟨B, e, blk_lt k⟩, trivial⟩ (fun w' hb => Sx.below hh hb) ⟨?_, ?_, ?_, ?_, trivial⟩ ⟨?_, trivial⟩ (by decide) ?_
    ·
     refine StepM.of rfl (fun f w' hb hp K hK => ?_)
     have HSB := HS
     replace HS := Lib.hid (HS.out.below hb)
     simp only [fillA, fillT, List.foldl_cons, List.foldl_nil, Act.put, nb4, nb5, nb6]
     go_simp
     go_wp2_with (go_at_call 26; (with_reducible refine (HP0.out _).mono ?_); rintro e w31 ⟨v31, rfl, hv31, hb31⟩; obtain ⟨z31, rfl⟩ := hv31.open3)
     exact hK.out _ _ (z31.val) (by simp only [fillA, fillT, List.foldl_cons, List.foldl_nil, Act.put, nb4, nb5, nb6, nb1, nb2, nb3]) ⟨z31, rfl, hv31⟩ (fun h => absurd h (by decide)) hb31
    ·
     refine StepM.of rfl (fun f w' hb hp K hK => ?_)
     have HSB := HS
     replace HS := Lib.hid (HS.out.below hb)
     simp only [fillA, fillT, List.foldl_cons, List.foldl_nil, Act.put, nb4, nb5, nb6]
     go_simp
     go_wp2_with (go_at_call 26; (with_reducible refine (HP1.out _).mono ?_); rintro e w32 ⟨v32, rfl, hv32, hb32⟩; obtain ⟨z32, rfl⟩ := hv32.open3)
     exact hK.out _ _ (z32.val) (by simp only [fillA, fillT, List.foldl_cons, List.foldl_nil, Act.put, nb4, nb5, nb6, nb1, nb2, nb3]) ⟨z32, rfl, hv32⟩ (fun h => absurd h (by decide)) hb32
    ·
     refine StepM.of rfl (fun f w' hb hp K hK => ?_)
     have HSB := HS
     replace HS := Lib.hid (HS.out.below hb)
     simp only [fillA, fillT, List.foldl_cons, List.foldl_nil, Act.put, nb4, nb5, nb6]
     go_simp
     go_wp2_with (go_at_call 26; (with_reducible refine (HP2.out _).mono ?_); rintro e w33 ⟨v33, rfl, hv33, hb33⟩; obtain ⟨z33, rfl⟩ := hv33.open3)
     exact hK.out _ _ (z33.val) (by simp only [fillA, fillT, List.foldl_cons, List.foldl_nil, Act.put, nb4, nb5, nb6, nb1, nb2, nb3]) ⟨z33, rfl, hv33⟩ (fun h => absurd h (by decide)) hb33
    ·
     refine StepM.of rfl (fun f w' hb hp K hK => ?_)
     have HSB := HS
     replace HS := Lib.hid (HS.out.below hb)
     simp only [fillA, fillT, List.foldl_cons, List.foldl_nil, Act.put, nb4, nb5, nb6]
     go_simp
     exact hK.out _ _ (.pointer (some ⟨w'.heap.size, 0, none⟩)) (by simp only [fillA, fillT, List.foldl_cons, List.foldl_nil, Act.put, nb4, nb5, nb6, nb1, nb2, nb3]) ⟨_, rfl, hb.size, blk_new _ _ _⟩ (fun _ => rfl) (below1 w' _)
    ·
     refine EagerM.of rfl (fun f w' hb hp => ?_)
     obtain ⟨z31, e3, h3_0⟩ : ∃ z31 : R3, f 68 = z31.val ∧ Fr true w' z31.val le := hp 3 (by decide)
     obtain ⟨z32, e12, h12_0⟩ : ∃ z32 : R3, f 77 = z32.val ∧ Fr true w' z32.val mo := hp 12 (by decide)
     obtain ⟨z33, e16, h16_0⟩ : ∃ z33 : R3, f 81 = z33.val ∧ Fr true w' z33.val ri := hp 16 (by decide)
     refine ⟨.agg #[.bool z31.b, .slice z31.a z31.n z31.c, .slice z31.d z31.m z31.e, .bool z32.b, .slice z32.a z32.n z32.c, .slice z32.d z32.m z32.e, .bool z33.b, .slice z33.a z33.n z33.c, .slice z33.d z33.m z33.e, .int .i64 (m : Int)], ⟨z31, z32, z33, rfl, h3_0, h12_0, h16_0⟩, by first | rfl | kernel_rfl, fun u => ?_⟩
     simp only [fillA, fillT, List.foldl_cons, List.foldl_nil, Act.put, nb4, nb5, nb6, e3, e12, e16]
     go_simp <;> with_reducible rfl
    ·
     intro f wr11 hb hp hd
     obtain ⟨z31, e3, h3_0⟩ : ∃ z31 : R3, f 68 = z31.val ∧ Fr true wr11 z31.val le := hp 3 (by decide)
     obtain ⟨z32, e12, h12_0⟩ : ∃ z32 : R3, f 77 = z32.val ∧ Fr true wr11 z32.val mo := hp 12 (by decide)
     obtain ⟨z33, e16, h16_0⟩ : ∃ z33 : R3, f 81 = z33.val ∧ Fr true wr11 z33.val ri := hp 16 (by decide)
     obtain ⟨z31q22, z32q22, z33q22, e22, h22_0, h22_1, h22_2⟩ : ∃ z31q22 z32q22 z33q22 : R3, f 87 = .agg #[.bool z31q22.b, .slice z31q22.a z31q22.n z31q22.c, .slice z31q22.d z31q22.m z31q22.e, .bool z32q22.b, .slice z32q22.a z32q22.n z32q22.c, .slice z32q22.d z32q22.m z32q22.e, .bool z33q22.b, .slice z33q22.a z33q22.n z33q22.c, .slice z33q22.d z33q22.m z33q22.e, .int .i64 (m : Int)] ∧ Fr true wr11 z31q22.val le ∧ Fr true wr11 z32q22.val mo ∧ Fr true wr11 z33q22.val ri := hp 22 (by decide)
     obtain ⟨Br11_23, e23, g23, k23⟩ : ∃ Br11_23 : Nat, f 12 = .pointer (some ⟨Br11_23, 0, none⟩) ∧ wr8.drew.heap.size ≤ Br11_23 ∧ wr11.heap[Br11_23]? = some (.cells #[.bool false, .slice none 0 0, .slice none 0 0, .bool false, .slice none 0 0, .slice none 0 0, .bool false, .slice none 0 0, .slice none 0 0, .int .i64 0] 82 (0, 0)) := hp 23 (by decide)
     replace hh := Sx.below hh hb
     have hlt := HS.out.lt
     replace HS := Lib.hid (HS.out.below hb)
     have hltg := HG.out.row
     replace HG := Lib.hid (HG.out.below hb)
     replace HS := Lib.hid (HS.out.addP h3_0)
     replace HS := Lib.hid (HS.out.addP h12_0)
     replace HS := Lib.hid (HS.out.addP h16_0)
     replace HS := Lib.hid (HS.out.addP h22_0)
     replace HS := Lib.hid (HS.out.addP h22_1)
     replace HS := Lib.hid (HS.out.addP h22_2)
     have hge23 : w.heap.size ≤ Br11_23 := Nat.le_trans HSW.out g23
     have hne23 : ∀ b, b ∈ ([(w.heap.size, #[.int .u8 (n0 : Int), .int .u8 (n1 : Int), .int .u8 (n2 : Int), .int .u8 (n3 : Int)], 79)] : List Bx) → b.1 ≠ Br11_23 := by
      intro b hb
      simp only [List.mem_cons, List.not_mem_nil, or_false] at hb
      rcases hb with rfl
      ·
       have := hlt _ (List.mem_iff_getElem?.2 ⟨0, rfl⟩); dsimp only at this ⊢; omega
     replace HS := Lib.hid (HS.out.addBox k23 hge23 (by rfl) hne23)
     replace HG := Lib.hid (HG.out.box (B := Br11_23) (T := 82) (cs := #[.bool false, .slice none 0 0, .slice none 0 0, .bool false, .slice none 0 0, .slice none 0 0, .bool false, .slice none 0 0, .slice none 0 0, .int .i64 0]) (fun g hg hc => by obtain ⟨n, hn⟩ := List.mem_iff_getElem?.1 hg; have := ((hltg n g hn).lt hc).1; have := g23; omega))
     simp only [fillA, fillT, List.foldl_cons, List.foldl_nil, Act.put, nb4, nb5, nb6, e3, e12, e16, e22, e23]
     clear hp hd hb hlt e3 e12 e16 e22 e23 hltg
     refine rdA (i := 24) rfl (fun K hK => ?_)
     refine step_store_mid (W' := ((((((((((wr11).setCell ⟨Br11_23, 0, none⟩ (.bool z31q22.b)).setCell ⟨Br11_23, 1, none⟩ (.slice z31q22.a z31q22.n z31q22.c)).setCell ⟨Br11_23, 2, none⟩ (.slice z31q22.d z31q22.m z31q22.e)).setCell ⟨Br11_23, 3, none⟩ (.bool z32q22.b)).setCell ⟨Br11_23, 4, none⟩ (.slice z32q22.a z32q22.n z32q22.c)).setCell ⟨Br11_23, 5, none⟩ (.slice z32q22.d z32q22.m z32q22.e)).setCell ⟨Br11_23, 6, none⟩ (.bool z33q22.b)).setCell ⟨Br11_23, 7, none⟩ (.slice z33q22.a z33q22.n z33q22.c)).setCell ⟨Br11_23, 8, none⟩ (.slice z33q22.d z33q22.m z33q22.e)).setCell ⟨Br11_23, 9, none⟩ (.int .i64 (m : Int))) rfl 82 (.tmp 12) (.tmp 87) rfl Br11_23 0 #[.bool z31q22.b, .slice z31q22.a z31q22.n z31q22.c, .slice z31q22.d z31q22.m z31q22.e, .bool z32q22.b, .slice z32q22.a z32q22.n z32q22.c, .slice z32q22.d z32q22.m z32q22.e, .bool z33q22.b, .slice z33q22.a z33q22.n z33q22.c, .slice z33q22.d z33q22.m z33q22.e, .int .i64 (m : Int)] rfl rfl (there_blk (HS.out.at 0 _ _ _ rfl) (by simp)) (by kernel_rfl) (by simp [Value.oneCell']) rfl ?_
     refine hK.out _ _ ((((HS.out).st_RRRI 0 r30 r30 r30 0 z31q22 z32q22 z33q22 (m : Int) rfl)).erase 0) (fun hh => ?_)
     clear hK K 
     try simp only [nbs, Act.put]
     generalize hW34 : ((((((((((wr11).setCell _ _).setCell _ _).setCell _ _).setCell _ _).setCell _ _).setCell _ _).setCell _ _).setCell _ _).setCell _ _).setCell _ _ = W34 at *
     replace HG := Lib.hid (((HG.out).st_RRRI (HS.out) 0 r30 r30 r30 0 z31q22 z32q22 z33q22 (m : Int) rfl).to hW34 (by (try simp only [nb5, nb6]); rfl))
     replace HS := Lib.hid (((HS.out).st_RRRI 0 r30 r30 r30 0 z31q22 z32q22 z33q22 (m : Int) rfl).to hW34 (by (try simp only [nb5, nb6]); rfl))
     clear hW34
     refine wpAnyH_done (by kernel_rfl) ?_ _
     go_wp2_with fail
     replace HG := Lib.hid ((HG.out.add 90 true 2).add 90 true 2)
     go_wp2_with fail
     go_loopw [90, 15, 13, 14] (fun u90 u15 u13 u14 wr => ∃ (i : Nat) (tv : Value) (tx : List Value) (sv : Value) (sx : List Value), i ≤ lg.length ∧ u90 = .int .i64 i ∧ u15 = .bool (upAll (lgOk le mo ri (m : Int) (airQ al) (lgA lg) (lgB lg)) i) ∧ tv = u13 ∧ sv = u14 ∧ Hid (Sx w wr [(Br11_23, #[.bool z31q22.b, .slice z31q22.a z31q22.n z31q22.c, .slice z31q22.d z31q22.m z31q22.e, .bool z32q22.b, .slice z32q22.a z32q22.n z32q22.c, .slice z32q22.d z32q22.m z32q22.e, .bool z33q22.b, .slice z33q22.a z33q22.n z33q22.c, .slice z33q22.d z33q22.m z33q22.e, .int .i64 (m : Int)], 82), (w.heap.size, #[.int .u8 (n0 : Int), .int .u8 (n1 : Int), .int .u8 (n2 : Int), .int .u8 (n3 : Int)], 79)] [(true, z33q22.val, ri), (true, z32q22.val, mo), (true, z31q22.val, le)]) ∧ Hid (GsR w wr [(Br11_23, #[.bool z31q22.b, .slice z31q22.a z31q22.n z31q22.c, .slice z31q22.d z31q22.m z31q22.e, .bool z32q22.b, .slice z32q22.a z32q22.n z32q22.c, .slice z32q22.d z32q22.m z32q22.e, .bool z33q22.b, .slice z33q22.a z33q22.n z33q22.c, .slice z33q22.d z33q22.m z33q22.e, .int .i64 (m : Int)], 82), (w.heap.size, #[.int .u8 (n0 : Int), .int .u8 (n1 : Int), .int .u8 (n2 : Int), .int .u8 (n3 : Int)], 79)] [⟨90, true, 2, sv, sx, (lgR (lgA lg) (lgB lg) i)⟩, ⟨90, true, 2, tv, tx, (lgT (lgA lg) (lgB lg) i)⟩, ⟨42, true, 1, .slice ua al.length uc', rx, (uRow (airQ al) al.length)⟩]))
      (fun u _ _ _ _ => lg.length - (intOf u).toNat)
     case atStart => exact ⟨0, .slice none 0 0, [], .slice none 0 0, [], Nat.zero_le _, rfl, rfl, rfl, rfl, Lib.hid ((((HS.out.bare).addP (HS.out.p 2 _ _ rfl)).addP (HS.out.p 1 _ _ rfl)).addP (HS.out.p 0 _ _ rfl)), HG⟩
     case round =>
      obtain ⟨wr35, hwr35⟩ : ∃ z, z = wr := ⟨_, rfl⟩
      subst hwr35
      clear HS HG
      obtain ⟨i, tv, tx, sv, sx, hi, rfl, rfl, rfl, rfl, HS, HG⟩ := hrel
      by_cases hlt : i < lg.length
      ·
       have hlt' : (i : Int) < lg.length := by omega
       have hge' : (0 : Int) ≤ i := by omega
       have HLT := Lib.hid hlt
       have h3 : lg.length ≤ 3 := HL3.out
       have h8 : al.length ≤ 8 := HL8.out
       obtain ⟨bg, og, hge, hbg, hEG⟩ := HEG.out (by omega)
       subst hge
       have HBG := Lib.hid hbg
       obtain ⟨hg0, hg1⟩ := hEG i hlt
       obtain ⟨hz0, hz1⟩ := HGB.out i hlt
       obtain ⟨hq0, hq1, hq2, hq3, hq4⟩ := lg_ok lg HR.out i
       have HQ0 := Lib.hid hq0
       have HQ1 := Lib.hid hq1
       have HQ2 := Lib.hid hq2
       have HQ3 := Lib.hid hq3
       have HQ4 := Lib.hid hq4
       have SX0 := Lib.hid (lgX_sz lg HR.out i hz1)
       have SA0 := Lib.hid (szR_mono (lgA_sz lg i) (show 100 ≤ 1000 by omega))
       have SB0 := Lib.hid (lgB_sz lg i hz1)
       have SW0 := Lib.hid (szR_mono (lgW_sz lg i hz1) (show 100 ≤ 1000 by omega))
       have hlnT := lgT_len (lgA lg) (lgB lg) i
       have hlnR := lgR_len (lgA lg) (lgB lg) i
       have HTS := Lib.hid (lgT_succ (lgA lg) (lgB lg) i)
       have HRS : Hid ((lgR (lgA lg) (lgB lg) (i + 1)) = [[lgA lg i, lgB lg i]] ++ (lgR (lgA lg) (lgB lg) i)) := rfl
       have HUA : Hid (upAll (lgOk le mo ri (m : Int) (airQ al) (lgA lg) (lgB lg)) (i + 1) = (upAll (lgOk le mo ri (m : Int) (airQ al) (lgA lg) (lgB lg)) i && (lgOk le mo ri (m : Int) (airQ al) (lgA lg) (lgB lg)) i)) := rfl
       have HOKI : Hid ((lgOk le mo ri (m : Int) (airQ al) (lgA lg) (lgB lg)) i = mtOf 0 le mo ri (m : Int) (flR 0 (lgA lg i) (lgB lg i) 12 (airQ al) (airQ al).length)) := rfl
       have HPl0 : ∀ l, l = (lg.getD i (0, 0)).1 % 101 → ∀ W, Calls Tryz.prog 26 #[.int .i64 (l : Int), .int .i64 100] W (RetRat (lgA lg i) W) := fun l hl W => by subst hl; exact partN_any _ 100 100 rfl W (by omega) (by omega) (by omega)
       have HPu0 : ∀ l, l = (lg.getD i (0, 0)).2 % (101 - (lg.getD i (0, 0)).1 % 101) → ∀ W, Calls Tryz.prog 26 #[.int .i64 (l : Int), .int .i64 100] W (RetRat (lgW lg i) W) := fun l hl W => by
        subst hl
        have := Nat.mod_le (lg.getD i (0, 0)).2 (101 - (lg.getD i (0, 0)).1 % 101)
        exact partN_any _ 100 100 rfl W (by omega) (by omega) (by omega)
       have HSP : Hid (∀ W va vw, IsRat W va (lgA lg i) → IsRat W vw (lgW lg i) → Calls Tryz.prog 27 #[va, vw, .int .u8 (n : Int)] W (RetSpr (lgA lg i) (lgB lg i) (lgX lg r i) W)) := fun W va vw h1 h2 => spread_any _ _ n r HN.out HRN.out va vw W h1 h2 HQ4.out SA0.out SW0.out
       have HFO : Hid (∀ W vx vS va, IsRng W vx (lgA lg i) (lgB lg i) → IsRat W vS 0 → FrcsOf IsRat W va (airQ al) → Calls Tryz.prog 29 #[vx, vS, va, .int .i64 12] W (RetRecsE true 2 (flR 0 (lgA lg i) (lgB lg i) 12 (airQ al) (airQ al).length) 0 W)) := fun W vx vS va h1 h2 h3 => follow0 HE.out HQ0.out (Rat.le_trans HQ1.out HQ2.out) HQ3.out SA0.out SB0.out vx vS va W h1 h2 h3
       have HM12 : Hid (∀ (W : World) (vx vS va : Value) (y1 y2 y3 : R3), IsRng W vx (lgA lg i) (lgB lg i) → IsRat W vS 0 → FrcsOf IsRat W va (airQ al) → IsRat W y1.val le → IsRat W y2.val mo → IsRat W y3.val ri → Calls Tryz.prog 31 #[vx, vS, va, .agg #[.bool y1.b, .slice y1.a y1.n y1.c, .slice y1.d y1.m y1.e, .bool y2.b, .slice y2.a y2.n y2.c, .slice y2.d y2.m y2.e, .bool y3.b, .slice y3.a y3.n y3.c, .slice y3.d y3.m y3.e, .int .i64 (m : Int)], .int .i64 12] W (RetBE (mtOf 0 le mo ri (m : Int) (flR 0 (lgA lg i) (lgB lg i) 12 (airQ al) (airQ al).length)) 0 W)) := fun W vx vS va y1 y2 y3 h1 h2 h3 h4 h5 h6 => meets0 HE.out HQ0.out (Rat.le_trans HQ1.out HQ2.out) HQ3.out SA0.out SB0.out (k := 12) (by omega) 12 rfl y1 y2 y3 vx vS va W h1 h2 h3 h4 h5 h6
       have HM200 : Hid (∀ (W : World) (vx vS va : Value) (y1 y2 y3 : R3), IsRng W vx (lgX lg r i) (lgX lg r i) → IsRat W vS 0 → FrcsOf IsRat W va (airQ al) → IsRat W y1.val le → IsRat W y2.val mo → IsRat W y3.val ri → Calls Tryz.prog 31 #[vx, vS, va, .agg #[.bool y1.b, .slice y1.a y1.n y1.c, .slice y1.d y1.m y1.e, .bool y2.b, .slice y2.a y2.n y2.c, .slice y2.d y2.m y2.e, .bool y3.b, .slice y3.a y3.n y3.c, .slice y3.d y3.m y3.e, .int .i64 (m : Int)], .int .i64 200] W (RetBE (mtOf 0 le mo ri (m : Int) (flR 0 (lgX lg r i) (lgX lg r i) 200 (airQ al) (airQ al).length)) 0 W)) := fun W vx vS va y1 y2 y3 h1 h2 h3 h4 h5 h6 => meets0 HE.out (Rat.le_trans HQ0.out HQ1.out) Rat.le_refl (Rat.le_trans HQ2.out HQ3.out) SX0.out SX0.out (k := 200) (by omega) 200 rfl y1 y2 y3 vx vS va W h1 h2 h3 h4 h5 h6
       have HOWN : Hid (mtOf 0 le mo ri (m : Int) (flR 0 (lgA lg i) (lgB lg i) 12 (airQ al) (airQ al).length) = true → mtOf 0 le mo ri (m : Int) (flR 0 (lgX lg r i) (lgX lg r i) 200 (airQ al) (airQ al).length) = true) := mtOf_in (flR_in (by omega) HQ1.out HQ2.out (Rat.le_trans HQ2.out HQ3.out) _)
       have HNI : Hid (∀ j, (flUp 0 (lgA lg i) (lgB lg i) 12 (airQ al) j).1 ≤ nowQ (lgX lg r i) (airQ al) j ∧ nowQ (lgX lg r i) (airQ al) j ≤ (flUp 0 (lgA lg i) (lgB lg i) 12 (airQ al) j).2) := fun j => now_in HQ1.out HQ2.out (Rat.le_trans HQ2.out HQ3.out) j
       have HFS : Hid (∀ j, szR (flUp 0 (lgA lg i) (lgB lg i) 12 (airQ al) j).1 1000 ∧ szR (flUp 0 (lgA lg i) (lgB lg i) 12 (airQ al) j).2 1000) := fun j => fl_sz0 (by omega) HQ0.out (Rat.le_trans HQ1.out HQ2.out) HQ3.out HE.out.bd j
       generalize mtOf 0 le mo ri (m : Int) (flR 0 (lgA lg i) (lgB lg i) 12 (airQ al) (airQ al).length) = ok at *
       generalize mtOf 0 le mo ri (m : Int) (flR 0 (lgX lg r i) (lgX lg r i) 200 (airQ al) (airQ al).length) = own at *
       rw [HOKI.out] at HUA
       obtain ⟨ab, hab⟩ : ∃ z, z = upAll (lgOk le mo ri (m : Int) (airQ al) (lgA lg) (lgB lg)) i := ⟨_, rfl⟩
       rw [← hab]
       rw [← hab] at HUA
       clear hab
       generalize hG0 : (lg.getD i (0, 0)).1 = b0 at *
       generalize hG1 : (lg.getD i (0, 0)).2 = b1 at *
       obtain ⟨l, hl⟩ : ∃ z, z = b0 % 101 := ⟨_, rfl⟩
       obtain ⟨dl, hdl⟩ : ∃ z, z = 101 - l := ⟨_, rfl⟩
       obtain ⟨uc, huc⟩ : ∃ z, z = b1 % dl := ⟨_, rfl⟩
       have HPl := Lib.hid (HPl0 l hl)
       have HPu := Lib.hid (HPu0 uc (by rw [huc, hdl, hl]))
       have hll : l ≤ 100 := by omega
       have hud : uc ≤ b1 := by rw [huc]; exact Nat.mod_le _ _
       have hm1 : Int.tmod (b0 : Int) 101 = (l : Int) := by rw [Int.tmod_eq_emod_of_nonneg (by omega)]; omega
       have hm2 : (b0 : Int) % 101 = (l : Int) := by omega
       have hm3 : IntKind.i64.wrap (l : Int) = (l : Int) := IntWalk.i64_in _ (by omega)
       have hm4 : IntKind.i64.wrap (b0 : Int) = (b0 : Int) := IntWalk.i64_in _ (by omega)
       have hm5 : IntKind.i64.wrap (b1 : Int) = (b1 : Int) := IntWalk.i64_in _ (by omega)
       have hm6 : IntKind.i64.wrap (101 - (l : Int)) = (dl : Int) := (IntWalk.i64_in _ (by omega)).trans (by omega)
       have hm7 : Int.tmod (b1 : Int) (dl : Int) = (uc : Int) := by rw [Int.tmod_eq_emod_of_nonneg (by omega), huc]; exact (Int.natCast_emod b1 dl).symm
       have hm8 : (b1 : Int) % (dl : Int) = (uc : Int) := by rw [huc]; exact (Int.natCast_emod b1 dl).symm
       have hm9 : IntKind.i64.wrap (uc : Int) = (uc : Int) := IntWalk.i64_in _ (by omega)
       have hm10 : (dl : Int) ≠ 0 := by omega
       have hm11 : ((dl : Int) == 0) = false := beq_eq_false_iff_ne.2 hm10
       have hm12 : ¬ dl = 0 := by omega
       have HG0 := Lib.hid hg0
       have HG1 := Lib.hid hg1
       clear hbg hEG hg0 hg1 hq0 hq1 hq2 hq3 hq4 hG0 hG1 HPl0 HPu0 hlt hl hdl huc
       generalize lgX lg r i = x0 at *
       generalize lgW lg i = w0 at *
       obtain ⟨a0, ha0⟩ : ∃ z, z = lgA lg i := ⟨_, rfl⟩
       obtain ⟨b0_, hb0⟩ : ∃ z, z = lgB lg i := ⟨_, rfl⟩
       rw [← ha0, ← hb0] at HTS HRS
       simp only [← ha0, ← hb0] at HQ0 HQ1 HQ2 HQ3 SA0 SB0 HSP HFO HM12 HNI HFS HPl
       have HA0 := Lib.hid ha0
       have HB0 := Lib.hid hb0
       clear ha0 hb0
       have Gc0 := (HS.out.bel.cell (p := ⟨bg, og + i * 2, none⟩) HBG.out).trans HG0.out
       have Gc1 := (HS.out.bel.cell (p := ⟨bg, og + i * 2 + 1, none⟩) HBG.out).trans HG1.out
       go_wp2_with fail
       clear Gc0 Gc1
       generalize hW36 : (wr35).alloc (.cells _ _) = W36 at *
       replace HG := Lib.hid (((HG.out).alloc (B := wr35.heap.size) rfl).to hW36 (by (try simp only [nb5, nb6]); rfl))
       replace HS := Lib.hid (((HS.out).alloc (B := wr35.heap.size) rfl (by rfl)).to hW36 (by (try simp only [nb5, nb6]); rfl))
       clear hW36
       refine wp_region_held_drew (S := (fun w' => Sx w w' [(wr35.heap.size, #[.int .u8 (b0 : Int), .int .u8 (b1 : Int)], 84), (Br11_23, #[.bool z31q22.b, .slice z31q22.a z31q22.n z31q22.c, .slice z31q22.d z31q22.m z31q22.e, .bool z32q22.b, .slice z32q22.a z32q22.n z32q22.c, .slice z32q22.d z32q22.m z32q22.e, .bool z33q22.b, .slice z33q22.a z33q22.n z33q22.c, .slice z33q22.d z33q22.m z33q22.e, .int .i64 (m : Int)], 82), (w.heap.size, #[.int .u8 (n0 : Int), .int .u8 (n1 : Int), .int .u8 (n2 : Int), .int .u8 (n3 : Int)], 79)] [])) (by kernel_rfl) ((HS.out.drew).bare) (fun hh => ?_)
       replace HS := Lib.hid HS.out.drew
       replace HG := Lib.hid (HG.out.below (Below.refl _ _).drew)
       have HSW := Lib.hid HS.out.bel.size
       refine tkB (i := 0) (v := ?vk38) rfl ?hk38 ?rk38
       case hk38 => intro u hSu; go_simp <;> with_reducible rfl
       try simp only [nbs, Act.put]
       refine tkB (i := 2) (v := ?vk39) rfl ?hk39 ?rk39
       case hk39 => intro u hSu; go_simp <;> with_reducible rfl
       try simp only [nbs, Act.put]
       refine tkB (i := 3) (v := ?vk40) rfl ?hk40 ?rk40
       case hk40 => intro u hSu; (try dsimp only at hSu); have qb2e := (hSu.at 0 _ _ _ rfl); have qb2c0 := blk_cell qb2e 0 (.int .u8 (b0 : Int)) rfl; have qb2c1 := blk_cell qb2e 1 (.int .u8 (b1 : Int)) rfl; clear qb2e; clear hSu; go_simp <;> with_reducible rfl
       try simp only [nbs, Act.put]
       refine tkB (i := 4) (v := ?vk41) rfl ?hk41 ?rk41
       case hk41 => intro u hSu; go_simp <;> with_reducible rfl
       try simp only [nbs, Act.put]
       refine tkB (i := 5) (v := ?vk42) rfl ?hk42 ?rk42
       case hk42 => intro u hSu; go_simp <;> with_reducible rfl
       try simp only [nbs, Act.put]
       refine tkB (i := 6) (v := ?vk43) rfl ?hk43 ?rk43
       case hk43 => intro u hSu; go_simp <;> with_reducible rfl
       try simp only [nbs, Act.put]
       refine tkB (i := 7) (v := ?vk44) rfl ?hk44 ?rk44
       case hk44 => intro u hSu; go_simp <;> with_reducible rfl
       try simp only [nbs, Act.put]
       refine tkB (i := 9) (v := ?vk45) rfl ?hk45 ?rk45
       case hk45 => intro u hSu; go_simp <;> with_reducible rfl
       try simp only [nbs, Act.put]
       refine wpAnyH_modular [1, 8, 10, 11, 12, 13, 14, 15] [1, 8, 10, 14, 15] [11, 12, 13] [100, 107, 109, 98, 110, 111, 19, 20] #[true, true, true, true, true, true, true, true, true, true, true, true, true, true, true, true, false, false] 2 [(1, 100), (8, 107), (10, 109), (11, 98), (12, 110), (13, 111), (14, 19), (15, 20)] [(1, []), (8, [1]), (10, [1, 8]), (11, [10]), (12, [11]), (13, [11]), (14, []), (15, [])] [14, 15] [(1, fun v w => ∃ z46 : R3, v = z46.val ∧ Fr true w z46.val a0), (8, fun v w => ∃ z47 : R3, v = z47.val ∧ Fr true w z47.val w0), (10, fun v w => ∃ y481 y482 y483 : R3, v = .tuple #[.agg #[.bool y481.b, .slice y481.a y481.n y481.c, .slice y481.d y481.m y481.e, .bool y482.b, .slice y482.a y482.n y482.c, .slice y482.d y482.m y482.e], y483.val] ∧ Fr true w y481.val a0 ∧ Fr true w y482.val b0_ ∧ Fr true w y483.val x0), (11, fun v w => ∃ y481q11 y482q11 y483q11 : R3, v = .tuple #[.agg #[.bool y481q11.b, .slice y481q11.a y481q11.n y481q11.c, .slice y481q11.d y481q11.m y481q11.e, .bool y482q11.b, .slice y482q11.a y482q11.n y482q11.c, .slice y482q11.d y482q11.m y482q11.e], y483q11.val] ∧ Fr true w y481q11.val a0 ∧ Fr true w y482q11.val b0_ ∧ Fr true w y483q11.val x0), (12, fun v w => ∃ y481q11q12 y482q11q12 : R3, v = .agg #[.bool y481q11q12.b, .slice y481q11q12.a y481q11q12.n y481q11q12.c, .slice y481q11q12.d y481q11q12.m y481q11q12.e, .bool y482q11q12.b, .slice y482q11q12.a y482q11q12.n y482q11q12.c, .slice y482q11q12.d y482q11q12.m y482q11q12.e] ∧ Fr true w y481q11q12.val a0 ∧ Fr true w y482q11q12.val b0_), (13, fun v w => ∃ y483q11q13 : R3, v = y483q11q13.val ∧ Fr true w y483q11q13.val x0), (14, fun v w => ∃ Br37_14 : Nat, v = .pointer (some ⟨Br37_14, 0, none⟩) ∧ W36.drew.heap.size ≤ Br37_14 ∧ w.heap[Br37_14]? = some (.cells #[.bool false, .slice none 0 0, .slice none 0 0, .bool false, .slice none 0 0, .slice none 0 0] 86 (0, 0))), (15, fun v w => ∃ Br37_15 : Nat, v = .pointer (some ⟨Br37_15, 0, none⟩) ∧ W36.drew.heap.size ≤ Br37_15 ∧ w.heap[Br37_15]? = some (.cells #[.bool false, .slice none 0 0, .slice none 0 0] 42 (0, 0)))]
        rfl (by kernel_rfl) (by decide) rfl ⟨(fun v w w' hb ⟨z0, e, h0⟩ => ⟨z0, e, Fr.below h0 hb⟩), ⟨(fun v w w' hb ⟨z0, e, h0⟩ => ⟨z0, e, Fr.below h0 hb⟩), ⟨(fun v w w' hb ⟨z0, z1, z2, e, h0, h1, h2⟩ => ⟨z0, z1, z2, e, Fr.below h0 hb, Fr.below h1 hb, Fr.below h2 hb⟩), ⟨(fun v w w' hb ⟨z0, z1, z2, e, h0, h1, h2⟩ => ⟨z0, z1, z2, e, Fr.below h0 hb, Fr.below h1 hb, Fr.below h2 hb⟩), ⟨(fun v w w' hb ⟨z0, z1, e, h0, h1⟩ => ⟨z0, z1, e, Fr.below h0 hb, Fr.below h1 hb⟩), ⟨(fun v w w' hb ⟨z0, e, h0⟩ => ⟨z0, e, Fr.below h0 hb⟩), ⟨(fun v w w' hb ⟨B, e, g, k⟩ => ⟨B, e, g, blk_keep k hb (blk_lt k)⟩), ⟨(fun v w w' hb ⟨B, e, g, k⟩ => ⟨B, e, g, blk_keep k hb (blk_lt k)⟩), trivial⟩⟩⟩⟩⟩⟩⟩⟩ ⟨fun v w ⟨B, e, g, k⟩ => ⟨B, e, blk_lt k⟩, ⟨fun v w ⟨B, e, g, k⟩ => ⟨B, e, blk_lt k⟩, trivial⟩⟩ (fun w' hb => Sx.below hh hb) ⟨?_, ?_, ?_, ?_, ?_, trivial⟩ ⟨?_, ?_, ?_, trivial⟩ (by decide) ?_
       ·
        refine StepM.of rfl (fun f w' hb hp K hK => ?_)
        have HSB := HS
        replace HS := Lib.hid (HS.out.below hb)
        simp only [fillA, fillT, List.foldl_cons, List.foldl_nil, Act.put, nb4, nb5, nb6]
        go_simp
        go_wp2_with (go_at_call 26; (with_reducible refine (HPl.out _).mono ?_); rintro e w46 ⟨v46, rfl, hv46, hb46⟩; obtain ⟨z46, rfl⟩ := hv46.open3)
        exact hK.out _ _ (z46.val) (by simp only [fillA, fillT, List.foldl_cons, List.foldl_nil, Act.put, nb4, nb5, nb6, nb1, nb2, nb3]) ⟨z46, rfl, hv46⟩ (fun h => absurd h (by decide)) hb46
       ·
        refine StepM.of rfl (fun f w' hb hp K hK => ?_)
        have HSB := HS
        replace HS := Lib.hid (HS.out.below hb)
        simp only [fillA, fillT, List.foldl_cons, List.foldl_nil, Act.put, nb4, nb5, nb6]
        go_simp
        go_wp2_with (go_at_call 26; (with_reducible refine (HPu.out _).mono ?_); rintro e w47 ⟨v47, rfl, hv47, hb47⟩; obtain ⟨z47, rfl⟩ := hv47.open3)
        exact hK.out _ _ (z47.val) (by simp only [fillA, fillT, List.foldl_cons, List.foldl_nil, Act.put, nb4, nb5, nb6, nb1, nb2, nb3]) ⟨z47, rfl, hv47⟩ (fun h => absurd h (by decide)) hb47
       ·
        refine StepM.of rfl (fun f w' hb hp K hK => ?_)
        obtain ⟨z46, e1, h1_0⟩ : ∃ z46 : R3, f 100 = z46.val ∧ Fr true w' z46.val a0 := hp 1 (by decide)
        obtain ⟨z47, e8, h8_0⟩ : ∃ z47 : R3, f 107 = z47.val ∧ Fr true w' z47.val w0 := hp 8 (by decide)
        have HSB := HS
        replace HS := Lib.hid (HS.out.below hb)
        replace HS := Lib.hid (HS.out.addP h1_0)
        replace HS := Lib.hid (HS.out.addP h8_0)
        simp only [fillA, fillT, List.foldl_cons, List.foldl_nil, Act.put, nb4, nb5, nb6, e1, e8]
        have a49 := HS.out.p 1 _ _ rfl
        have a50 := HS.out.p 0 _ _ rfl
        go_simp
        go_wp2_with (go_at_call 27; (with_reducible refine (HSP.out _ _ _ a49 a50).mono ?_); rintro e w48 ⟨y481, y482, y483, rfl, hv481, hv482, hv483, hb48⟩)
        exact hK.out _ _ (.tuple #[.agg #[.bool y481.b, .slice y481.a y481.n y481.c, .slice y481.d y481.m y481.e, .bool y482.b, .slice y482.a y482.n y482.c, .slice y482.d y482.m y482.e], y483.val]) (by simp only [fillA, fillT, List.foldl_cons, List.foldl_nil, Act.put, nb4, nb5, nb6, nb1, nb2, nb3, e1, e8]) ⟨y481, y482, y483, rfl, hv481, hv482, hv483⟩ (fun h => absurd h (by decide)) hb48
       ·
        refine StepM.of rfl (fun f w' hb hp K hK => ?_)
        have HSB := HS
        replace HS := Lib.hid (HS.out.below hb)
        simp only [fillA, fillT, List.foldl_cons, List.foldl_nil, Act.put, nb4, nb5, nb6]
        go_simp
        exact hK.out _ _ (.pointer (some ⟨w'.heap.size, 0, none⟩)) (by simp only [fillA, fillT, List.foldl_cons, List.foldl_nil, Act.put, nb4, nb5, nb6, nb1, nb2, nb3]) ⟨_, rfl, hb.size, blk_new _ _ _⟩ (fun _ => rfl) (below1 w' _)
       ·
        refine StepM.of rfl (fun f w' hb hp K hK => ?_)
        have HSB := HS
        replace HS := Lib.hid (HS.out.below hb)
        simp only [fillA, fillT, List.foldl_cons, List.foldl_nil, Act.put, nb4, nb5, nb6]
        go_simp
        exact hK.out _ _ (.pointer (some ⟨w'.heap.size, 0, none⟩)) (by simp only [fillA, fillT, List.foldl_cons, List.foldl_nil, Act.put, nb4, nb5, nb6, nb1, nb2, nb3]) ⟨_, rfl, hb.size, blk_new _ _ _⟩ (fun _ => rfl) (below1 w' _)
       ·
        refine EagerM.of rfl (fun f w' hb hp => ?_)
        obtain ⟨y481, y482, y483, e10, h10_0, h10_1, h10_2⟩ : ∃ y481 y482 y483 : R3, f 109 = .tuple #[.agg #[.bool y481.b, .slice y481.a y481.n y481.c, .slice y481.d y481.m y481.e, .bool y482.b, .slice y482.a y482.n y482.c, .slice y482.d y482.m y482.e], y483.val] ∧ Fr true w' y481.val a0 ∧ Fr true w' y482.val b0_ ∧ Fr true w' y483.val x0 := hp 10 (by decide)
        refine ⟨.tuple #[.agg #[.bool y481.b, .slice y481.a y481.n y481.c, .slice y481.d y481.m y481.e, .bool y482.b, .slice y482.a y482.n y482.c, .slice y482.d y482.m y482.e], y483.val], ⟨y481, y482, y483, rfl, h10_0, h10_1, h10_2⟩, by first | rfl | kernel_rfl, fun u => ?_⟩
        simp only [fillA, fillT, List.foldl_cons, List.foldl_nil, Act.put, nb4, nb5, nb6, e10]
        go_simp <;> with_reducible rfl
       ·
        refine EagerM.of rfl (fun f w' hb hp => ?_)
        obtain ⟨y481q11, y482q11, y483q11, e11, h11_0, h11_1, h11_2⟩ : ∃ y481q11 y482q11 y483q11 : R3, f 98 = .tuple #[.agg #[.bool y481q11.b, .slice y481q11.a y481q11.n y481q11.c, .slice y481q11.d y481q11.m y481q11.e, .bool y482q11.b, .slice y482q11.a y482q11.n y482q11.c, .slice y482q11.d y482q11.m y482q11.e], y483q11.val] ∧ Fr true w' y481q11.val a0 ∧ Fr true w' y482q11.val b0_ ∧ Fr true w' y483q11.val x0 := hp 11 (by decide)
        refine ⟨.agg #[.bool y481q11.b, .slice y481q11.a y481q11.n y481q11.c, .slice y481q11.d y481q11.m y481q11.e, .bool y482q11.b, .slice y482q11.a y482q11.n y482q11.c, .slice y482q11.d y482q11.m y482q11.e], ⟨y481q11, y482q11, rfl, h11_0, h11_1⟩, by first | rfl | kernel_rfl, fun u => ?_⟩
        simp only [fillA, fillT, List.foldl_cons, List.foldl_nil, Act.put, nb4, nb5, nb6, e11]
        go_simp <;> with_reducible rfl
       ·
        refine EagerM.of rfl (fun f w' hb hp => ?_)
        obtain ⟨y481q11, y482q11, y483q11, e11, h11_0, h11_1, h11_2⟩ : ∃ y481q11 y482q11 y483q11 : R3, f 98 = .tuple #[.agg #[.bool y481q11.b, .slice y481q11.a y481q11.n y481q11.c, .slice y481q11.d y481q11.m y481q11.e, .bool y482q11.b, .slice y482q11.a y482q11.n y482q11.c, .slice y482q11.d y482q11.m y482q11.e], y483q11.val] ∧ Fr true w' y481q11.val a0 ∧ Fr true w' y482q11.val b0_ ∧ Fr true w' y483q11.val x0 := hp 11 (by decide)
        refine ⟨y483q11.val, ⟨y483q11, rfl, h11_2⟩, by first | rfl | kernel_rfl, fun u => ?_⟩
        simp only [fillA, fillT, List.foldl_cons, List.foldl_nil, Act.put, nb4, nb5, nb6, e11]
        go_simp <;> with_reducible rfl
       ·
        intro f wr37 hb hp hd
        obtain ⟨z46, e1, h1_0⟩ : ∃ z46 : R3, f 100 = z46.val ∧ Fr true wr37 z46.val a0 := hp 1 (by decide)
        obtain ⟨z47, e8, h8_0⟩ : ∃ z47 : R3, f 107 = z47.val ∧ Fr true wr37 z47.val w0 := hp 8 (by decide)
        obtain ⟨y481, y482, y483, e10, h10_0, h10_1, h10_2⟩ : ∃ y481 y482 y483 : R3, f 109 = .tuple #[.agg #[.bool y481.b, .slice y481.a y481.n y481.c, .slice y481.d y481.m y481.e, .bool y482.b, .slice y482.a y482.n y482.c, .slice y482.d y482.m y482.e], y483.val] ∧ Fr true wr37 y481.val a0 ∧ Fr true wr37 y482.val b0_ ∧ Fr true wr37 y483.val x0 := hp 10 (by decide)
        obtain ⟨y481q11, y482q11, y483q11, e11, h11_0, h11_1, h11_2⟩ : ∃ y481q11 y482q11 y483q11 : R3, f 98 = .tuple #[.agg #[.bool y481q11.b, .slice y481q11.a y481q11.n y481q11.c, .slice y481q11.d y481q11.m y481q11.e, .bool y482q11.b, .slice y482q11.a y482q11.n y482q11.c, .slice y482q11.d y482q11.m y482q11.e], y483q11.val] ∧ Fr true wr37 y481q11.val a0 ∧ Fr true wr37 y482q11.val b0_ ∧ Fr true wr37 y483q11.val x0 := hp 11 (by decide)
        obtain ⟨y481q11q12, y482q11q12, e12, h12_0, h12_1⟩ : ∃ y481q11q12 y482q11q12 : R3, f 110 = .agg #[.bool y481q11q12.b, .slice y481q11q12.a y481q11q12.n y481q11q12.c, .slice y481q11q12.d y481q11q12.m y481q11q12.e, .bool y482q11q12.b, .slice y482q11q12.a y482q11q12.n y482q11q12.c, .slice y482q11q12.d y482q11q12.m y482q11q12.e] ∧ Fr true wr37 y481q11q12.val a0 ∧ Fr true wr37 y482q11q12.val b0_ := hp 12 (by decide)
        obtain ⟨y483q11q13, e13, h13_0⟩ : ∃ y483q11q13 : R3, f 111 = y483q11q13.val ∧ Fr true wr37 y483q11q13.val x0 := hp 13 (by decide)
        obtain ⟨Br37_14, e14, g14, k14⟩ : ∃ Br37_14 : Nat, f 19 = .pointer (some ⟨Br37_14, 0, none⟩) ∧ W36.drew.heap.size ≤ Br37_14 ∧ wr37.heap[Br37_14]? = some (.cells #[.bool false, .slice none 0 0, .slice none 0 0, .bool false, .slice none 0 0, .slice none 0 0] 86 (0, 0)) := hp 14 (by decide)
        obtain ⟨Br37_15, e15, g15, k15⟩ : ∃ Br37_15 : Nat, f 20 = .pointer (some ⟨Br37_15, 0, none⟩) ∧ W36.drew.heap.size ≤ Br37_15 ∧ wr37.heap[Br37_15]? = some (.cells #[.bool false, .slice none 0 0, .slice none 0 0] 42 (0, 0)) := hp 15 (by decide)
        have hd14_15 : Br37_14 ≠ Br37_15 := fun h => hd 14 15 (by decide) (by decide) (by decide) (by decide) (by decide) (by show f 19 = f 20; rw [e14, e15, h])
        replace hh := Sx.below hh hb
        have hlt := HS.out.lt
        replace HS := Lib.hid (HS.out.below hb)
        have hltg := HG.out.row
        replace HG := Lib.hid (HG.out.below hb)
        replace HS := Lib.hid (HS.out.addP h1_0)
        replace HS := Lib.hid (HS.out.addP h8_0)
        replace HS := Lib.hid (HS.out.addP h10_0)
        replace HS := Lib.hid (HS.out.addP h10_1)
        replace HS := Lib.hid (HS.out.addP h10_2)
        replace HS := Lib.hid (HS.out.addP h11_0)
        replace HS := Lib.hid (HS.out.addP h11_1)
        replace HS := Lib.hid (HS.out.addP h11_2)
        replace HS := Lib.hid (HS.out.addP h12_0)
        replace HS := Lib.hid (HS.out.addP h12_1)
        replace HS := Lib.hid (HS.out.addP h13_0)
        have hge14 : w.heap.size ≤ Br37_14 := Nat.le_trans HSW.out g14
        have hne14 : ∀ b, b ∈ ([(wr35.heap.size, #[.int .u8 (b0 : Int), .int .u8 (b1 : Int)], 84), (Br11_23, #[.bool z31q22.b, .slice z31q22.a z31q22.n z31q22.c, .slice z31q22.d z31q22.m z31q22.e, .bool z32q22.b, .slice z32q22.a z32q22.n z32q22.c, .slice z32q22.d z32q22.m z32q22.e, .bool z33q22.b, .slice z33q22.a z33q22.n z33q22.c, .slice z33q22.d z33q22.m z33q22.e, .int .i64 (m : Int)], 82), (w.heap.size, #[.int .u8 (n0 : Int), .int .u8 (n1 : Int), .int .u8 (n2 : Int), .int .u8 (n3 : Int)], 79)] : List Bx) → b.1 ≠ Br37_14 := by
         intro b hb
         simp only [List.mem_cons, List.not_mem_nil, or_false] at hb
         rcases hb with rfl | rfl | rfl
         ·
          have := hlt _ (List.mem_iff_getElem?.2 ⟨0, rfl⟩); dsimp only at this ⊢; omega
         ·
          have := hlt _ (List.mem_iff_getElem?.2 ⟨1, rfl⟩); dsimp only at this ⊢; omega
         ·
          have := hlt _ (List.mem_iff_getElem?.2 ⟨2, rfl⟩); dsimp only at this ⊢; omega
        replace HS := Lib.hid (HS.out.addBox k14 hge14 (by rfl) hne14)
        replace HG := Lib.hid (HG.out.box (B := Br37_14) (T := 86) (cs := #[.bool false, .slice none 0 0, .slice none 0 0, .bool false, .slice none 0 0, .slice none 0 0]) (fun g hg hc => by obtain ⟨n, hn⟩ := List.mem_iff_getElem?.1 hg; have := ((hltg n g hn).lt hc).1; have := g14; omega))
        have hge15 : w.heap.size ≤ Br37_15 := Nat.le_trans HSW.out g15
        have hne15 : ∀ b, b ∈ ([(Br37_14, #[.bool false, .slice none 0 0, .slice none 0 0, .bool false, .slice none 0 0, .slice none 0 0], 86), (wr35.heap.size, #[.int .u8 (b0 : Int), .int .u8 (b1 : Int)], 84), (Br11_23, #[.bool z31q22.b, .slice z31q22.a z31q22.n z31q22.c, .slice z31q22.d z31q22.m z31q22.e, .bool z32q22.b, .slice z32q22.a z32q22.n z32q22.c, .slice z32q22.d z32q22.m z32q22.e, .bool z33q22.b, .slice z33q22.a z33q22.n z33q22.c, .slice z33q22.d z33q22.m z33q22.e, .int .i64 (m : Int)], 82), (w.heap.size, #[.int .u8 (n0 : Int), .int .u8 (n1 : Int), .int .u8 (n2 : Int), .int .u8 (n3 : Int)], 79)] : List Bx) → b.1 ≠ Br37_15 := by
         intro b hb
         simp only [List.mem_cons, List.not_mem_nil, or_false] at hb
         rcases hb with rfl | rfl | rfl | rfl
         ·
          exact hd14_15
         ·
          have := hlt _ (List.mem_iff_getElem?.2 ⟨0, rfl⟩); dsimp only at this ⊢; omega
         ·
          have := hlt _ (List.mem_iff_getElem?.2 ⟨1, rfl⟩); dsimp only at this ⊢; omega
         ·
          have := hlt _ (List.mem_iff_getElem?.2 ⟨2, rfl⟩); dsimp only at this ⊢; omega
        replace HS := Lib.hid (HS.out.addBox k15 hge15 (by rfl) hne15)
        replace HG := Lib.hid (HG.out.box (B := Br37_15) (T := 42) (cs := #[.bool false, .slice none 0 0, .slice none 0 0]) (fun g hg hc => by obtain ⟨n, hn⟩ := List.mem_iff_getElem?.1 hg; have := ((hltg n g hn).lt hc).1; have := g15; omega))
        simp only [fillA, fillT, List.foldl_cons, List.foldl_nil, Act.put, nb4, nb5, nb6, e1, e8, e10, e11, e12, e13, e14, e15]
        clear hp hd hb hlt e1 e8 e10 e11 e12 e13 e14 e15 hltg
        refine rdA (i := 16) rfl (fun K hK => ?_)
        have b3e := (HS.out.at 1 _ _ _ rfl)
        have b3c0 := blk_cell b3e 0 (.bool false) rfl
        have b3c1 := blk_cell b3e 1 (.slice none 0 0) rfl
        have b3c2 := blk_cell b3e 2 (.slice none 0 0) rfl
        have b3c3 := blk_cell b3e 3 (.bool false) rfl
        have b3c4 := blk_cell b3e 4 (.slice none 0 0) rfl
        have b3c5 := blk_cell b3e 5 (.slice none 0 0) rfl
        have b3f0 := blk_frozen b3e 0
        have b3f1 := blk_frozen b3e 1
        have b3f2 := blk_frozen b3e 2
        have b3f3 := blk_frozen b3e 3
        have b3f4 := blk_frozen b3e 4
        have b3f5 := blk_frozen b3e 5
        have b3l := blk_lt b3e
        clear b3e
        go_simp
        refine hK.out _ _ ((((((HS.out).st_RR 1 r30 r30 y481q11q12 y482q11q12 rfl)).erase 1)).erase 0) (fun hh => ?_)
        clear hK K b3c0 b3c1 b3c2 b3c3 b3c4 b3c5 b3f0 b3f1 b3f2 b3f3 b3f4 b3f5 b3l
        try simp only [nbs, Act.put]
        generalize hW51 : ((((((wr37).setCell _ _).setCell _ _).setCell _ _).setCell _ _).setCell _ _).setCell _ _ = W51 at *
        replace HG := Lib.hid (((HG.out).st_RR (HS.out) 1 r30 r30 y481q11q12 y482q11q12 rfl).to hW51 (by (try simp only [nb5, nb6]); rfl))
        replace HS := Lib.hid (((HS.out).st_RR 1 r30 r30 y481q11q12 y482q11q12 rfl).to hW51 (by (try simp only [nb5, nb6]); rfl))
        clear hW51
        refine rdA (i := 17) rfl (fun K hK => ?_)
        have b4e := (HS.out.at 0 _ _ _ rfl)
        have b4c0 := blk_cell b4e 0 (.bool false) rfl
        have b4c1 := blk_cell b4e 1 (.slice none 0 0) rfl
        have b4c2 := blk_cell b4e 2 (.slice none 0 0) rfl
        have b4f0 := blk_frozen b4e 0
        have b4f1 := blk_frozen b4e 1
        have b4f2 := blk_frozen b4e 2
        have b4l := blk_lt b4e
        clear b4e
        go_simp
        refine hK.out _ _ ((((((HS.out).st_R 0 r30 y483q11q13 rfl)).erase 1)).erase 0) (fun hh => ?_)
        clear hK K b4c0 b4c1 b4c2 b4f0 b4f1 b4f2 b4l
        try simp only [nbs, Act.put]
        generalize hW52 : (((W51).setCell _ _).setCell _ _).setCell _ _ = W52 at *
        replace HG := Lib.hid (((HG.out).st_R (HS.out) 0 r30 y483q11q13 rfl).to hW52 (by (try simp only [nb5, nb6]); rfl))
        replace HS := Lib.hid (((HS.out).st_R 0 r30 y483q11q13 rfl).to hW52 (by (try simp only [nb5, nb6]); rfl))
        clear hW52
        refine wpAnyH_done (by kernel_rfl) ?_ _
        go_wp2_with fail
        refine wp_region_held_drew (S := (fun w' => Sx w w' [(Br37_15, y483q11q13.arr, 42), (Br37_14, arr6 y481q11q12 y482q11q12, 86), (wr35.heap.size, #[.int .u8 (b0 : Int), .int .u8 (b1 : Int)], 84), (Br11_23, #[.bool z31q22.b, .slice z31q22.a z31q22.n z31q22.c, .slice z31q22.d z31q22.m z31q22.e, .bool z32q22.b, .slice z32q22.a z32q22.n z32q22.c, .slice z32q22.d z32q22.m z32q22.e, .bool z33q22.b, .slice z33q22.a z33q22.n z33q22.c, .slice z33q22.d z33q22.m z33q22.e, .int .i64 (m : Int)], 82), (w.heap.size, #[.int .u8 (n0 : Int), .int .u8 (n1 : Int), .int .u8 (n2 : Int), .int .u8 (n3 : Int)], 79)] [])) (by kernel_rfl) ((HS.out.drew).bare) (fun hh => ?_)
        replace HS := Lib.hid HS.out.drew
        replace HG := Lib.hid (HG.out.below (Below.refl _ _).drew)
        have HSW := Lib.hid HS.out.bel.size
        refine tkB (i := 0) (v := ?vk54) rfl ?hk54 ?rk54
        case hk54 => intro u hSu; (try dsimp only at hSu); obtain ⟨qb3c0, qb3c1, qb3c2, qb3c3, qb3c4, qb3c5, _⟩ := fac6 (x := y481q11q12) (y := y482q11q12) (hSu.at 1 _ _ _ rfl); clear hSu; go_simp <;> with_reducible rfl
        try simp only [nbs, Act.put]
        refine tkB (i := 1) (v := ?vk55) rfl ?hk55 ?rk55
        case hk55 => intro u hSu; go_simp <;> with_reducible rfl
        try simp only [nbs, Act.put]
        refine tkB (i := 2) (v := ?vk56) rfl ?hk56 ?rk56
        case hk56 => intro u hSu; (try dsimp only at hSu); obtain ⟨qb4c0, qb4c1, qb4c2, _⟩ := fac3 (x := y483q11q13) (hSu.at 0 _ _ _ rfl); clear hSu; go_simp <;> with_reducible rfl
        try simp only [nbs, Act.put]
        refine wpAnyH_modular [3, 4, 5, 6] [3, 5, 6] [4] [115, 116, 21, 22] #[true, true, true, true, true, true, true, false, false] 2 [(3, 115), (4, 116), (5, 21), (6, 22)] [(3, []), (4, [3]), (5, []), (6, [])] [5, 6] [(3, fun v w => ∃ z57a z57b : R3, v = .agg #[.bool z57a.b, .slice z57a.a z57a.n z57a.c, .slice z57a.d z57a.m z57a.e, .bool z57b.b, .slice z57b.a z57b.n z57b.c, .slice z57b.d z57b.m z57b.e] ∧ Fr true w z57a.val x0 ∧ Fr true w z57b.val x0), (4, fun v w => ∃ z57aq4 z57bq4 : R3, v = .agg #[.bool z57aq4.b, .slice z57aq4.a z57aq4.n z57aq4.c, .slice z57aq4.d z57aq4.m z57aq4.e, .bool z57bq4.b, .slice z57bq4.a z57bq4.n z57bq4.c, .slice z57bq4.d z57bq4.m z57bq4.e] ∧ Fr true w z57aq4.val x0 ∧ Fr true w z57bq4.val x0), (5, fun v w => ∃ Br53_5 : Nat, v = .pointer (some ⟨Br53_5, 0, none⟩) ∧ W52.drew.heap.size ≤ Br53_5 ∧ w.heap[Br53_5]? = some (.cells #[.bool false, .slice none 0 0, .slice none 0 0, .bool false, .slice none 0 0, .slice none 0 0] 90 (0, 0))), (6, fun v w => ∃ Br53_6 : Nat, v = .pointer (some ⟨Br53_6, 0, none⟩) ∧ W52.drew.heap.size ≤ Br53_6 ∧ w.heap[Br53_6]? = some (.cells #[.bool false, .slice none 0 0, .slice none 0 0, .bool false, .slice none 0 0, .slice none 0 0] 90 (0, 0)))]
         rfl (by kernel_rfl) (by decide) rfl ⟨(fun v w w' hb ⟨z0, z1, e, h0, h1⟩ => ⟨z0, z1, e, Fr.below h0 hb, Fr.below h1 hb⟩), ⟨(fun v w w' hb ⟨z0, z1, e, h0, h1⟩ => ⟨z0, z1, e, Fr.below h0 hb, Fr.below h1 hb⟩), ⟨(fun v w w' hb ⟨B, e, g, k⟩ => ⟨B, e, g, blk_keep k hb (blk_lt k)⟩), ⟨(fun v w w' hb ⟨B, e, g, k⟩ => ⟨B, e, g, blk_keep k hb (blk_lt k)⟩), trivial⟩⟩⟩⟩ ⟨fun v w ⟨B, e, g, k⟩ => ⟨B, e, blk_lt k⟩, ⟨fun v w ⟨B, e, g, k⟩ => ⟨B, e, blk_lt k⟩, trivial⟩⟩ (fun w' hb => Sx.below hh hb) ⟨?_, ?_, ?_, trivial⟩ ⟨?_, trivial⟩ (by decide) ?_
        ·
         refine StepM.of rfl (fun f w' hb hp K hK => ?_)
         have HSB := HS
         replace HS := Lib.hid (HS.out.below hb)
         simp only [fillA, fillT, List.foldl_cons, List.foldl_nil, Act.put, nb4, nb5, nb6]
         have a58 := HS.out.p 0 _ _ rfl
         go_simp
         go_wp2_with (go_at_call 28; (with_reducible refine (only_any x0 _ _ a58).mono ?_); rintro e w57 ⟨v57, rfl, ⟨z57a, z57b, rfl, hv57, hw57⟩, hb57⟩)
         exact hK.out _ _ (.agg #[.bool z57a.b, .slice z57a.a z57a.n z57a.c, .slice z57a.d z57a.m z57a.e, .bool z57b.b, .slice z57b.a z57b.n z57b.c, .slice z57b.d z57b.m z57b.e]) (by simp only [fillA, fillT, List.foldl_cons, List.foldl_nil, Act.put, nb4, nb5, nb6, nb1, nb2, nb3]) ⟨z57a, z57b, rfl, hv57, hw57⟩ (fun h => absurd h (by decide)) hb57
        ·
         refine StepM.of rfl (fun f w' hb hp K hK => ?_)
         have HSB := HS
         replace HS := Lib.hid (HS.out.below hb)
         simp only [fillA, fillT, List.foldl_cons, List.foldl_nil, Act.put, nb4, nb5, nb6]
         go_simp
         exact hK.out _ _ (.pointer (some ⟨w'.heap.size, 0, none⟩)) (by simp only [fillA, fillT, List.foldl_cons, List.foldl_nil, Act.put, nb4, nb5, nb6, nb1, nb2, nb3]) ⟨_, rfl, hb.size, blk_new _ _ _⟩ (fun _ => rfl) (below1 w' _)
        ·
         refine StepM.of rfl (fun f w' hb hp K hK => ?_)
         have HSB := HS
         replace HS := Lib.hid (HS.out.below hb)
         simp only [fillA, fillT, List.foldl_cons, List.foldl_nil, Act.put, nb4, nb5, nb6]
         go_simp
         exact hK.out _ _ (.pointer (some ⟨w'.heap.size, 0, none⟩)) (by simp only [fillA, fillT, List.foldl_cons, List.foldl_nil, Act.put, nb4, nb5, nb6, nb1, nb2, nb3]) ⟨_, rfl, hb.size, blk_new _ _ _⟩ (fun _ => rfl) (below1 w' _)
        ·
         refine EagerM.of rfl (fun f w' hb hp => ?_)
         obtain ⟨z57a, z57b, e3, h3_0, h3_1⟩ : ∃ z57a z57b : R3, f 115 = .agg #[.bool z57a.b, .slice z57a.a z57a.n z57a.c, .slice z57a.d z57a.m z57a.e, .bool z57b.b, .slice z57b.a z57b.n z57b.c, .slice z57b.d z57b.m z57b.e] ∧ Fr true w' z57a.val x0 ∧ Fr true w' z57b.val x0 := hp 3 (by decide)
         refine ⟨.agg #[.bool z57a.b, .slice z57a.a z57a.n z57a.c, .slice z57a.d z57a.m z57a.e, .bool z57b.b, .slice z57b.a z57b.n z57b.c, .slice z57b.d z57b.m z57b.e], ⟨z57a, z57b, rfl, h3_0, h3_1⟩, by first | rfl | kernel_rfl, fun u => ?_⟩
         simp only [fillA, fillT, List.foldl_cons, List.foldl_nil, Act.put, nb4, nb5, nb6, e3]
         go_simp <;> with_reducible rfl
        ·
         intro f wr53 hb hp hd
         obtain ⟨z57a, z57b, e3, h3_0, h3_1⟩ : ∃ z57a z57b : R3, f 115 = .agg #[.bool z57a.b, .slice z57a.a z57a.n z57a.c, .slice z57a.d z57a.m z57a.e, .bool z57b.b, .slice z57b.a z57b.n z57b.c, .slice z57b.d z57b.m z57b.e] ∧ Fr true wr53 z57a.val x0 ∧ Fr true wr53 z57b.val x0 := hp 3 (by decide)
         obtain ⟨z57aq4, z57bq4, e4, h4_0, h4_1⟩ : ∃ z57aq4 z57bq4 : R3, f 116 = .agg #[.bool z57aq4.b, .slice z57aq4.a z57aq4.n z57aq4.c, .slice z57aq4.d z57aq4.m z57aq4.e, .bool z57bq4.b, .slice z57bq4.a z57bq4.n z57bq4.c, .slice z57bq4.d z57bq4.m z57bq4.e] ∧ Fr true wr53 z57aq4.val x0 ∧ Fr true wr53 z57bq4.val x0 := hp 4 (by decide)
         obtain ⟨Br53_5, e5, g5, k5⟩ : ∃ Br53_5 : Nat, f 21 = .pointer (some ⟨Br53_5, 0, none⟩) ∧ W52.drew.heap.size ≤ Br53_5 ∧ wr53.heap[Br53_5]? = some (.cells #[.bool false, .slice none 0 0, .slice none 0 0, .bool false, .slice none 0 0, .slice none 0 0] 90 (0, 0)) := hp 5 (by decide)
         obtain ⟨Br53_6, e6, g6, k6⟩ : ∃ Br53_6 : Nat, f 22 = .pointer (some ⟨Br53_6, 0, none⟩) ∧ W52.drew.heap.size ≤ Br53_6 ∧ wr53.heap[Br53_6]? = some (.cells #[.bool false, .slice none 0 0, .slice none 0 0, .bool false, .slice none 0 0, .slice none 0 0] 90 (0, 0)) := hp 6 (by decide)
         have hd5_6 : Br53_5 ≠ Br53_6 := fun h => hd 5 6 (by decide) (by decide) (by decide) (by decide) (by decide) (by show f 21 = f 22; rw [e5, e6, h])
         replace hh := Sx.below hh hb
         have hlt := HS.out.lt
         replace HS := Lib.hid (HS.out.below hb)
         have hltg := HG.out.row
         replace HG := Lib.hid (HG.out.below hb)
         replace HS := Lib.hid (HS.out.addP h3_0)
         replace HS := Lib.hid (HS.out.addP h3_1)
         replace HS := Lib.hid (HS.out.addP h4_0)
         replace HS := Lib.hid (HS.out.addP h4_1)
         have hge5 : w.heap.size ≤ Br53_5 := Nat.le_trans HSW.out g5
         have hne5 : ∀ b, b ∈ ([(Br37_15, y483q11q13.arr, 42), (Br37_14, arr6 y481q11q12 y482q11q12, 86), (wr35.heap.size, #[.int .u8 (b0 : Int), .int .u8 (b1 : Int)], 84), (Br11_23, #[.bool z31q22.b, .slice z31q22.a z31q22.n z31q22.c, .slice z31q22.d z31q22.m z31q22.e, .bool z32q22.b, .slice z32q22.a z32q22.n z32q22.c, .slice z32q22.d z32q22.m z32q22.e, .bool z33q22.b, .slice z33q22.a z33q22.n z33q22.c, .slice z33q22.d z33q22.m z33q22.e, .int .i64 (m : Int)], 82), (w.heap.size, #[.int .u8 (n0 : Int), .int .u8 (n1 : Int), .int .u8 (n2 : Int), .int .u8 (n3 : Int)], 79)] : List Bx) → b.1 ≠ Br53_5 := by
          intro b hb
          simp only [List.mem_cons, List.not_mem_nil, or_false] at hb
          rcases hb with rfl | rfl | rfl | rfl | rfl
          ·
           have := hlt _ (List.mem_iff_getElem?.2 ⟨0, rfl⟩); dsimp only at this ⊢; omega
          ·
           have := hlt _ (List.mem_iff_getElem?.2 ⟨1, rfl⟩); dsimp only at this ⊢; omega
          ·
           have := hlt _ (List.mem_iff_getElem?.2 ⟨2, rfl⟩); dsimp only at this ⊢; omega
          ·
           have := hlt _ (List.mem_iff_getElem?.2 ⟨3, rfl⟩); dsimp only at this ⊢; omega
          ·
           have := hlt _ (List.mem_iff_getElem?.2 ⟨4, rfl⟩); dsimp only at this ⊢; omega
         replace HS := Lib.hid (HS.out.addBox k5 hge5 (by rfl) hne5)
         replace HG := Lib.hid (HG.out.box (B := Br53_5) (T := 90) (cs := #[.bool false, .slice none 0 0, .slice none 0 0, .bool false, .slice none 0 0, .slice none 0 0]) (fun g hg hc => by obtain ⟨n, hn⟩ := List.mem_iff_getElem?.1 hg; have := ((hltg n g hn).lt hc).1; have := g5; omega))
         have hge6 : w.heap.size ≤ Br53_6 := Nat.le_trans HSW.out g6
         have hne6 : ∀ b, b ∈ ([(Br53_5, #[.bool false, .slice none 0 0, .slice none 0 0, .bool false, .slice none 0 0, .slice none 0 0], 90), (Br37_15, y483q11q13.arr, 42), (Br37_14, arr6 y481q11q12 y482q11q12, 86), (wr35.heap.size, #[.int .u8 (b0 : Int), .int .u8 (b1 : Int)], 84), (Br11_23, #[.bool z31q22.b, .slice z31q22.a z31q22.n z31q22.c, .slice z31q22.d z31q22.m z31q22.e, .bool z32q22.b, .slice z32q22.a z32q22.n z32q22.c, .slice z32q22.d z32q22.m z32q22.e, .bool z33q22.b, .slice z33q22.a z33q22.n z33q22.c, .slice z33q22.d z33q22.m z33q22.e, .int .i64 (m : Int)], 82), (w.heap.size, #[.int .u8 (n0 : Int), .int .u8 (n1 : Int), .int .u8 (n2 : Int), .int .u8 (n3 : Int)], 79)] : List Bx) → b.1 ≠ Br53_6 := by
          intro b hb
          simp only [List.mem_cons, List.not_mem_nil, or_false] at hb
          rcases hb with rfl | rfl | rfl | rfl | rfl | rfl
          ·
           exact hd5_6
          ·
           have := hlt _ (List.mem_iff_getElem?.2 ⟨0, rfl⟩); dsimp only at this ⊢; omega
          ·
           have := hlt _ (List.mem_iff_getElem?.2 ⟨1, rfl⟩); dsimp only at this ⊢; omega
          ·
           have := hlt _ (List.mem_iff_getElem?.2 ⟨2, rfl⟩); dsimp only at this ⊢; omega
          ·
           have := hlt _ (List.mem_iff_getElem?.2 ⟨3, rfl⟩); dsimp only at this ⊢; omega
          ·
           have := hlt _ (List.mem_iff_getElem?.2 ⟨4, rfl⟩); dsimp only at this ⊢; omega
         replace HS := Lib.hid (HS.out.addBox k6 hge6 (by rfl) hne6)
         replace HG := Lib.hid (HG.out.box (B := Br53_6) (T := 90) (cs := #[.bool false, .slice none 0 0, .slice none 0 0, .bool false, .slice none 0 0, .slice none 0 0]) (fun g hg hc => by obtain ⟨n, hn⟩ := List.mem_iff_getElem?.1 hg; have := ((hltg n g hn).lt hc).1; have := g6; omega))
         simp only [fillA, fillT, List.foldl_cons, List.foldl_nil, Act.put, nb4, nb5, nb6, e3, e4, e5, e6]
         clear hp hd hb hlt e3 e4 e5 e6 hltg
         refine rdA (i := 7) rfl (fun K hK => ?_)
         have b5e := (HS.out.at 1 _ _ _ rfl)
         have b5c0 := blk_cell b5e 0 (.bool false) rfl
         have b5c1 := blk_cell b5e 1 (.slice none 0 0) rfl
         have b5c2 := blk_cell b5e 2 (.slice none 0 0) rfl
         have b5c3 := blk_cell b5e 3 (.bool false) rfl
         have b5c4 := blk_cell b5e 4 (.slice none 0 0) rfl
         have b5c5 := blk_cell b5e 5 (.slice none 0 0) rfl
         have b5f0 := blk_frozen b5e 0
         have b5f1 := blk_frozen b5e 1
         have b5f2 := blk_frozen b5e 2
         have b5f3 := blk_frozen b5e 3
         have b5f4 := blk_frozen b5e 4
         have b5f5 := blk_frozen b5e 5
         have b5l := blk_lt b5e
         clear b5e
         go_simp
         refine hK.out _ _ ((((((HS.out).st_RR 1 r30 r30 y481q11q12 y482q11q12 rfl)).erase 1)).erase 0) (fun hh => ?_)
         clear hK K b5c0 b5c1 b5c2 b5c3 b5c4 b5c5 b5f0 b5f1 b5f2 b5f3 b5f4 b5f5 b5l
         try simp only [nbs, Act.put]
         generalize hW59 : ((((((wr53).setCell _ _).setCell _ _).setCell _ _).setCell _ _).setCell _ _).setCell _ _ = W59 at *
         replace HG := Lib.hid (((HG.out).st_RR (HS.out) 1 r30 r30 y481q11q12 y482q11q12 rfl).to hW59 (by (try simp only [nb5, nb6]); rfl))
         replace HS := Lib.hid (((HS.out).st_RR 1 r30 r30 y481q11q12 y482q11q12 rfl).to hW59 (by (try simp only [nb5, nb6]); rfl))
         clear hW59
         refine rdA (i := 8) rfl (fun K hK => ?_)
         have b6e := (HS.out.at 0 _ _ _ rfl)
         have b6c0 := blk_cell b6e 0 (.bool false) rfl
         have b6c1 := blk_cell b6e 1 (.slice none 0 0) rfl
         have b6c2 := blk_cell b6e 2 (.slice none 0 0) rfl
         have b6c3 := blk_cell b6e 3 (.bool false) rfl
         have b6c4 := blk_cell b6e 4 (.slice none 0 0) rfl
         have b6c5 := blk_cell b6e 5 (.slice none 0 0) rfl
         have b6f0 := blk_frozen b6e 0
         have b6f1 := blk_frozen b6e 1
         have b6f2 := blk_frozen b6e 2
         have b6f3 := blk_frozen b6e 3
         have b6f4 := blk_frozen b6e 4
         have b6f5 := blk_frozen b6e 5
         have b6l := blk_lt b6e
         clear b6e
         go_simp
         refine hK.out _ _ ((((((HS.out).st_RR 0 r30 r30 z57aq4 z57bq4 rfl)).erase 1)).erase 0) (fun hh => ?_)
         clear hK K b6c0 b6c1 b6c2 b6c3 b6c4 b6c5 b6f0 b6f1 b6f2 b6f3 b6f4 b6f5 b6l
         try simp only [nbs, Act.put]
         generalize hW60 : ((((((W59).setCell _ _).setCell _ _).setCell _ _).setCell _ _).setCell _ _).setCell _ _ = W60 at *
         replace HG := Lib.hid (((HG.out).st_RR (HS.out) 0 r30 r30 z57aq4 z57bq4 rfl).to hW60 (by (try simp only [nb5, nb6]); rfl))
         replace HS := Lib.hid (((HS.out).st_RR 0 r30 r30 z57aq4 z57bq4 rfl).to hW60 (by (try simp only [nb5, nb6]); rfl))
         clear hW60
         refine wpAnyH_done (by kernel_rfl) ?_ _
         go_wp2_with fail
         go_cut [13, 14] from 117 to 124 (fun s13 s14 wx => Hid (∃ (B61_7 : Nat) (rv61_1 : Value) (rx61_1 : List Value) (rv61_2 : Value) (rx61_2 : List Value), rv61_1 = s13 ∧ rv61_2 = s14 ∧ Hid (Sx w wx [(B61_7, arr6 y481q11q12 y482q11q12, 90), (Br53_6, arr6 z57aq4 z57bq4, 90), (Br53_5, arr6 y481q11q12 y482q11q12, 90), (Br37_15, y483q11q13.arr, 42), (Br37_14, arr6 y481q11q12 y482q11q12, 86), (wr35.heap.size, #[.int .u8 (b0 : Int), .int .u8 (b1 : Int)], 84), (Br11_23, #[.bool z31q22.b, .slice z31q22.a z31q22.n z31q22.c, .slice z31q22.d z31q22.m z31q22.e, .bool z32q22.b, .slice z32q22.a z32q22.n z32q22.c, .slice z32q22.d z32q22.m z32q22.e, .bool z33q22.b, .slice z33q22.a z33q22.n z33q22.c, .slice z33q22.d z33q22.m z33q22.e, .int .i64 (m : Int)], 82), (w.heap.size, #[.int .u8 (n0 : Int), .int .u8 (n1 : Int), .int .u8 (n2 : Int), .int .u8 (n3 : Int)], 79)] [(true, z57bq4.val, x0), (true, z57aq4.val, x0), (true, z57b.val, x0), (true, z57a.val, x0), (true, y483q11q13.val, x0), (true, y482q11q12.val, b0_), (true, y481q11q12.val, a0), (true, y483q11.val, x0), (true, y482q11.val, b0_), (true, y481q11.val, a0), (true, y483.val, x0), (true, y482.val, b0_), (true, y481.val, a0), (true, z47.val, w0), (true, z46.val, a0), (true, z33q22.val, ri), (true, z32q22.val, mo), (true, z31q22.val, le)]) ∧ Hid (GsR w wx [(B61_7, arr6 y481q11q12 y482q11q12, 90), (Br53_6, arr6 z57aq4 z57bq4, 90), (Br53_5, arr6 y481q11q12 y482q11q12, 90), (Br37_15, y483q11q13.arr, 42), (Br37_14, arr6 y481q11q12 y482q11q12, 86), (wr35.heap.size, #[.int .u8 (b0 : Int), .int .u8 (b1 : Int)], 84), (Br11_23, #[.bool z31q22.b, .slice z31q22.a z31q22.n z31q22.c, .slice z31q22.d z31q22.m z31q22.e, .bool z32q22.b, .slice z32q22.a z32q22.n z32q22.c, .slice z32q22.d z32q22.m z32q22.e, .bool z33q22.b, .slice z33q22.a z33q22.n z33q22.c, .slice z33q22.d z33q22.m z33q22.e, .int .i64 (m : Int)], 82), (w.heap.size, #[.int .u8 (n0 : Int), .int .u8 (n1 : Int), .int .u8 (n2 : Int), .int .u8 (n3 : Int)], 79)] [⟨90, true, 2, rv61_2, rx61_2, ([[a0, b0_]] ++ (lgR (lgA lg) (lgB lg) i))⟩, ⟨90, true, 2, rv61_1, rx61_1, ((lgT (lgA lg) (lgB lg) i) ++ [[a0, b0_]])⟩, ⟨42, true, 1, .slice ua al.length uc', rx, (uRow (airQ al) al.length)⟩])))
         case first =>
          refine wp_region_held_drew (S := (fun w' => Sx w w' [(Br53_6, arr6 z57aq4 z57bq4, 90), (Br53_5, arr6 y481q11q12 y482q11q12, 90), (Br37_15, y483q11q13.arr, 42), (Br37_14, arr6 y481q11q12 y482q11q12, 86), (wr35.heap.size, #[.int .u8 (b0 : Int), .int .u8 (b1 : Int)], 84), (Br11_23, #[.bool z31q22.b, .slice z31q22.a z31q22.n z31q22.c, .slice z31q22.d z31q22.m z31q22.e, .bool z32q22.b, .slice z32q22.a z32q22.n z32q22.c, .slice z32q22.d z32q22.m z32q22.e, .bool z33q22.b, .slice z33q22.a z33q22.n z33q22.c, .slice z33q22.d z33q22.m z33q22.e, .int .i64 (m : Int)], 82), (w.heap.size, #[.int .u8 (n0 : Int), .int .u8 (n1 : Int), .int .u8 (n2 : Int), .int .u8 (n3 : Int)], 79)] [])) (by kernel_rfl) ((HS.out.drew).bare) (fun hh => ?_)
          replace HS := Lib.hid HS.out.drew
          replace HG := Lib.hid (HG.out.below (Below.refl _ _).drew)
          refine tkB (i := 0) (v := ?vk63) rfl ?hk63 ?rk63
          case hk63 => intro u hSu; go_simp <;> with_reducible rfl
          try simp only [nbs, Act.put]
          refine tkB (i := 1) (v := ?vk64) rfl ?hk64 ?rk64
          case hk64 => intro u hSu; (try dsimp only at hSu); obtain ⟨qb5c0, qb5c1, qb5c2, qb5c3, qb5c4, qb5c5, _⟩ := fac6 (x := y481q11q12) (y := y482q11q12) (hSu.at 1 _ _ _ rfl); clear hSu; go_simp <;> with_reducible rfl
          try simp only [nbs, Act.put]
          refine tkB (i := 4) (v := ?vk65) rfl ?hk65 ?rk65
          case hk65 => intro u hSu; (try dsimp only at hSu); obtain ⟨qb5c0, qb5c1, qb5c2, qb5c3, qb5c4, qb5c5, _⟩ := fac6 (x := y481q11q12) (y := y482q11q12) (hSu.at 1 _ _ _ rfl); clear hSu; go_simp <;> with_reducible rfl
          try simp only [nbs, Act.put]
          refine tkB (i := 6) (v := ?vk66) rfl ?hk66 ?rk66
          case hk66 => intro u hSu; go_simp <;> with_reducible rfl
          try simp only [nbs, Act.put]
          refine wpAnyH_ready (rs := [2, 5]) (by kernel_rfl) (by simp) ?_
          refine AllReadyH.cons rfl (fun K hK => ?_) ?_
          ·
           go_simp
           refine hK.out _ _ (Sx.below hh ((Below.refl _ _).alloc (Nat.le_refl _) _)) (fun hh => ?_)
           clear hK K
           try simp only [nbs, Act.put]
           generalize hW67 : (W60.alloc (.cells _ _)).drew = W67 at *
           replace HS := Lib.hid ((HS.out.alloc (B := W60.heap.size) rfl (by rfl)).to hW67 rfl)
           replace HG := Lib.hid ((HG.out.alloc (B := W60.heap.size) rfl).to hW67 rfl)
           clear hW67
           refine wpAnyH_ready (rs := [3, 5]) (by kernel_rfl) (by simp) ?_
           refine AllReadyH.cons rfl (fun K hK => ?_) ?_
           ·
            obtain ⟨ii68, hi68, hz68, hs68, hy68⟩ := info_parts inf_cure_Tool
            have hzd68 : ∀ u ∈ (Value.agg #[.bool false, .slice none 0 0, .slice none 0 0, .bool false, .slice none 0 0, .slice none 0 0]).cells.toList, noDig u := by
             intro u hu
             have hu : u ∈ [.bool false, .slice none 0 0, .slice none 0 0, .bool false, .slice none 0 0, .slice none 0 0] := hu
             simp only [List.mem_cons, List.not_mem_nil, or_false] at hu
             rcases hu with rfl | rfl | rfl | rfl | rfl | rfl
             all_goals first | exact noDig_bool _ | exact noDig_slice _ _ _
            refine step_append_lrow _ rfl (.tmp 117) (.tmp 119) 83 rfl w.heap.size 90 ii68 _ 6 112 Tryz.underlying83 hi68 hz68 hs68 hy68 rfl (by decide) hzd68 _ _ _ rfl (HG.out.row 1 _ rfl) ⟨W60.heap.size, 0, none⟩ 1 1 [.bool y481q11q12.b, .slice y481q11q12.a y481q11q12.n y481q11q12.c, .slice y481q11q12.d y481q11q12.m y481q11q12.e, .bool y482q11q12.b, .slice y482q11q12.a y482q11q12.n y482q11q12.c, .slice y482q11q12.d y482q11q12.m y482q11q12.e] rfl rfl (cells_blk (HS.out.at 0 _ _ _ rfl)) (by simp [Value.oneCell']) (by intro u hu; simp only [List.mem_cons, List.not_mem_nil, or_false] at hu; rcases hu with rfl | rfl | rfl | rfl | rfl | rfl; all_goals first | exact noDig_bool _ | exact noDig_slice _ _ _) (by omega) (by dsimp only; unfold maxLen; omega) (by dsimp only; omega) HS.out.bel.size ?_
            intro g68 cap68 w68 hL68 hgr68 hat68
            obtain ⟨hs68', hg68'⟩ := Sx.append HS.out HG.out 1 rfl [y481q11q12, y482q11q12] [a0, b0_] rfl (fun j x hx => by match j, hx with
              | 0, hx => (simp at hx; subst hx; exact (HS.out.p 6 _ _ rfl))
              | 1, hx => (simp at hx; subst hx; exact (HS.out.p 5 _ _ rfl))
              | j + 2, hx => simp at hx) hL68 hgr68 (by intro c hc; simp [Value.ownBlock] at hc; subst hc; first | exact hat68 | simpa using hat68)
            replace HS : Hid (Sx w w68 [(W60.heap.size, arr6 y481q11q12 y482q11q12, 90), (Br53_6, arr6 z57aq4 z57bq4, 90), (Br53_5, arr6 y481q11q12 y482q11q12, 90), (Br37_15, y483q11q13.arr, 42), (Br37_14, arr6 y481q11q12 y482q11q12, 86), (wr35.heap.size, #[.int .u8 (b0 : Int), .int .u8 (b1 : Int)], 84), (Br11_23, #[.bool z31q22.b, .slice z31q22.a z31q22.n z31q22.c, .slice z31q22.d z31q22.m z31q22.e, .bool z32q22.b, .slice z32q22.a z32q22.n z32q22.c, .slice z32q22.d z32q22.m z32q22.e, .bool z33q22.b, .slice z33q22.a z33q22.n z33q22.c, .slice z33q22.d z33q22.m z33q22.e, .int .i64 (m : Int)], 82), (w.heap.size, #[.int .u8 (n0 : Int), .int .u8 (n1 : Int), .int .u8 (n2 : Int), .int .u8 (n3 : Int)], 79)] [(true, z57bq4.val, x0), (true, z57aq4.val, x0), (true, z57b.val, x0), (true, z57a.val, x0), (true, y483q11q13.val, x0), (true, y482q11q12.val, b0_), (true, y481q11q12.val, a0), (true, y483q11.val, x0), (true, y482q11.val, b0_), (true, y481q11.val, a0), (true, y483.val, x0), (true, y482.val, b0_), (true, y481.val, a0), (true, z47.val, w0), (true, z46.val, a0), (true, z33q22.val, ri), (true, z32q22.val, mo), (true, z31q22.val, le)]) := hs68'
            replace HG : Hid (GsR w w68 [(W60.heap.size, arr6 y481q11q12 y482q11q12, 90), (Br53_6, arr6 z57aq4 z57bq4, 90), (Br53_5, arr6 y481q11q12 y482q11q12, 90), (Br37_15, y483q11q13.arr, 42), (Br37_14, arr6 y481q11q12 y482q11q12, 86), (wr35.heap.size, #[.int .u8 (b0 : Int), .int .u8 (b1 : Int)], 84), (Br11_23, #[.bool z31q22.b, .slice z31q22.a z31q22.n z31q22.c, .slice z31q22.d z31q22.m z31q22.e, .bool z32q22.b, .slice z32q22.a z32q22.n z32q22.c, .slice z32q22.d z32q22.m z32q22.e, .bool z33q22.b, .slice z33q22.a z33q22.n z33q22.c, .slice z33q22.d z33q22.m z33q22.e, .int .i64 (m : Int)], 82), (w.heap.size, #[.int .u8 (n0 : Int), .int .u8 (n1 : Int), .int .u8 (n2 : Int), .int .u8 (n3 : Int)], 79)] [⟨90, true, 2, sv, sx, (lgR (lgA lg) (lgB lg) i)⟩, ⟨90, true, 2, (.slice (some ⟨g68, 0, none⟩) ((lgT (lgA lg) (lgB lg) i).length + 1) cap68), (tx ++ cellsR [y481q11q12, y482q11q12]), ((lgT (lgA lg) (lgB lg) i) ++ [[a0, b0_]])⟩, ⟨42, true, 1, .slice ua al.length uc', rx, (uRow (airQ al) al.length)⟩]) := hg68'
            clear hs68' hg68' hL68 hgr68 hat68 hzd68 hi68 hz68 hs68 hy68
            refine hK.out _ _ ((HS.out).erase 0) (fun hh => ?_)
            clear hK K
            try simp only [nbs, Act.put]
            refine rdA (i := 5) rfl (fun K hK => ?_)
            go_simp
            refine hK.out _ _ (Sx.below hh ((Below.refl _ _).alloc (Nat.le_refl _) _)) (fun hh => ?_)
            clear hK K
            try simp only [nbs, Act.put]
            generalize hW69 : (w68).alloc (.cells _ _) = W69 at *
            replace HS := Lib.hid ((HS.out.alloc (B := w68.heap.size) rfl (by rfl)).to hW69 rfl)
            replace HG := Lib.hid ((HG.out.alloc (B := w68.heap.size) rfl).to hW69 rfl)
            clear hW69
            refine rdA (i := 7) rfl (fun K hK => ?_)
            obtain ⟨ii70, hi70, hz70, hs70, hy70⟩ := info_parts inf_cure_Tool
            have hzd70 : ∀ u ∈ (Value.agg #[.bool false, .slice none 0 0, .slice none 0 0, .bool false, .slice none 0 0, .slice none 0 0]).cells.toList, noDig u := by
             intro u hu
             have hu : u ∈ [.bool false, .slice none 0 0, .slice none 0 0, .bool false, .slice none 0 0, .slice none 0 0] := hu
             simp only [List.mem_cons, List.not_mem_nil, or_false] at hu
             rcases hu with rfl | rfl | rfl | rfl | rfl | rfl
             all_goals first | exact noDig_bool _ | exact noDig_slice _ _ _
            have hnd70 : ∀ u ∈ (#[.bool y481q11q12.b, .slice y481q11q12.a y481q11q12.n y481q11q12.c, .slice y481q11q12.d y481q11q12.m y481q11q12.e, .bool y482q11q12.b, .slice y482q11q12.a y482q11q12.n y482q11q12.c, .slice y482q11q12.d y482q11q12.m y482q11q12.e] : Array Value).toList, noDig u := by
             intro u hu
             have hu : u ∈ [.bool y481q11q12.b, .slice y481q11q12.a y481q11q12.n y481q11q12.c, .slice y481q11q12.d y481q11q12.m y481q11q12.e, .bool y482q11q12.b, .slice y482q11q12.a y482q11q12.n y482q11q12.c, .slice y482q11q12.d y482q11q12.m y482q11q12.e] := hu
             simp only [List.mem_cons, List.not_mem_nil, or_false] at hu
             rcases hu with rfl | rfl | rfl | rfl | rfl | rfl
             all_goals first | exact noDig_bool _ | exact noDig_slice _ _ _
            have hLB70 := LRow.ofBlock (base := w.heap.size) (size := 6) (n := 1) (HS.out.at 0 _ _ _ rfl) (HS.out.box 0 _ rfl).2.1 (by unfold maxLen; omega) rfl hnd70
            obtain ⟨sa70, sc70, hsv70, hsrc70⟩ := (HG.out.row 0 _ rfl).src
            dsimp only at hsv70 hsrc70
            subst hsv70
            have hxl70 := (HG.out.mean 0 _ rfl).1
            have hpl70 := (HG.out.mean 0 _ rfl).plain
            have hll70 := lgR_len (lgA lg) (lgB lg) i
            dsimp only at hxl70 hpl70
            refine step_append_lrow0 _ rfl (.tmp 122) (.tmp 123) 83 rfl w.heap.size 90 ii70 _ 6 112 Tryz.underlying83 hi70 hz70 hs70 hy70 rfl (by decide) hzd70 _ 1 _ rfl hLB70 sa70 ((lgR (lgA lg) (lgB lg) i)).length sc70 sx rfl hxl70 hsrc70 (fun u hu => (hpl70 u hu).1) (fun u hu => (hpl70 u hu).2) (by rw [hll70]; unfold maxLen; omega) (by rw [hll70]; omega) HS.out.bel.size ?_
            intro v70 w70 hL70 hgr70 hat70
            have hL70' : LRow w70 w.heap.size 90 (3 * 2) v70 (1 + ((lgR (lgA lg) (lgB lg) i)).length) (cellsR [y481q11q12, y482q11q12] ++ sx) := hL70
            obtain ⟨hs70', hg70'⟩ := Sx.turn HS.out HG.out 0 rfl hnd70 0 rfl [y481q11q12, y482q11q12] [a0, b0_] rfl (fun j x hx => by match j, hx with
              | 0, hx => (simp at hx; subst hx; exact (HS.out.p 6 _ _ rfl))
              | 1, hx => (simp at hx; subst hx; exact (HS.out.p 5 _ _ rfl))
              | j + 2, hx => simp at hx) hL70' hgr70 hat70
            replace HS : Hid (Sx w w70 [(W60.heap.size, arr6 y481q11q12 y482q11q12, 90), (Br53_6, arr6 z57aq4 z57bq4, 90), (Br53_5, arr6 y481q11q12 y482q11q12, 90), (Br37_15, y483q11q13.arr, 42), (Br37_14, arr6 y481q11q12 y482q11q12, 86), (wr35.heap.size, #[.int .u8 (b0 : Int), .int .u8 (b1 : Int)], 84), (Br11_23, #[.bool z31q22.b, .slice z31q22.a z31q22.n z31q22.c, .slice z31q22.d z31q22.m z31q22.e, .bool z32q22.b, .slice z32q22.a z32q22.n z32q22.c, .slice z32q22.d z32q22.m z32q22.e, .bool z33q22.b, .slice z33q22.a z33q22.n z33q22.c, .slice z33q22.d z33q22.m z33q22.e, .int .i64 (m : Int)], 82), (w.heap.size, #[.int .u8 (n0 : Int), .int .u8 (n1 : Int), .int .u8 (n2 : Int), .int .u8 (n3 : Int)], 79)] [(true, z57bq4.val, x0), (true, z57aq4.val, x0), (true, z57b.val, x0), (true, z57a.val, x0), (true, y483q11q13.val, x0), (true, y482q11q12.val, b0_), (true, y481q11q12.val, a0), (true, y483q11.val, x0), (true, y482q11.val, b0_), (true, y481q11.val, a0), (true, y483.val, x0), (true, y482.val, b0_), (true, y481.val, a0), (true, z47.val, w0), (true, z46.val, a0), (true, z33q22.val, ri), (true, z32q22.val, mo), (true, z31q22.val, le)]) := hs70'
            replace HG : Hid (GsR w w70 [(W60.heap.size, arr6 y481q11q12 y482q11q12, 90), (Br53_6, arr6 z57aq4 z57bq4, 90), (Br53_5, arr6 y481q11q12 y482q11q12, 90), (Br37_15, y483q11q13.arr, 42), (Br37_14, arr6 y481q11q12 y482q11q12, 86), (wr35.heap.size, #[.int .u8 (b0 : Int), .int .u8 (b1 : Int)], 84), (Br11_23, #[.bool z31q22.b, .slice z31q22.a z31q22.n z31q22.c, .slice z31q22.d z31q22.m z31q22.e, .bool z32q22.b, .slice z32q22.a z32q22.n z32q22.c, .slice z32q22.d z32q22.m z32q22.e, .bool z33q22.b, .slice z33q22.a z33q22.n z33q22.c, .slice z33q22.d z33q22.m z33q22.e, .int .i64 (m : Int)], 82), (w.heap.size, #[.int .u8 (n0 : Int), .int .u8 (n1 : Int), .int .u8 (n2 : Int), .int .u8 (n3 : Int)], 79)] [⟨90, true, 2, v70, (cellsR [y481q11q12, y482q11q12] ++ sx), ([[a0, b0_]] ++ (lgR (lgA lg) (lgB lg) i))⟩, ⟨90, true, 2, (.slice (some ⟨g68, 0, none⟩) ((lgT (lgA lg) (lgB lg) i).length + 1) cap68), (tx ++ cellsR [y481q11q12, y482q11q12]), ((lgT (lgA lg) (lgB lg) i) ++ [[a0, b0_]])⟩, ⟨42, true, 1, .slice ua al.length uc', rx, (uRow (airQ al) al.length)⟩]) := hg70'
            clear hs70' hg70' hL70 hL70' hgr70 hat70 hzd70 hi70 hz70 hs70 hy70 hLB70 hsrc70 hxl70 hpl70 hll70 hnd70
            refine hK.out _ _ ((HS.out).erase 0) (fun hh => ?_)
            clear hK K
            try simp only [nbs, Act.put]
            refine tkB (i := 8) (v := ?vk71) rfl ?hk71 ?rk71
            case hk71 => intro u hSu; go_simp <;> with_reducible rfl
            try simp only [nbs, Act.put]
            refine tkB (i := 9) (v := ?vk72) rfl ?hk72 ?rk72
            case hk72 => intro u hSu; go_simp <;> with_reducible rfl
            try simp only [nbs, Act.put]
            refine wpAnyH_done (by kernel_rfl) ?_ _
            go_wp2_with fail
            go_meet
            exact Lib.hid ⟨W60.heap.size, (.slice (some ⟨g68, 0, none⟩) ((lgT (lgA lg) (lgB lg) i).length + 1) cap68), (tx ++ cellsR [y481q11q12, y482q11q12]), v70, (cellsR [y481q11q12, y482q11q12] ++ sx), by first | rfl | rw [hln] | rw [hlnT], by first | rfl | rw [hln] | rw [hlnT], Lib.hid (((((((((((((((((((HS.out.bare).addP (HS.out.p 17 _ _ rfl)).addP (HS.out.p 16 _ _ rfl)).addP (HS.out.p 15 _ _ rfl)).addP (HS.out.p 14 _ _ rfl)).addP (HS.out.p 13 _ _ rfl)).addP (HS.out.p 12 _ _ rfl)).addP (HS.out.p 11 _ _ rfl)).addP (HS.out.p 10 _ _ rfl)).addP (HS.out.p 9 _ _ rfl)).addP (HS.out.p 8 _ _ rfl)).addP (HS.out.p 7 _ _ rfl)).addP (HS.out.p 6 _ _ rfl)).addP (HS.out.p 5 _ _ rfl)).addP (HS.out.p 4 _ _ rfl)).addP (HS.out.p 3 _ _ rfl)).addP (HS.out.p 2 _ _ rfl)).addP (HS.out.p 1 _ _ rfl)).addP (HS.out.p 0 _ _ rfl)), HG⟩
           refine AllReadyH.cons rfl (fun K hK => ?_) AllReadyH.nil
           go_simp
           refine hK.out _ _ (Sx.below hh ((Below.refl _ _).alloc (Nat.le_refl _) _)) (fun hh => ?_)
           clear hK K
           try simp only [nbs, Act.put]
           generalize hW73 : (W67).alloc (.cells _ _) = W73 at *
           replace HS := Lib.hid ((HS.out.alloc (B := W67.heap.size) rfl (by rfl)).to hW73 rfl)
           replace HG := Lib.hid ((HG.out.alloc (B := W67.heap.size) rfl).to hW73 rfl)
           clear hW73
           refine rdA (i := 3) rfl (fun K hK => ?_)
           obtain ⟨ii74, hi74, hz74, hs74, hy74⟩ := info_parts inf_cure_Tool
           have hzd74 : ∀ u ∈ (Value.agg #[.bool false, .slice none 0 0, .slice none 0 0, .bool false, .slice none 0 0, .slice none 0 0]).cells.toList, noDig u := by
            intro u hu
            have hu : u ∈ [.bool false, .slice none 0 0, .slice none 0 0, .bool false, .slice none 0 0, .slice none 0 0] := hu
            simp only [List.mem_cons, List.not_mem_nil, or_false] at hu
            rcases hu with rfl | rfl | rfl | rfl | rfl | rfl
            all_goals first | exact noDig_bool _ | exact noDig_slice _ _ _
           refine step_append_lrow _ rfl (.tmp 117) (.tmp 119) 83 rfl w.heap.size 90 ii74 _ 6 112 Tryz.underlying83 hi74 hz74 hs74 hy74 rfl (by decide) hzd74 _ _ _ rfl (HG.out.row 1 _ rfl) ⟨W60.heap.size, 0, none⟩ 1 1 [.bool y481q11q12.b, .slice y481q11q12.a y481q11q12.n y481q11q12.c, .slice y481q11q12.d y481q11q12.m y481q11q12.e, .bool y482q11q12.b, .slice y482q11q12.a y482q11q12.n y482q11q12.c, .slice y482q11q12.d y482q11q12.m y482q11q12.e] rfl rfl (cells_blk (HS.out.at 1 _ _ _ rfl)) (by simp [Value.oneCell']) (by intro u hu; simp only [List.mem_cons, List.not_mem_nil, or_false] at hu; rcases hu with rfl | rfl | rfl | rfl | rfl | rfl; all_goals first | exact noDig_bool _ | exact noDig_slice _ _ _) (by omega) (by dsimp only; unfold maxLen; omega) (by dsimp only; omega) HS.out.bel.size ?_
           intro g74 cap74 w74 hL74 hgr74 hat74
           obtain ⟨hs74', hg74'⟩ := Sx.append HS.out HG.out 1 rfl [y481q11q12, y482q11q12] [a0, b0_] rfl (fun j x hx => by match j, hx with
             | 0, hx => (simp at hx; subst hx; exact (HS.out.p 6 _ _ rfl))
             | 1, hx => (simp at hx; subst hx; exact (HS.out.p 5 _ _ rfl))
             | j + 2, hx => simp at hx) hL74 hgr74 (by intro c hc; simp [Value.ownBlock] at hc; subst hc; first | exact hat74 | simpa using hat74)
           replace HS : Hid (Sx w w74 [(W67.heap.size, arr6 y481q11q12 y482q11q12, 90), (W60.heap.size, arr6 y481q11q12 y482q11q12, 90), (Br53_6, arr6 z57aq4 z57bq4, 90), (Br53_5, arr6 y481q11q12 y482q11q12, 90), (Br37_15, y483q11q13.arr, 42), (Br37_14, arr6 y481q11q12 y482q11q12, 86), (wr35.heap.size, #[.int .u8 (b0 : Int), .int .u8 (b1 : Int)], 84), (Br11_23, #[.bool z31q22.b, .slice z31q22.a z31q22.n z31q22.c, .slice z31q22.d z31q22.m z31q22.e, .bool z32q22.b, .slice z32q22.a z32q22.n z32q22.c, .slice z32q22.d z32q22.m z32q22.e, .bool z33q22.b, .slice z33q22.a z33q22.n z33q22.c, .slice z33q22.d z33q22.m z33q22.e, .int .i64 (m : Int)], 82), (w.heap.size, #[.int .u8 (n0 : Int), .int .u8 (n1 : Int), .int .u8 (n2 : Int), .int .u8 (n3 : Int)], 79)] [(true, z57bq4.val, x0), (true, z57aq4.val, x0), (true, z57b.val, x0), (true, z57a.val, x0), (true, y483q11q13.val, x0), (true, y482q11q12.val, b0_), (true, y481q11q12.val, a0), (true, y483q11.val, x0), (true, y482q11.val, b0_), (true, y481q11.val, a0), (true, y483.val, x0), (true, y482.val, b0_), (true, y481.val, a0), (true, z47.val, w0), (true, z46.val, a0), (true, z33q22.val, ri), (true, z32q22.val, mo), (true, z31q22.val, le)]) := hs74'
           replace HG : Hid (GsR w w74 [(W67.heap.size, arr6 y481q11q12 y482q11q12, 90), (W60.heap.size, arr6 y481q11q12 y482q11q12, 90), (Br53_6, arr6 z57aq4 z57bq4, 90), (Br53_5, arr6 y481q11q12 y482q11q12, 90), (Br37_15, y483q11q13.arr, 42), (Br37_14, arr6 y481q11q12 y482q11q12, 86), (wr35.heap.size, #[.int .u8 (b0 : Int), .int .u8 (b1 : Int)], 84), (Br11_23, #[.bool z31q22.b, .slice z31q22.a z31q22.n z31q22.c, .slice z31q22.d z31q22.m z31q22.e, .bool z32q22.b, .slice z32q22.a z32q22.n z32q22.c, .slice z32q22.d z32q22.m z32q22.e, .bool z33q22.b, .slice z33q22.a z33q22.n z33q22.c, .slice z33q22.d z33q22.m z33q22.e, .int .i64 (m : Int)], 82), (w.heap.size, #[.int .u8 (n0 : Int), .int .u8 (n1 : Int), .int .u8 (n2 : Int), .int .u8 (n3 : Int)], 79)] [⟨90, true, 2, sv, sx, (lgR (lgA lg) (lgB lg) i)⟩, ⟨90, true, 2, (.slice (some ⟨g74, 0, none⟩) ((lgT (lgA lg) (lgB lg) i).length + 1) cap74), (tx ++ cellsR [y481q11q12, y482q11q12]), ((lgT (lgA lg) (lgB lg) i) ++ [[a0, b0_]])⟩, ⟨42, true, 1, .slice ua al.length uc', rx, (uRow (airQ al) al.length)⟩]) := hg74'
           clear hs74' hg74' hL74 hgr74 hat74 hzd74 hi74 hz74 hs74 hy74
           refine hK.out _ _ (((HS.out).erase 1).erase 0) (fun hh => ?_)
           clear hK K
           try simp only [nbs, Act.put]
           refine rdA (i := 7) rfl (fun K hK => ?_)
           obtain ⟨ii75, hi75, hz75, hs75, hy75⟩ := info_parts inf_cure_Tool
           have hzd75 : ∀ u ∈ (Value.agg #[.bool false, .slice none 0 0, .slice none 0 0, .bool false, .slice none 0 0, .slice none 0 0]).cells.toList, noDig u := by
            intro u hu
            have hu : u ∈ [.bool false, .slice none 0 0, .slice none 0 0, .bool false, .slice none 0 0, .slice none 0 0] := hu
            simp only [List.mem_cons, List.not_mem_nil, or_false] at hu
            rcases hu with rfl | rfl | rfl | rfl | rfl | rfl
            all_goals first | exact noDig_bool _ | exact noDig_slice _ _ _
           have hnd75 : ∀ u ∈ (#[.bool y481q11q12.b, .slice y481q11q12.a y481q11q12.n y481q11q12.c, .slice y481q11q12.d y481q11q12.m y481q11q12.e, .bool y482q11q12.b, .slice y482q11q12.a y482q11q12.n y482q11q12.c, .slice y482q11q12.d y482q11q12.m y482q11q12.e] : Array Value).toList, noDig u := by
            intro u hu
            have hu : u ∈ [.bool y481q11q12.b, .slice y481q11q12.a y481q11q12.n y481q11q12.c, .slice y481q11q12.d y481q11q12.m y481q11q12.e, .bool y482q11q12.b, .slice y482q11q12.a y482q11q12.n y482q11q12.c, .slice y482q11q12.d y482q11q12.m y482q11q12.e] := hu
            simp only [List.mem_cons, List.not_mem_nil, or_false] at hu
            rcases hu with rfl | rfl | rfl | rfl | rfl | rfl
            all_goals first | exact noDig_bool _ | exact noDig_slice _ _ _
           have hLB75 := LRow.ofBlock (base := w.heap.size) (size := 6) (n := 1) (HS.out.at 0 _ _ _ rfl) (HS.out.box 0 _ rfl).2.1 (by unfold maxLen; omega) rfl hnd75
           obtain ⟨sa75, sc75, hsv75, hsrc75⟩ := (HG.out.row 0 _ rfl).src
           dsimp only at hsv75 hsrc75
           subst hsv75
           have hxl75 := (HG.out.mean 0 _ rfl).1
           have hpl75 := (HG.out.mean 0 _ rfl).plain
           have hll75 := lgR_len (lgA lg) (lgB lg) i
           dsimp only at hxl75 hpl75
           refine step_append_lrow0 _ rfl (.tmp 122) (.tmp 123) 83 rfl w.heap.size 90 ii75 _ 6 112 Tryz.underlying83 hi75 hz75 hs75 hy75 rfl (by decide) hzd75 _ 1 _ rfl hLB75 sa75 ((lgR (lgA lg) (lgB lg) i)).length sc75 sx rfl hxl75 hsrc75 (fun u hu => (hpl75 u hu).1) (fun u hu => (hpl75 u hu).2) (by rw [hll75]; unfold maxLen; omega) (by rw [hll75]; omega) HS.out.bel.size ?_
           intro v75 w75 hL75 hgr75 hat75
           have hL75' : LRow w75 w.heap.size 90 (3 * 2) v75 (1 + ((lgR (lgA lg) (lgB lg) i)).length) (cellsR [y481q11q12, y482q11q12] ++ sx) := hL75
           obtain ⟨hs75', hg75'⟩ := Sx.turn HS.out HG.out 0 rfl hnd75 0 rfl [y481q11q12, y482q11q12] [a0, b0_] rfl (fun j x hx => by match j, hx with
             | 0, hx => (simp at hx; subst hx; exact (HS.out.p 6 _ _ rfl))
             | 1, hx => (simp at hx; subst hx; exact (HS.out.p 5 _ _ rfl))
             | j + 2, hx => simp at hx) hL75' hgr75 hat75
           replace HS : Hid (Sx w w75 [(W60.heap.size, arr6 y481q11q12 y482q11q12, 90), (Br53_6, arr6 z57aq4 z57bq4, 90), (Br53_5, arr6 y481q11q12 y482q11q12, 90), (Br37_15, y483q11q13.arr, 42), (Br37_14, arr6 y481q11q12 y482q11q12, 86), (wr35.heap.size, #[.int .u8 (b0 : Int), .int .u8 (b1 : Int)], 84), (Br11_23, #[.bool z31q22.b, .slice z31q22.a z31q22.n z31q22.c, .slice z31q22.d z31q22.m z31q22.e, .bool z32q22.b, .slice z32q22.a z32q22.n z32q22.c, .slice z32q22.d z32q22.m z32q22.e, .bool z33q22.b, .slice z33q22.a z33q22.n z33q22.c, .slice z33q22.d z33q22.m z33q22.e, .int .i64 (m : Int)], 82), (w.heap.size, #[.int .u8 (n0 : Int), .int .u8 (n1 : Int), .int .u8 (n2 : Int), .int .u8 (n3 : Int)], 79)] [(true, z57bq4.val, x0), (true, z57aq4.val, x0), (true, z57b.val, x0), (true, z57a.val, x0), (true, y483q11q13.val, x0), (true, y482q11q12.val, b0_), (true, y481q11q12.val, a0), (true, y483q11.val, x0), (true, y482q11.val, b0_), (true, y481q11.val, a0), (true, y483.val, x0), (true, y482.val, b0_), (true, y481.val, a0), (true, z47.val, w0), (true, z46.val, a0), (true, z33q22.val, ri), (true, z32q22.val, mo), (true, z31q22.val, le)]) := hs75'
           replace HG : Hid (GsR w w75 [(W60.heap.size, arr6 y481q11q12 y482q11q12, 90), (Br53_6, arr6 z57aq4 z57bq4, 90), (Br53_5, arr6 y481q11q12 y482q11q12, 90), (Br37_15, y483q11q13.arr, 42), (Br37_14, arr6 y481q11q12 y482q11q12, 86), (wr35.heap.size, #[.int .u8 (b0 : Int), .int .u8 (b1 : Int)], 84), (Br11_23, #[.bool z31q22.b, .slice z31q22.a z31q22.n z31q22.c, .slice z31q22.d z31q22.m z31q22.e, .bool z32q22.b, .slice z32q22.a z32q22.n z32q22.c, .slice z32q22.d z32q22.m z32q22.e, .bool z33q22.b, .slice z33q22.a z33q22.n z33q22.c, .slice z33q22.d z33q22.m z33q22.e, .int .i64 (m : Int)], 82), (w.heap.size, #[.int .u8 (n0 : Int), .int .u8 (n1 : Int), .int .u8 (n2 : Int), .int .u8 (n3 : Int)], 79)] [⟨90, true, 2, v75, (cellsR [y481q11q12, y482q11q12] ++ sx), ([[a0, b0_]] ++ (lgR (lgA lg) (lgB lg) i))⟩, ⟨90, true, 2, (.slice (some ⟨g74, 0, none⟩) ((lgT (lgA lg) (lgB lg) i).length + 1) cap74), (tx ++ cellsR [y481q11q12, y482q11q12]), ((lgT (lgA lg) (lgB lg) i) ++ [[a0, b0_]])⟩, ⟨42, true, 1, .slice ua al.length uc', rx, (uRow (airQ al) al.length)⟩]) := hg75'
           clear hs75' hg75' hL75 hL75' hgr75 hat75 hzd75 hi75 hz75 hs75 hy75 hLB75 hsrc75 hxl75 hpl75 hll75 hnd75
           refine hK.out _ _ ((HS.out).erase 0) (fun hh => ?_)
           clear hK K
           try simp only [nbs, Act.put]
           refine tkB (i := 8) (v := ?vk76) rfl ?hk76 ?rk76
           case hk76 => intro u hSu; go_simp <;> with_reducible rfl
           try simp only [nbs, Act.put]
           refine tkB (i := 9) (v := ?vk77) rfl ?hk77 ?rk77
           case hk77 => intro u hSu; go_simp <;> with_reducible rfl
           try simp only [nbs, Act.put]
           refine wpAnyH_done (by kernel_rfl) ?_ _
           go_wp2_with fail
           go_meet
           exact Lib.hid ⟨W60.heap.size, (.slice (some ⟨g74, 0, none⟩) ((lgT (lgA lg) (lgB lg) i).length + 1) cap74), (tx ++ cellsR [y481q11q12, y482q11q12]), v75, (cellsR [y481q11q12, y482q11q12] ++ sx), by first | rfl | rw [hln] | rw [hlnT], by first | rfl | rw [hln] | rw [hlnT], Lib.hid (((((((((((((((((((HS.out.bare).addP (HS.out.p 17 _ _ rfl)).addP (HS.out.p 16 _ _ rfl)).addP (HS.out.p 15 _ _ rfl)).addP (HS.out.p 14 _ _ rfl)).addP (HS.out.p 13 _ _ rfl)).addP (HS.out.p 12 _ _ rfl)).addP (HS.out.p 11 _ _ rfl)).addP (HS.out.p 10 _ _ rfl)).addP (HS.out.p 9 _ _ rfl)).addP (HS.out.p 8 _ _ rfl)).addP (HS.out.p 7 _ _ rfl)).addP (HS.out.p 6 _ _ rfl)).addP (HS.out.p 5 _ _ rfl)).addP (HS.out.p 4 _ _ rfl)).addP (HS.out.p 3 _ _ rfl)).addP (HS.out.p 2 _ _ rfl)).addP (HS.out.p 1 _ _ rfl)).addP (HS.out.p 0 _ _ rfl)), HG⟩
          refine AllReadyH.cons rfl (fun K hK => ?_) AllReadyH.nil
          go_simp
          refine hK.out _ _ (Sx.below hh ((Below.refl _ _).alloc (Nat.le_refl _) _)) (fun hh => ?_)
          clear hK K
          try simp only [nbs, Act.put]
          generalize hW78 : (W60.alloc (.cells _ _)).drew = W78 at *
          replace HS := Lib.hid ((HS.out.alloc (B := W60.heap.size) rfl (by rfl)).to hW78 rfl)
          replace HG := Lib.hid ((HG.out.alloc (B := W60.heap.size) rfl).to hW78 rfl)
          clear hW78
          refine rdA (i := 2) rfl (fun K hK => ?_)
          go_simp
          refine hK.out _ _ (Sx.below hh ((Below.refl _ _).alloc (Nat.le_refl _) _)) (fun hh => ?_)
          clear hK K
          try simp only [nbs, Act.put]
          generalize hW79 : (W78).alloc (.cells _ _) = W79 at *
          replace HS := Lib.hid ((HS.out.alloc (B := W78.heap.size) rfl (by rfl)).to hW79 rfl)
          replace HG := Lib.hid ((HG.out.alloc (B := W78.heap.size) rfl).to hW79 rfl)
          clear hW79
          refine rdA (i := 3) rfl (fun K hK => ?_)
          obtain ⟨ii80, hi80, hz80, hs80, hy80⟩ := info_parts inf_cure_Tool
          have hzd80 : ∀ u ∈ (Value.agg #[.bool false, .slice none 0 0, .slice none 0 0, .bool false, .slice none 0 0, .slice none 0 0]).cells.toList, noDig u := by
           intro u hu
           have hu : u ∈ [.bool false, .slice none 0 0, .slice none 0 0, .bool false, .slice none 0 0, .slice none 0 0] := hu
           simp only [List.mem_cons, List.not_mem_nil, or_false] at hu
           rcases hu with rfl | rfl | rfl | rfl | rfl | rfl
           all_goals first | exact noDig_bool _ | exact noDig_slice _ _ _
          refine step_append_lrow _ rfl (.tmp 117) (.tmp 119) 83 rfl w.heap.size 90 ii80 _ 6 112 Tryz.underlying83 hi80 hz80 hs80 hy80 rfl (by decide) hzd80 _ _ _ rfl (HG.out.row 1 _ rfl) ⟨W78.heap.size, 0, none⟩ 1 1 [.bool y481q11q12.b, .slice y481q11q12.a y481q11q12.n y481q11q12.c, .slice y481q11q12.d y481q11q12.m y481q11q12.e, .bool y482q11q12.b, .slice y482q11q12.a y482q11q12.n y482q11q12.c, .slice y482q11q12.d y482q11q12.m y482q11q12.e] rfl rfl (cells_blk (HS.out.at 0 _ _ _ rfl)) (by simp [Value.oneCell']) (by intro u hu; simp only [List.mem_cons, List.not_mem_nil, or_false] at hu; rcases hu with rfl | rfl | rfl | rfl | rfl | rfl; all_goals first | exact noDig_bool _ | exact noDig_slice _ _ _) (by omega) (by dsimp only; unfold maxLen; omega) (by dsimp only; omega) HS.out.bel.size ?_
          intro g80 cap80 w80 hL80 hgr80 hat80
          obtain ⟨hs80', hg80'⟩ := Sx.append HS.out HG.out 1 rfl [y481q11q12, y482q11q12] [a0, b0_] rfl (fun j x hx => by match j, hx with
            | 0, hx => (simp at hx; subst hx; exact (HS.out.p 6 _ _ rfl))
            | 1, hx => (simp at hx; subst hx; exact (HS.out.p 5 _ _ rfl))
            | j + 2, hx => simp at hx) hL80 hgr80 (by intro c hc; simp [Value.ownBlock] at hc; subst hc; first | exact hat80 | simpa using hat80)
          replace HS : Hid (Sx w w80 [(W78.heap.size, arr6 y481q11q12 y482q11q12, 90), (W60.heap.size, arr6 y481q11q12 y482q11q12, 90), (Br53_6, arr6 z57aq4 z57bq4, 90), (Br53_5, arr6 y481q11q12 y482q11q12, 90), (Br37_15, y483q11q13.arr, 42), (Br37_14, arr6 y481q11q12 y482q11q12, 86), (wr35.heap.size, #[.int .u8 (b0 : Int), .int .u8 (b1 : Int)], 84), (Br11_23, #[.bool z31q22.b, .slice z31q22.a z31q22.n z31q22.c, .slice z31q22.d z31q22.m z31q22.e, .bool z32q22.b, .slice z32q22.a z32q22.n z32q22.c, .slice z32q22.d z32q22.m z32q22.e, .bool z33q22.b, .slice z33q22.a z33q22.n z33q22.c, .slice z33q22.d z33q22.m z33q22.e, .int .i64 (m : Int)], 82), (w.heap.size, #[.int .u8 (n0 : Int), .int .u8 (n1 : Int), .int .u8 (n2 : Int), .int .u8 (n3 : Int)], 79)] [(true, z57bq4.val, x0), (true, z57aq4.val, x0), (true, z57b.val, x0), (true, z57a.val, x0), (true, y483q11q13.val, x0), (true, y482q11q12.val, b0_), (true, y481q11q12.val, a0), (true, y483q11.val, x0), (true, y482q11.val, b0_), (true, y481q11.val, a0), (true, y483.val, x0), (true, y482.val, b0_), (true, y481.val, a0), (true, z47.val, w0), (true, z46.val, a0), (true, z33q22.val, ri), (true, z32q22.val, mo), (true, z31q22.val, le)]) := hs80'
          replace HG : Hid (GsR w w80 [(W78.heap.size, arr6 y481q11q12 y482q11q12, 90), (W60.heap.size, arr6 y481q11q12 y482q11q12, 90), (Br53_6, arr6 z57aq4 z57bq4, 90), (Br53_5, arr6 y481q11q12 y482q11q12, 90), (Br37_15, y483q11q13.arr, 42), (Br37_14, arr6 y481q11q12 y482q11q12, 86), (wr35.heap.size, #[.int .u8 (b0 : Int), .int .u8 (b1 : Int)], 84), (Br11_23, #[.bool z31q22.b, .slice z31q22.a z31q22.n z31q22.c, .slice z31q22.d z31q22.m z31q22.e, .bool z32q22.b, .slice z32q22.a z32q22.n z32q22.c, .slice z32q22.d z32q22.m z32q22.e, .bool z33q22.b, .slice z33q22.a z33q22.n z33q22.c, .slice z33q22.d z33q22.m z33q22.e, .int .i64 (m : Int)], 82), (w.heap.size, #[.int .u8 (n0 : Int), .int .u8 (n1 : Int), .int .u8 (n2 : Int), .int .u8 (n3 : Int)], 79)] [⟨90, true, 2, sv, sx, (lgR (lgA lg) (lgB lg) i)⟩, ⟨90, true, 2, (.slice (some ⟨g80, 0, none⟩) ((lgT (lgA lg) (lgB lg) i).length + 1) cap80), (tx ++ cellsR [y481q11q12, y482q11q12]), ((lgT (lgA lg) (lgB lg) i) ++ [[a0, b0_]])⟩, ⟨42, true, 1, .slice ua al.length uc', rx, (uRow (airQ al) al.length)⟩]) := hg80'
          clear hs80' hg80' hL80 hgr80 hat80 hzd80 hi80 hz80 hs80 hy80
          refine hK.out _ _ (((HS.out).erase 1).erase 0) (fun hh => ?_)
          clear hK K
          try simp only [nbs, Act.put]
          refine rdA (i := 7) rfl (fun K hK => ?_)
          obtain ⟨ii81, hi81, hz81, hs81, hy81⟩ := info_parts inf_cure_Tool
          have hzd81 : ∀ u ∈ (Value.agg #[.bool false, .slice none 0 0, .slice none 0 0, .bool false, .slice none 0 0, .slice none 0 0]).cells.toList, noDig u := by
           intro u hu
           have hu : u ∈ [.bool false, .slice none 0 0, .slice none 0 0, .bool false, .slice none 0 0, .slice none 0 0] := hu
           simp only [List.mem_cons, List.not_mem_nil, or_false] at hu
           rcases hu with rfl | rfl | rfl | rfl | rfl | rfl
           all_goals first | exact noDig_bool _ | exact noDig_slice _ _ _
          have hnd81 : ∀ u ∈ (#[.bool y481q11q12.b, .slice y481q11q12.a y481q11q12.n y481q11q12.c, .slice y481q11q12.d y481q11q12.m y481q11q12.e, .bool y482q11q12.b, .slice y482q11q12.a y482q11q12.n y482q11q12.c, .slice y482q11q12.d y482q11q12.m y482q11q12.e] : Array Value).toList, noDig u := by
           intro u hu
           have hu : u ∈ [.bool y481q11q12.b, .slice y481q11q12.a y481q11q12.n y481q11q12.c, .slice y481q11q12.d y481q11q12.m y481q11q12.e, .bool y482q11q12.b, .slice y482q11q12.a y482q11q12.n y482q11q12.c, .slice y482q11q12.d y482q11q12.m y482q11q12.e] := hu
           simp only [List.mem_cons, List.not_mem_nil, or_false] at hu
           rcases hu with rfl | rfl | rfl | rfl | rfl | rfl
           all_goals first | exact noDig_bool _ | exact noDig_slice _ _ _
          have hLB81 := LRow.ofBlock (base := w.heap.size) (size := 6) (n := 1) (HS.out.at 1 _ _ _ rfl) (HS.out.box 1 _ rfl).2.1 (by unfold maxLen; omega) rfl hnd81
          obtain ⟨sa81, sc81, hsv81, hsrc81⟩ := (HG.out.row 0 _ rfl).src
          dsimp only at hsv81 hsrc81
          subst hsv81
          have hxl81 := (HG.out.mean 0 _ rfl).1
          have hpl81 := (HG.out.mean 0 _ rfl).plain
          have hll81 := lgR_len (lgA lg) (lgB lg) i
          dsimp only at hxl81 hpl81
          refine step_append_lrow0 _ rfl (.tmp 122) (.tmp 123) 83 rfl w.heap.size 90 ii81 _ 6 112 Tryz.underlying83 hi81 hz81 hs81 hy81 rfl (by decide) hzd81 _ 1 _ rfl hLB81 sa81 ((lgR (lgA lg) (lgB lg) i)).length sc81 sx rfl hxl81 hsrc81 (fun u hu => (hpl81 u hu).1) (fun u hu => (hpl81 u hu).2) (by rw [hll81]; unfold maxLen; omega) (by rw [hll81]; omega) HS.out.bel.size ?_
          intro v81 w81 hL81 hgr81 hat81
          have hL81' : LRow w81 w.heap.size 90 (3 * 2) v81 (1 + ((lgR (lgA lg) (lgB lg) i)).length) (cellsR [y481q11q12, y482q11q12] ++ sx) := hL81
          obtain ⟨hs81', hg81'⟩ := Sx.turn HS.out HG.out 1 rfl hnd81 0 rfl [y481q11q12, y482q11q12] [a0, b0_] rfl (fun j x hx => by match j, hx with
            | 0, hx => (simp at hx; subst hx; exact (HS.out.p 6 _ _ rfl))
            | 1, hx => (simp at hx; subst hx; exact (HS.out.p 5 _ _ rfl))
            | j + 2, hx => simp at hx) hL81' hgr81 hat81
          replace HS : Hid (Sx w w81 [(W78.heap.size, arr6 y481q11q12 y482q11q12, 90), (Br53_6, arr6 z57aq4 z57bq4, 90), (Br53_5, arr6 y481q11q12 y482q11q12, 90), (Br37_15, y483q11q13.arr, 42), (Br37_14, arr6 y481q11q12 y482q11q12, 86), (wr35.heap.size, #[.int .u8 (b0 : Int), .int .u8 (b1 : Int)], 84), (Br11_23, #[.bool z31q22.b, .slice z31q22.a z31q22.n z31q22.c, .slice z31q22.d z31q22.m z31q22.e, .bool z32q22.b, .slice z32q22.a z32q22.n z32q22.c, .slice z32q22.d z32q22.m z32q22.e, .bool z33q22.b, .slice z33q22.a z33q22.n z33q22.c, .slice z33q22.d z33q22.m z33q22.e, .int .i64 (m : Int)], 82), (w.heap.size, #[.int .u8 (n0 : Int), .int .u8 (n1 : Int), .int .u8 (n2 : Int), .int .u8 (n3 : Int)], 79)] [(true, z57bq4.val, x0), (true, z57aq4.val, x0), (true, z57b.val, x0), (true, z57a.val, x0), (true, y483q11q13.val, x0), (true, y482q11q12.val, b0_), (true, y481q11q12.val, a0), (true, y483q11.val, x0), (true, y482q11.val, b0_), (true, y481q11.val, a0), (true, y483.val, x0), (true, y482.val, b0_), (true, y481.val, a0), (true, z47.val, w0), (true, z46.val, a0), (true, z33q22.val, ri), (true, z32q22.val, mo), (true, z31q22.val, le)]) := hs81'
          replace HG : Hid (GsR w w81 [(W78.heap.size, arr6 y481q11q12 y482q11q12, 90), (Br53_6, arr6 z57aq4 z57bq4, 90), (Br53_5, arr6 y481q11q12 y482q11q12, 90), (Br37_15, y483q11q13.arr, 42), (Br37_14, arr6 y481q11q12 y482q11q12, 86), (wr35.heap.size, #[.int .u8 (b0 : Int), .int .u8 (b1 : Int)], 84), (Br11_23, #[.bool z31q22.b, .slice z31q22.a z31q22.n z31q22.c, .slice z31q22.d z31q22.m z31q22.e, .bool z32q22.b, .slice z32q22.a z32q22.n z32q22.c, .slice z32q22.d z32q22.m z32q22.e, .bool z33q22.b, .slice z33q22.a z33q22.n z33q22.c, .slice z33q22.d z33q22.m z33q22.e, .int .i64 (m : Int)], 82), (w.heap.size, #[.int .u8 (n0 : Int), .int .u8 (n1 : Int), .int .u8 (n2 : Int), .int .u8 (n3 : Int)], 79)] [⟨90, true, 2, v81, (cellsR [y481q11q12, y482q11q12] ++ sx), ([[a0, b0_]] ++ (lgR (lgA lg) (lgB lg) i))⟩, ⟨90, true, 2, (.slice (some ⟨g80, 0, none⟩) ((lgT (lgA lg) (lgB lg) i).length + 1) cap80), (tx ++ cellsR [y481q11q12, y482q11q12]), ((lgT (lgA lg) (lgB lg) i) ++ [[a0, b0_]])⟩, ⟨42, true, 1, .slice ua al.length uc', rx, (uRow (airQ al) al.length)⟩]) := hg81'
          clear hs81' hg81' hL81 hL81' hgr81 hat81 hzd81 hi81 hz81 hs81 hy81 hLB81 hsrc81 hxl81 hpl81 hll81 hnd81
          refine hK.out _ _ ((HS.out).erase 0) (fun hh => ?_)
          clear hK K
          try simp only [nbs, Act.put]
          refine tkB (i := 8) (v := ?vk82) rfl ?hk82 ?rk82
          case hk82 => intro u hSu; go_simp <;> with_reducible rfl
          try simp only [nbs, Act.put]
          refine tkB (i := 9) (v := ?vk83) rfl ?hk83 ?rk83
          case hk83 => intro u hSu; go_simp <;> with_reducible rfl
          try simp only [nbs, Act.put]
          refine wpAnyH_done (by kernel_rfl) ?_ _
          go_wp2_with fail
          go_meet
          exact Lib.hid ⟨W78.heap.size, (.slice (some ⟨g80, 0, none⟩) ((lgT (lgA lg) (lgB lg) i).length + 1) cap80), (tx ++ cellsR [y481q11q12, y482q11q12]), v81, (cellsR [y481q11q12, y482q11q12] ++ sx), by first | rfl | rw [hln] | rw [hlnT], by first | rfl | rw [hln] | rw [hlnT], Lib.hid (((((((((((((((((((HS.out.bare).addP (HS.out.p 17 _ _ rfl)).addP (HS.out.p 16 _ _ rfl)).addP (HS.out.p 15 _ _ rfl)).addP (HS.out.p 14 _ _ rfl)).addP (HS.out.p 13 _ _ rfl)).addP (HS.out.p 12 _ _ rfl)).addP (HS.out.p 11 _ _ rfl)).addP (HS.out.p 10 _ _ rfl)).addP (HS.out.p 9 _ _ rfl)).addP (HS.out.p 8 _ _ rfl)).addP (HS.out.p 7 _ _ rfl)).addP (HS.out.p 6 _ _ rfl)).addP (HS.out.p 5 _ _ rfl)).addP (HS.out.p 4 _ _ rfl)).addP (HS.out.p 3 _ _ rfl)).addP (HS.out.p 2 _ _ rfl)).addP (HS.out.p 1 _ _ rfl)).addP (HS.out.p 0 _ _ rfl)), HG⟩
         case rest =>
          clear HS HG
          obtain ⟨B61_7, rv61_1, rx61_1, rv61_2, rx61_2, rfl, rfl, HS, HG⟩ := hcut.out
          clear hcut
          obtain ⟨wk84, hwk84⟩ : ∃ z, z = wc := ⟨_, rfl⟩
          subst hwk84
          go_wp2_with fail
          refine wp_region_held_drew (S := (fun w' => Sx w w' [(B61_7, arr6 y481q11q12 y482q11q12, 90), (Br53_6, arr6 z57aq4 z57bq4, 90), (Br53_5, arr6 y481q11q12 y482q11q12, 90), (Br37_15, y483q11q13.arr, 42), (Br37_14, arr6 y481q11q12 y482q11q12, 86), (wr35.heap.size, #[.int .u8 (b0 : Int), .int .u8 (b1 : Int)], 84), (Br11_23, #[.bool z31q22.b, .slice z31q22.a z31q22.n z31q22.c, .slice z31q22.d z31q22.m z31q22.e, .bool z32q22.b, .slice z32q22.a z32q22.n z32q22.c, .slice z32q22.d z32q22.m z32q22.e, .bool z33q22.b, .slice z33q22.a z33q22.n z33q22.c, .slice z33q22.d z33q22.m z33q22.e, .int .i64 (m : Int)], 82), (w.heap.size, #[.int .u8 (n0 : Int), .int .u8 (n1 : Int), .int .u8 (n2 : Int), .int .u8 (n3 : Int)], 79)] [])) (by kernel_rfl) ((HS.out.drew).bare) (fun hh => ?_)
          replace HS := Lib.hid HS.out.drew
          replace HG := Lib.hid (HG.out.below (Below.refl _ _).drew)
          refine tkB (i := 0) (v := ?vk86) rfl ?hk86 ?rk86
          case hk86 => intro u hSu; (try dsimp only at hSu); obtain ⟨qb5c0, qb5c1, qb5c2, qb5c3, qb5c4, qb5c5, _⟩ := fac6 (x := y481q11q12) (y := y482q11q12) (hSu.at 2 _ _ _ rfl); clear hSu; go_simp <;> with_reducible rfl
          try simp only [nbs, Act.put]
          refine tkB (i := 2) (v := ?vk87) rfl ?hk87 ?rk87
          case hk87 => intro u hSu; go_simp <;> with_reducible rfl
          try simp only [nbs, Act.put]
          refine rdA (i := 1) rfl (fun K hK => ?_)
          go_simp
          go_wp2_with (go_at_call 30; (with_reducible refine (int0_any _).mono ?_); rintro e w88 ⟨v88, rfl, hv88, hb88⟩; obtain ⟨z88, rfl⟩ := hv88.open3)
          refine hK.out _ _ (Sx.below hh hb88) (fun hh => ?_)
          clear hK K
          try simp only [nbs, Act.put]
          replace HS := Lib.hid (HS.out.below hb88)
          replace HG := Lib.hid (HG.out.below hb88)
          clear hb88
          replace HS := Lib.hid (HS.out.addP hv88)
          clear hv88
          refine rdA (i := 3) rfl (fun K hK => ?_)
          go_simp
          have a90 := HS.out.p 7 _ _ rfl
          have a91 := HS.out.p 6 _ _ rfl
          have a92 := HS.out.p 0 _ _ rfl
          go_wp2_with (go_at_call 29; (with_reducible refine (HFO.out _ _ _ _ (rngP a90 a91) a92 (frcs_row (by rw [HAL.out]; exact RecsOf.ofRow (HG.out.row 2 _ rfl) (HG.out.mean 2 _ rfl)))).mono ?_); rintro e w89 ⟨v89, rfl, hv89, hb89⟩; have hv89' := hv89; obtain ⟨fa, fc, rfl⟩ := recs_parts hv89'; rw [flR_len, HAL.out] at hv89 ⊢; have HVF := Lib.hid hv89; clear hv89 hv89')
          refine hK.out _ _ (Sx.below hh hb89) (fun hh => ?_)
          clear hK K
          try simp only [nbs, Act.put]
          replace HS := Lib.hid (HS.out.below hb89)
          replace HG := Lib.hid (HG.out.below hb89)
          clear hb89 a90 a91 a92
          have HMF := Lib.hid (Below.refl w89.heap.size w89)
          refine tkB (i := 4) (v := ?vk93) rfl ?hk93 ?rk93
          case hk93 => intro u hSu; go_simp <;> with_reducible rfl
          try simp only [nbs, Act.put]
          refine tkB (i := 5) (v := ?vk94) rfl ?hk94 ?rk94
          case hk94 => intro u hSu; go_simp <;> with_reducible rfl
          try simp only [nbs, Act.put]
          refine tkB (i := 6) (v := ?vk95) rfl ?hk95 ?rk95
          case hk95 => intro u hSu; go_simp <;> with_reducible rfl
          try simp only [nbs, Act.put]
          refine tkB (i := 7) (v := ?vk96) rfl ?hk96 ?rk96
          case hk96 => intro u hSu; go_simp <;> with_reducible rfl
          try simp only [nbs, Act.put]
          refine tkB (i := 8) (v := ?vk97) rfl ?hk97 ?rk97
          case hk97 => intro u hSu; go_simp <;> with_reducible rfl
          try simp only [nbs, Act.put]
          refine wpAnyH_done (by kernel_rfl) ?_ _
          go_wp2_with fail
          refine wp_region_held_drew (S := (fun w' => Sx w w' [(B61_7, arr6 y481q11q12 y482q11q12, 90), (Br53_6, arr6 z57aq4 z57bq4, 90), (Br53_5, arr6 y481q11q12 y482q11q12, 90), (Br37_15, y483q11q13.arr, 42), (Br37_14, arr6 y481q11q12 y482q11q12, 86), (wr35.heap.size, #[.int .u8 (b0 : Int), .int .u8 (b1 : Int)], 84), (Br11_23, #[.bool z31q22.b, .slice z31q22.a z31q22.n z31q22.c, .slice z31q22.d z31q22.m z31q22.e, .bool z32q22.b, .slice z32q22.a z32q22.n z32q22.c, .slice z32q22.d z32q22.m z32q22.e, .bool z33q22.b, .slice z33q22.a z33q22.n z33q22.c, .slice z33q22.d z33q22.m z33q22.e, .int .i64 (m : Int)], 82), (w.heap.size, #[.int .u8 (n0 : Int), .int .u8 (n1 : Int), .int .u8 (n2 : Int), .int .u8 (n3 : Int)], 79)] [])) (by kernel_rfl) ((HS.out.drew).bare) (fun hh => ?_)
          replace HS := Lib.hid HS.out.drew
          replace HMF := Lib.hid (ext_trans HMF.out (Below.refl _ _).drew)
          replace HG := Lib.hid (HG.out.below (Below.refl _ _).drew)
          refine tkB (i := 0) (v := ?vk99) rfl ?hk99 ?rk99
          case hk99 => intro u hSu; (try dsimp only at hSu); obtain ⟨qb5c0, qb5c1, qb5c2, qb5c3, qb5c4, qb5c5, _⟩ := fac6 (x := y481q11q12) (y := y482q11q12) (hSu.at 2 _ _ _ rfl); clear hSu; go_simp <;> with_reducible rfl
          try simp only [nbs, Act.put]
          refine tkB (i := 2) (v := ?vk100) rfl ?hk100 ?rk100
          case hk100 => intro u hSu; go_simp <;> with_reducible rfl
          try simp only [nbs, Act.put]
          refine tkB (i := 3) (v := ?vk101) rfl ?hk101 ?rk101
          case hk101 => intro u hSu; (try dsimp only at hSu); have qb1e := (hSu.at 6 _ _ _ rfl); have qb1c0 := blk_cell qb1e 0 (.bool z31q22.b) rfl; have qb1c1 := blk_cell qb1e 1 (.slice z31q22.a z31q22.n z31q22.c) rfl; have qb1c2 := blk_cell qb1e 2 (.slice z31q22.d z31q22.m z31q22.e) rfl; have qb1c3 := blk_cell qb1e 3 (.bool z32q22.b) rfl; have qb1c4 := blk_cell qb1e 4 (.slice z32q22.a z32q22.n z32q22.c) rfl; have qb1c5 := blk_cell qb1e 5 (.slice z32q22.d z32q22.m z32q22.e) rfl; have qb1c6 := blk_cell qb1e 6 (.bool z33q22.b) rfl; have qb1c7 := blk_cell qb1e 7 (.slice z33q22.a z33q22.n z33q22.c) rfl; have qb1c8 := blk_cell qb1e 8 (.slice z33q22.d z33q22.m z33q22.e) rfl; have qb1c9 := blk_cell qb1e 9 (.int .i64 (m : Int)) rfl; clear qb1e; clear hSu; go_simp <;> with_reducible rfl
          try simp only [nbs, Act.put]
          refine rdA (i := 1) rfl (fun K hK => ?_)
          go_simp
          go_wp2_with (go_at_call 30; (with_reducible refine (int0_any _).mono ?_); rintro e w102 ⟨v102, rfl, hv102, hb102⟩; obtain ⟨z102, rfl⟩ := hv102.open3)
          refine hK.out _ _ (Sx.below hh hb102) (fun hh => ?_)
          clear hK K
          try simp only [nbs, Act.put]
          replace HS := Lib.hid (HS.out.below hb102)
          replace HMF := Lib.hid (ext_trans HMF.out hb102)
          replace HG := Lib.hid (HG.out.below hb102)
          clear hb102
          replace HS := Lib.hid (HS.out.addP hv102)
          clear hv102
          refine rdA (i := 4) rfl (fun K hK => ?_)
          go_simp
          have a104 := HS.out.p 8 _ _ rfl
          have a105 := HS.out.p 7 _ _ rfl
          have a106 := HS.out.p 0 _ _ rfl
          have a107 := HS.out.p 19 _ _ rfl
          have a108 := HS.out.p 18 _ _ rfl
          have a109 := HS.out.p 17 _ _ rfl
          go_wp2_with (go_at_call 31; (with_reducible refine (HM12.out _ _ _ _ z31q22 z32q22 z33q22 (rngP a104 a105) a106 (frcs_row (by rw [HAL.out]; exact RecsOf.ofRow (HG.out.row 2 _ rfl) (HG.out.mean 2 _ rfl))) a107 a108 a109).mono ?_); rintro e w103 ⟨rfl, hb103⟩)
          refine hK.out _ _ (Sx.below hh hb103) (fun hh => ?_)
          clear hK K
          try simp only [nbs, Act.put]
          replace HS := Lib.hid (HS.out.below hb103)
          replace HMF := Lib.hid (ext_trans HMF.out hb103)
          replace HG := Lib.hid (HG.out.below hb103)
          clear hb103 a104 a105 a106 a107 a108 a109
          refine tkB (i := 5) (v := ?vk110) rfl ?hk110 ?rk110
          case hk110 => intro u hSu; go_simp <;> with_reducible rfl
          try simp only [nbs, Act.put]
          refine tkB (i := 6) (v := ?vk111) rfl ?hk111 ?rk111
          case hk111 => intro u hSu; go_simp <;> with_reducible rfl
          try simp only [nbs, Act.put]
          refine tkB (i := 7) (v := ?vk112) rfl ?hk112 ?rk112
          case hk112 => intro u hSu; go_simp <;> with_reducible rfl
          try simp only [nbs, Act.put]
          refine tkB (i := 8) (v := ?vk113) rfl ?hk113 ?rk113
          case hk113 => intro u hSu; go_simp <;> with_reducible rfl
          try simp only [nbs, Act.put]
          refine tkB (i := 9) (v := ?vk114) rfl ?hk114 ?rk114
          case hk114 => intro u hSu; go_simp <;> with_reducible rfl
          try simp only [nbs, Act.put]
          refine wpAnyH_done (by kernel_rfl) ?_ _
          go_wp2_with fail
          refine wp_region_held_drew (S := (fun w' => Sx w w' [(B61_7, arr6 y481q11q12 y482q11q12, 90), (Br53_6, arr6 z57aq4 z57bq4, 90), (Br53_5, arr6 y481q11q12 y482q11q12, 90), (Br37_15, y483q11q13.arr, 42), (Br37_14, arr6 y481q11q12 y482q11q12, 86), (wr35.heap.size, #[.int .u8 (b0 : Int), .int .u8 (b1 : Int)], 84), (Br11_23, #[.bool z31q22.b, .slice z31q22.a z31q22.n z31q22.c, .slice z31q22.d z31q22.m z31q22.e, .bool z32q22.b, .slice z32q22.a z32q22.n z32q22.c, .slice z32q22.d z32q22.m z32q22.e, .bool z33q22.b, .slice z33q22.a z33q22.n z33q22.c, .slice z33q22.d z33q22.m z33q22.e, .int .i64 (m : Int)], 82), (w.heap.size, #[.int .u8 (n0 : Int), .int .u8 (n1 : Int), .int .u8 (n2 : Int), .int .u8 (n3 : Int)], 79)] [])) (by kernel_rfl) ((HS.out.drew).bare) (fun hh => ?_)
          replace HS := Lib.hid HS.out.drew
          replace HMF := Lib.hid (ext_trans HMF.out (Below.refl _ _).drew)
          replace HG := Lib.hid (HG.out.below (Below.refl _ _).drew)
          refine tkB (i := 0) (v := ?vk116) rfl ?hk116 ?rk116
          case hk116 => intro u hSu; (try dsimp only at hSu); obtain ⟨qb6c0, qb6c1, qb6c2, qb6c3, qb6c4, qb6c5, _⟩ := fac6 (x := z57aq4) (y := z57bq4) (hSu.at 1 _ _ _ rfl); clear hSu; go_simp <;> with_reducible rfl
          try simp only [nbs, Act.put]
          refine tkB (i := 2) (v := ?vk117) rfl ?hk117 ?rk117
          case hk117 => intro u hSu; go_simp <;> with_reducible rfl
          try simp only [nbs, Act.put]
          refine tkB (i := 3) (v := ?vk118) rfl ?hk118 ?rk118
          case hk118 => intro u hSu; (try dsimp only at hSu); have qb1e := (hSu.at 6 _ _ _ rfl); have qb1c0 := blk_cell qb1e 0 (.bool z31q22.b) rfl; have qb1c1 := blk_cell qb1e 1 (.slice z31q22.a z31q22.n z31q22.c) rfl; have qb1c2 := blk_cell qb1e 2 (.slice z31q22.d z31q22.m z31q22.e) rfl; have qb1c3 := blk_cell qb1e 3 (.bool z32q22.b) rfl; have qb1c4 := blk_cell qb1e 4 (.slice z32q22.a z32q22.n z32q22.c) rfl; have qb1c5 := blk_cell qb1e 5 (.slice z32q22.d z32q22.m z32q22.e) rfl; have qb1c6 := blk_cell qb1e 6 (.bool z33q22.b) rfl; have qb1c7 := blk_cell qb1e 7 (.slice z33q22.a z33q22.n z33q22.c) rfl; have qb1c8 := blk_cell qb1e 8 (.slice z33q22.d z33q22.m z33q22.e) rfl; have qb1c9 := blk_cell qb1e 9 (.int .i64 (m : Int)) rfl; clear qb1e; clear hSu; go_simp <;> with_reducible rfl
          try simp only [nbs, Act.put]
          refine rdA (i := 1) rfl (fun K hK => ?_)
          go_simp
          go_wp2_with (go_at_call 30; (with_reducible refine (int0_any _).mono ?_); rintro e w119 ⟨v119, rfl, hv119, hb119⟩; obtain ⟨z119, rfl⟩ := hv119.open3)
          refine hK.out _ _ (Sx.below hh hb119) (fun hh => ?_)
          clear hK K
          try simp only [nbs, Act.put]
          replace HS := Lib.hid (HS.out.below hb119)
          replace HMF := Lib.hid (ext_trans HMF.out hb119)
          replace HG := Lib.hid (HG.out.below hb119)
          clear hb119
          replace HS := Lib.hid (HS.out.addP hv119)
          clear hv119
          refine rdA (i := 4) rfl (fun K hK => ?_)
          go_simp
          have a121 := HS.out.p 4 _ _ rfl
          have a122 := HS.out.p 3 _ _ rfl
          have a123 := HS.out.p 0 _ _ rfl
          have a124 := HS.out.p 20 _ _ rfl
          have a125 := HS.out.p 19 _ _ rfl
          have a126 := HS.out.p 18 _ _ rfl
          go_wp2_with (go_at_call 31; (with_reducible refine (HM200.out _ _ _ _ z31q22 z32q22 z33q22 (rngP a121 a122) a123 (frcs_row (by rw [HAL.out]; exact RecsOf.ofRow (HG.out.row 2 _ rfl) (HG.out.mean 2 _ rfl))) a124 a125 a126).mono ?_); rintro e w120 ⟨rfl, hb120⟩)
          refine hK.out _ _ (Sx.below hh hb120) (fun hh => ?_)
          clear hK K
          try simp only [nbs, Act.put]
          replace HS := Lib.hid (HS.out.below hb120)
          replace HMF := Lib.hid (ext_trans HMF.out hb120)
          replace HG := Lib.hid (HG.out.below hb120)
          clear hb120 a121 a122 a123 a124 a125 a126
          refine tkB (i := 5) (v := ?vk127) rfl ?hk127 ?rk127
          case hk127 => intro u hSu; go_simp <;> with_reducible rfl
          try simp only [nbs, Act.put]
          refine tkB (i := 6) (v := ?vk128) rfl ?hk128 ?rk128
          case hk128 => intro u hSu; go_simp <;> with_reducible rfl
          try simp only [nbs, Act.put]
          refine tkB (i := 7) (v := ?vk129) rfl ?hk129 ?rk129
          case hk129 => intro u hSu; go_simp <;> with_reducible rfl
          try simp only [nbs, Act.put]
          refine tkB (i := 8) (v := ?vk130) rfl ?hk130 ?rk130
          case hk130 => intro u hSu; go_simp <;> with_reducible rfl
          try simp only [nbs, Act.put]
          refine tkB (i := 9) (v := ?vk131) rfl ?hk131 ?rk131
          case hk131 => intro u hSu; go_simp <;> with_reducible rfl
          try simp only [nbs, Act.put]
          refine wpAnyH_done (by kernel_rfl) ?_ _
          go_upto_region 22 with fail
          go_cut [25, 27, 171] from 125 to 170 (fun s25 s27 s171 wx => Hid (s25 = .bool ok ∧ s27 = .bool own ∧ s171 = .bool false ∧ w120 = wx))
          case first =>
           cases hok : ok with
           | true =>
            have hown := HOWN.out hok
            subst hown
            go_wp2_with fail
            go_meet
            exact Lib.hid ⟨by first | rfl | (rw [hok] <;> rfl), by first | rfl | (rw [hok] <;> rfl), rfl, rfl⟩
           | false =>
            go_wp2_with fail
            go_meet
            exact Lib.hid ⟨by first | rfl | (rw [hok] <;> rfl), by first | rfl | (rw [hok] <;> rfl), rfl, rfl⟩
          case rest =>
           obtain ⟨rfl, rfl, rfl, rfl⟩ := hcut.out
           clear hcut
           go_upto_region 24 with fail
           go_cut [15] from 172 to 175 (fun s15 wx => Hid (s15 = .bool (ab && ok) ∧ w120 = wx))
           case first =>
            cases hab : ab with
            | true =>
             go_wp2_with fail
             go_meet
             exact Lib.hid ⟨by rw [hab] <;> rfl, rfl⟩
            | false =>
             go_wp2_with fail
             go_meet
             exact Lib.hid ⟨by rw [hab] <;> rfl, rfl⟩
           case rest =>
            obtain ⟨rfl, rfl⟩ := hcut.out
            clear hcut
            go_wp2_with fail
            refine (int0_any _).mono ?_
            rintro e w132 ⟨v132, rfl, hv132, hb132⟩
            obtain ⟨z132, rfl⟩ := hv132.open3
            replace HS := Lib.hid (HS.out.below hb132)
            replace HMF := Lib.hid (ext_trans HMF.out hb132)
            replace HG := Lib.hid (HG.out.below hb132)
            clear hb132
            replace HS := Lib.hid (HS.out.addP hv132)
            clear hv132
            go_wp2_with fail
            have HG134 : Hid (w89.heap.size ≤ w132.heap.size) := by first | exact HMF.out.size | (show _ ≤ _; have := HMF.out.size; omega)
            generalize hW133 : (w132).alloc (.cells _ _) = W133 at *
            replace HG := Lib.hid (((HG.out).alloc (B := w132.heap.size) rfl).to hW133 (by (try simp only [nb5, nb6]); rfl))
            replace HS := Lib.hid (((HS.out).alloc (B := w132.heap.size) rfl (by rfl)).to hW133 (by (try simp only [nb5, nb6]); rfl))
            replace HMF : Hid (Below w89.heap.size w89 W133) := by subst hW133; exact Lib.hid ((mk_alloc HMF.out))
            clear hW133
            go_wp2_with fail
            go_loopw [179] (fun u179 wr => ∃ (j : Nat) (nw : R3), j ≤ al.length ∧ u179 = .int .i64 j ∧ Hid (Sx w wr [(w132.heap.size, nw.arr, 42), (B61_7, arr6 y481q11q12 y482q11q12, 90), (Br53_6, arr6 z57aq4 z57bq4, 90), (Br53_5, arr6 y481q11q12 y482q11q12, 90), (Br37_15, y483q11q13.arr, 42), (Br37_14, arr6 y481q11q12 y482q11q12, 86), (wr35.heap.size, #[.int .u8 (b0 : Int), .int .u8 (b1 : Int)], 84), (Br11_23, #[.bool z31q22.b, .slice z31q22.a z31q22.n z31q22.c, .slice z31q22.d z31q22.m z31q22.e, .bool z32q22.b, .slice z32q22.a z32q22.n z32q22.c, .slice z32q22.d z32q22.m z32q22.e, .bool z33q22.b, .slice z33q22.a z33q22.n z33q22.c, .slice z33q22.d z33q22.m z33q22.e, .int .i64 (m : Int)], 82), (w.heap.size, #[.int .u8 (n0 : Int), .int .u8 (n1 : Int), .int .u8 (n2 : Int), .int .u8 (n3 : Int)], 79)] [(true, nw.val, (nowQ x0 (airQ al) j)), (true, z57bq4.val, x0), (true, z57aq4.val, x0), (true, y483q11q13.val, x0), (true, y482q11q12.val, b0_), (true, y481q11q12.val, a0), (true, z33q22.val, ri), (true, z32q22.val, mo), (true, z31q22.val, le)]) ∧ Hid (GsR w wr [(w132.heap.size, nw.arr, 42), (B61_7, arr6 y481q11q12 y482q11q12, 90), (Br53_6, arr6 z57aq4 z57bq4, 90), (Br53_5, arr6 y481q11q12 y482q11q12, 90), (Br37_15, y483q11q13.arr, 42), (Br37_14, arr6 y481q11q12 y482q11q12, 86), (wr35.heap.size, #[.int .u8 (b0 : Int), .int .u8 (b1 : Int)], 84), (Br11_23, #[.bool z31q22.b, .slice z31q22.a z31q22.n z31q22.c, .slice z31q22.d z31q22.m z31q22.e, .bool z32q22.b, .slice z32q22.a z32q22.n z32q22.c, .slice z32q22.d z32q22.m z32q22.e, .bool z33q22.b, .slice z33q22.a z33q22.n z33q22.c, .slice z33q22.d z33q22.m z33q22.e, .int .i64 (m : Int)], 82), (w.heap.size, #[.int .u8 (n0 : Int), .int .u8 (n1 : Int), .int .u8 (n2 : Int), .int .u8 (n3 : Int)], 79)] [⟨90, true, 2, rv61_2, rx61_2, ([[a0, b0_]] ++ (lgR (lgA lg) (lgB lg) i))⟩, ⟨90, true, 2, rv61_1, rx61_1, ((lgT (lgA lg) (lgB lg) i) ++ [[a0, b0_]])⟩, ⟨42, true, 1, .slice ua al.length uc', rx, (uRow (airQ al) al.length)⟩]) ∧ Hid (Below w89.heap.size w89 wr))
             (fun u _ => al.length - (intOf u).toNat)
            case atStart => exact ⟨0, z132, Nat.zero_le _, rfl, Lib.hid ((((((((((HS.out.bare).addP (HS.out.p 21 _ _ rfl)).addP (HS.out.p 20 _ _ rfl)).addP (HS.out.p 19 _ _ rfl)).addP (HS.out.p 10 _ _ rfl)).addP (HS.out.p 9 _ _ rfl)).addP (HS.out.p 8 _ _ rfl)).addP (HS.out.p 5 _ _ rfl)).addP (HS.out.p 4 _ _ rfl)).addP (HS.out.p 0 _ _ rfl)), HG, HMF⟩
            case round =>
             obtain ⟨wr135, hwr135⟩ : ∃ z, z = wr := ⟨_, rfl⟩
             subst hwr135
             clear HS HG HMF
             obtain ⟨j, nw, hi, rfl, HS, HG, HMF⟩ := hrel
             by_cases hlt : j < al.length
             ·
              have hlt' : (j : Int) < al.length := by omega
              have hge' : (0 : Int) ≤ j := by omega
              have HLJ := Lib.hid hlt
              have hja : j < (airQ al).length := by rw [HAL.out]; exact hlt
              have hjf : j < (flR 0 a0 b0_ 12 (airQ al) al.length).length := by rw [flR_len]; exact hlt
              have hlj : (j : Int) < al.length := by omega
              have HMU := Lib.hid (Below.refl wr135.heap.size wr135)
              obtain ⟨bu, ou, A, hua, hub, u0, u1, u2, hA⟩ := frcs_at (frcs_row (by rw [HAL.out]; exact RecsOf.ofRow (HG.out.row 2 _ rfl) (HG.out.mean 2 _ rfl))) hja
              subst hua
              have HBU := Lib.hid hub
              have U0 := Lib.hid u0
              have U1 := Lib.hid u1
              have U2 := Lib.hid u2
              obtain ⟨bf, of, FX, FY, hfa, hfb, ⟨f0, f1, f2, f3, f4, f5⟩, hFX, hFY⟩ := recs_at HVF.out hjf
              subst hfa
              have HBF := Lib.hid hfb
              have F0 := Lib.hid f0
              have F1 := Lib.hid f1
              have F2 := Lib.hid f2
              have F3 := Lib.hid f3
              have F4 := Lib.hid f4
              have F5 := Lib.hid f5
              replace HS := Lib.hid (((HS.out.addP hA).addP (Fr.below hFX HMF.out)).addP (Fr.below hFY HMF.out))
              have SAA := Lib.hid (HE.out.sa j)
              have SNW := Lib.hid (nowQ_sz8 SX0.out HE.out.sa (n := j) (by omega))
              have SNJ := Lib.hid (nowQ_sz8 SX0.out HE.out.sa (n := j + 1) (by omega))
              have HN1 : Hid ((nowQ x0 (airQ al) (j + 1)) = ((nowQ x0 (airQ al) j) + (x0 * ((airQ al).getD j 0 - (nowQ x0 (airQ al) j))))) := rfl
              have hni := HNI.out (j + 1)
              have hfs := HFS.out (j + 1)
              have e0 : ((flR 0 a0 b0_ 12 (airQ al) al.length).getD j []).getD 0 0 = (flUp 0 a0 b0_ 12 (airQ al) (j + 1)).1 := by rw [flR_at _ _ _ _ _ hlt]; rfl
              have e1 : ((flR 0 a0 b0_ 12 (airQ al) al.length).getD j []).getD 1 0 = (flUp 0 a0 b0_ 12 (airQ al) (j + 1)).2 := by rw [flR_at _ _ _ _ _ hlt]; rfl
              rw [← e0, ← e1] at hni hfs
              rw [HN1.out] at hni SNJ
              have S0 := Lib.hid hfs.1
              have S1 := Lib.hid hfs.2
              have HHAS := Lib.hid (hasB_in hni.1 hni.2)
              clear e0 e1 hni hfs hja hjf u0 u1 u2 hA hub hfb f0 f1 f2 f3 f4 f5 hFX hFY hlt
              generalize ((flR 0 a0 b0_ 12 (airQ al) al.length).getD j []).getD 0 0 = f0 at *
              generalize ((flR 0 a0 b0_ 12 (airQ al) al.length).getD j []).getD 1 0 = f1 at *
              generalize (airQ al).getD j 0 = a at *
              have Uc0 := (HMU.out.cell (p := ⟨bu, ou + j * 3, none⟩) HBU.out).trans U0.out
              have Uc1 := (HMU.out.cell (p := ⟨bu, ou + j * 3 + 1, none⟩) HBU.out).trans U1.out
              have Uc2 := (HMU.out.cell (p := ⟨bu, ou + j * 3 + 2, none⟩) HBU.out).trans U2.out
              go_wp2_with fail
              clear Uc0 Uc1 Uc2
              have HG137 : Hid (w89.heap.size ≤ wr135.heap.size) := by first | exact HMF.out.size | (show _ ≤ _; have := HMF.out.size; omega)
              have HG138 : Hid (wr135.heap.size ≤ wr135.heap.size) := by first | exact HMU.out.size | (show _ ≤ _; have := HMU.out.size; omega)
              generalize hW136 : (wr135).alloc (.cells _ _) = W136 at *
              replace HG := Lib.hid (((HG.out).alloc (B := wr135.heap.size) rfl).to hW136 (by (try simp only [nb5, nb6]); rfl))
              replace HS := Lib.hid (((HS.out).alloc (B := wr135.heap.size) rfl (by rfl)).to hW136 (by (try simp only [nb5, nb6]); rfl))
              replace HMF : Hid (Below w89.heap.size w89 W136) := by subst hW136; exact Lib.hid ((mk_alloc HMF.out))
              replace HMU : Hid (Below wr135.heap.size wr135 W136) := by subst hW136; exact Lib.hid ((mk_alloc HMU.out))
              clear hW136
              refine wp_region_held_drew (S := (fun w' => Sx w w' [(wr135.heap.size, A.arr, 42), (B61_7, arr6 y481q11q12 y482q11q12, 90), (Br53_6, arr6 z57aq4 z57bq4, 90), (Br53_5, arr6 y481q11q12 y482q11q12, 90), (Br37_15, y483q11q13.arr, 42), (Br37_14, arr6 y481q11q12 y482q11q12, 86), (wr35.heap.size, #[.int .u8 (b0 : Int), .int .u8 (b1 : Int)], 84), (Br11_23, #[.bool z31q22.b, .slice z31q22.a z31q22.n z31q22.c, .slice z31q22.d z31q22.m z31q22.e, .bool z32q22.b, .slice z32q22.a z32q22.n z32q22.c, .slice z32q22.d z32q22.m z32q22.e, .bool z33q22.b, .slice z33q22.a z33q22.n z33q22.c, .slice z33q22.d z33q22.m z33q22.e, .int .i64 (m : Int)], 82), (w.heap.size, #[.int .u8 (n0 : Int), .int .u8 (n1 : Int), .int .u8 (n2 : Int), .int .u8 (n3 : Int)], 79)] [])) (by kernel_rfl) ((HS.out.drew).erase 1) (fun hh => ?_)
              replace HS := Lib.hid HS.out.drew
              replace HMF := Lib.hid (ext_trans HMF.out (Below.refl _ _).drew)
              replace HMU := Lib.hid (ext_trans HMU.out (Below.refl _ _).drew)
              replace HG := Lib.hid (HG.out.below (Below.refl _ _).drew)
              have HSW := Lib.hid HS.out.bel.size
              have HMFW := Lib.hid HMF.out.size
              have HMUW := Lib.hid HMU.out.size
              refine tkB (i := 1) (v := ?vk140) rfl ?hk140 ?rk140
              case hk140 => intro u hSu; (try dsimp only at hSu); obtain ⟨qb4c0, qb4c1, qb4c2, _⟩ := fac3 (x := y483q11q13) (hSu.at 4 _ _ _ rfl); clear hSu; go_simp <;> with_reducible rfl
              try simp only [nbs, Act.put]
              refine tkB (i := 2) (v := ?vk141) rfl ?hk141 ?rk141
              case hk141 => intro u hSu; (try dsimp only at hSu); obtain ⟨qb9c0, qb9c1, qb9c2, _⟩ := fac3 (x := A) (hSu.at 0 _ _ _ rfl); clear hSu; go_simp <;> with_reducible rfl
              try simp only [nbs, Act.put]
              refine wpAnyH_modular [0, 3, 4, 5, 6] [0, 3, 4, 5, 6] [] [184, 187, 188, 189, 190] #[true, true, true, true, true, true, true, false] 1 [(0, 184), (3, 187), (4, 188), (5, 189), (6, 190)] [(0, []), (3, []), (4, [3]), (5, [4]), (6, [0, 5])] [] [(0, fun v w => v = nw.val), (3, fun v w => v = nw.val), (4, fun v w => ∃ z142 : R3, v = z142.val ∧ Fr true w z142.val (a - (nowQ x0 (airQ al) j))), (5, fun v w => ∃ z143 : R3, v = z143.val ∧ Fr true w z143.val (x0 * (a - (nowQ x0 (airQ al) j)))), (6, fun v w => ∃ z144 : R3, v = z144.val ∧ Fr true w z144.val ((nowQ x0 (airQ al) j) + (x0 * (a - (nowQ x0 (airQ al) j)))))]
               rfl (by kernel_rfl) (by decide) rfl ⟨(fun v w w' hb e => e), ⟨(fun v w w' hb e => e), ⟨(fun v w w' hb ⟨z0, e, h0⟩ => ⟨z0, e, Fr.below h0 hb⟩), ⟨(fun v w w' hb ⟨z0, e, h0⟩ => ⟨z0, e, Fr.below h0 hb⟩), ⟨(fun v w w' hb ⟨z0, e, h0⟩ => ⟨z0, e, Fr.below h0 hb⟩), trivial⟩⟩⟩⟩⟩ trivial (fun w' hb => Sx.below hh hb) ⟨?_, ?_, ?_, ?_, ?_, trivial⟩ trivial (by decide) ?_
              ·
               refine StepM.of rfl (fun f w' hb hp K hK => ?_)
               have HSB := HS
               replace HS := Lib.hid (HS.out.below hb)
               simp only [fillA, fillT, List.foldl_cons, List.foldl_nil, Act.put, nb4, nb5, nb6]
               obtain ⟨b8c0, b8c1, b8c2, _⟩ := fac3 (x := nw) (HS.out.at 1 _ _ _ rfl)
               go_simp
               exact hK.out _ _ (nw.val) (by simp only [fillA, fillT, List.foldl_cons, List.foldl_nil, Act.put, nb4, nb5, nb6, nb1, nb2, nb3]) rfl (fun h => absurd h (by decide)) (Below.refl _ _)
              ·
               refine StepM.of rfl (fun f w' hb hp K hK => ?_)
               have HSB := HS
               replace HS := Lib.hid (HS.out.below hb)
               simp only [fillA, fillT, List.foldl_cons, List.foldl_nil, Act.put, nb4, nb5, nb6]
               obtain ⟨b8c0, b8c1, b8c2, _⟩ := fac3 (x := nw) (HS.out.at 1 _ _ _ rfl)
               go_simp
               exact hK.out _ _ (nw.val) (by simp only [fillA, fillT, List.foldl_cons, List.foldl_nil, Act.put, nb4, nb5, nb6, nb1, nb2, nb3]) rfl (fun h => absurd h (by decide)) (Below.refl _ _)
              ·
               refine StepM.of rfl (fun f w' hb hp K hK => ?_)
               obtain e3 : f 187 = nw.val := hp 3 (by decide)
               have HSB := HS
               replace HS := Lib.hid (HS.out.below hb)
               simp only [fillA, fillT, List.foldl_cons, List.foldl_nil, Act.put, nb4, nb5, nb6, e3]
               have a145 := HS.out.p 2 _ _ rfl
               have a146 := HS.out.p 3 _ _ rfl
               go_simp
               go_wp2_with (go_at_call 34; (with_reducible refine (subRat_any a (nowQ x0 (airQ al) j) _ _ _ a145 a146 (szR_mono SAA.out (by omega)) (szR_mono SNW.out (by omega))).mono ?_); rintro e w142 ⟨v142, rfl, hv142, hb142⟩; obtain ⟨z142, rfl⟩ := hv142.open3)
               exact hK.out _ _ (z142.val) (by simp only [fillA, fillT, List.foldl_cons, List.foldl_nil, Act.put, nb4, nb5, nb6, nb1, nb2, nb3, e3]) ⟨z142, rfl, hv142⟩ (fun h => absurd h (by decide)) hb142
              ·
               refine StepM.of rfl (fun f w' hb hp K hK => ?_)
               obtain ⟨z142, e4, h4_0⟩ : ∃ z142 : R3, f 188 = z142.val ∧ Fr true w' z142.val (a - (nowQ x0 (airQ al) j)) := hp 4 (by decide)
               have HSB := HS
               replace HS := Lib.hid (HS.out.below hb)
               replace HS := Lib.hid (HS.out.addP h4_0)
               simp only [fillA, fillT, List.foldl_cons, List.foldl_nil, Act.put, nb4, nb5, nb6, e4]
               have a147 := HS.out.p 7 _ _ rfl
               have a148 := HS.out.p 0 _ _ rfl
               go_simp
               go_wp2_with (go_at_call 33; (with_reducible refine (mulRat_any x0 (a - (nowQ x0 (airQ al) j)) _ _ _ a147 a148 (szR_mono SX0.out (by omega)) (szR_mono (szR_sub SAA.out SNW.out) (by omega))).mono ?_); rintro e w143 ⟨v143, rfl, hv143, hb143⟩; obtain ⟨z143, rfl⟩ := hv143.open3)
               exact hK.out _ _ (z143.val) (by simp only [fillA, fillT, List.foldl_cons, List.foldl_nil, Act.put, nb4, nb5, nb6, nb1, nb2, nb3, e4]) ⟨z143, rfl, hv143⟩ (fun h => absurd h (by decide)) hb143
              ·
               refine StepM.of rfl (fun f w' hb hp K hK => ?_)
               obtain e0 : f 184 = nw.val := hp 0 (by decide)
               obtain ⟨z143, e5, h5_0⟩ : ∃ z143 : R3, f 189 = z143.val ∧ Fr true w' z143.val (x0 * (a - (nowQ x0 (airQ al) j))) := hp 5 (by decide)
               have HSB := HS
               replace HS := Lib.hid (HS.out.below hb)
               replace HS := Lib.hid (HS.out.addP h5_0)
               simp only [fillA, fillT, List.foldl_cons, List.foldl_nil, Act.put, nb4, nb5, nb6, e0, e5]
               have a149 := HS.out.p 4 _ _ rfl
               have a150 := HS.out.p 0 _ _ rfl
               go_simp
               go_wp2_with (go_at_call 32; (with_reducible refine (addRat_any (nowQ x0 (airQ al) j) (x0 * (a - (nowQ x0 (airQ al) j))) _ _ _ a149 a150 (szR_mono SNW.out (by omega)) (szR_mono (szR_mul SX0.out (szR_sub SAA.out SNW.out)) (by omega))).mono ?_); rintro e w144 ⟨v144, rfl, hv144, hb144⟩; obtain ⟨z144, rfl⟩ := hv144.open3)
               exact hK.out _ _ (z144.val) (by simp only [fillA, fillT, List.foldl_cons, List.foldl_nil, Act.put, nb4, nb5, nb6, nb1, nb2, nb3, e0, e5]) ⟨z144, rfl, hv144⟩ (fun h => absurd h (by decide)) hb144
              ·
               as_aux_lemma =>
               intro f wr139 hb hp hd
               obtain e0 : f 184 = nw.val := hp 0 (by decide)
               obtain e3 : f 187 = nw.val := hp 3 (by decide)
               obtain ⟨z142, e4, h4_0⟩ : ∃ z142 : R3, f 188 = z142.val ∧ Fr true wr139 z142.val (a - (nowQ x0 (airQ al) j)) := hp 4 (by decide)
               obtain ⟨z143, e5, h5_0⟩ : ∃ z143 : R3, f 189 = z143.val ∧ Fr true wr139 z143.val (x0 * (a - (nowQ x0 (airQ al) j))) := hp 5 (by decide)
               obtain ⟨z144, e6, h6_0⟩ : ∃ z144 : R3, f 190 = z144.val ∧ Fr true wr139 z144.val ((nowQ x0 (airQ al) j) + (x0 * (a - (nowQ x0 (airQ al) j)))) := hp 6 (by decide)
               replace hh := Sx.below hh hb
               have hlt := HS.out.lt
               as_aux_lemma =>
               replace HS := Lib.hid (HS.out.below hb)
               replace HMF := Lib.hid (ext_trans HMF.out hb)
               replace HMU := Lib.hid (ext_trans HMU.out hb)
               have hltg := HG.out.row
               replace HG := Lib.hid (HG.out.below hb)
               replace HS := Lib.hid (HS.out.addP h4_0)
               replace HS := Lib.hid (HS.out.addP h5_0)
               replace HS := Lib.hid (HS.out.addP h6_0)
               as_aux_lemma =>
               simp only [fillA, fillT, List.foldl_cons, List.foldl_nil, Act.put, nb4, nb5, nb6, e0, e3, e4, e5, e6]
               clear hp hd hb hlt e0 e3 e4 e5 e6 hltg
               refine rdA (i := 7) rfl (fun K hK => ?_)
               obtain ⟨b8c0, b8c1, b8c2, b8f0, b8f1, b8f2⟩ := fac3 (x := nw) (HS.out.at 1 _ _ _ rfl)
               have b8l := blk_lt (HS.out.at 1 _ _ _ rfl)
               go_simp
               clear HMU
               refine hK.out _ _ ((((HS.out).st_R 1 nw z144 rfl)).erase 1) (fun hh => ?_)
               as_aux_lemma =>
               clear hK K b8c0 b8c1 b8c2 b8f0 b8f1 b8f2 b8l
               try simp only [nbs, Act.put]
               generalize hW151 : (((wr139).setCell _ _).setCell _ _).setCell _ _ = W151 at *
               replace HG := Lib.hid (((HG.out).st_R (HS.out) 1 nw z144 rfl).to hW151 (by (try simp only [nb5, nb6]); rfl))
               replace HS := Lib.hid (((HS.out).st_R 1 nw z144 rfl).to hW151 (by (try simp only [nb5, nb6]); rfl))
               replace HMF : Hid (Below w89.heap.size w89 W151) := by subst hW151; exact Lib.hid (mk_set (mk_set (mk_set HMF.out HG134.out) HG134.out) HG134.out)
               clear hW151
               refine wpAnyH_done (by kernel_rfl) ?_ _
               as_aux_lemma =>
               go_wp2_with fail
               refine wp_region_held_drew (S := (fun w' => Sx w w' [(wr135.heap.size, A.arr, 42), (w132.heap.size, z144.arr, 42), (B61_7, arr6 y481q11q12 y482q11q12, 90), (Br53_6, arr6 z57aq4 z57bq4, 90), (Br53_5, arr6 y481q11q12 y482q11q12, 90), (Br37_15, y483q11q13.arr, 42), (Br37_14, arr6 y481q11q12 y482q11q12, 86), (wr35.heap.size, #[.int .u8 (b0 : Int), .int .u8 (b1 : Int)], 84), (Br11_23, #[.bool z31q22.b, .slice z31q22.a z31q22.n z31q22.c, .slice z31q22.d z31q22.m z31q22.e, .bool z32q22.b, .slice z32q22.a z32q22.n z32q22.c, .slice z32q22.d z32q22.m z32q22.e, .bool z33q22.b, .slice z33q22.a z33q22.n z33q22.c, .slice z33q22.d z33q22.m z33q22.e, .int .i64 (m : Int)], 82), (w.heap.size, #[.int .u8 (n0 : Int), .int .u8 (n1 : Int), .int .u8 (n2 : Int), .int .u8 (n3 : Int)], 79)] [])) (by kernel_rfl) ((HS.out.drew).bare) (fun hh => ?_)
               replace HS := Lib.hid HS.out.drew
               replace HMF := Lib.hid (ext_trans HMF.out (Below.refl _ _).drew)
               replace HG := Lib.hid (HG.out.below (Below.refl _ _).drew)
               refine tkB (i := 0) (v := ?vk153) rfl ?hk153 ?rk153
               case hk153 => intro u hSu; go_simp <;> with_reducible rfl
               try simp only [nbs, Act.put]
               refine tkB (i := 1) (v := ?vk154) rfl ?hk154 ?rk154
               case hk154 => intro u hSu; go_simp <;> with_reducible rfl
               as_aux_lemma =>
               try simp only [nbs, Act.put]
               refine tkB (i := 2) (v := ?vk155) rfl ?hk155 ?rk155
               case hk155 => intro u hSu; go_simp <;> with_reducible rfl
               try simp only [nbs, Act.put]
               refine tkB (i := 4) (v := ?vk156) rfl ?hk156 ?rk156
               case hk156 => intro u hSu; (try dsimp only at hSu); obtain ⟨qb8c0, qb8c1, qb8c2, _⟩ := fac3 (x := z144) (hSu.at 1 _ _ _ rfl); clear hSu; go_simp <;> with_reducible rfl
               try simp only [nbs, Act.put]
               refine rdA (i := 3) rfl (fun K hK => ?_)
               have Fc0 := (HMF.out.cell (p := ⟨bf, of + j * 6, none⟩) HBF.out).trans F0.out
               have Fc1 := (HMF.out.cell (p := ⟨bf, of + j * 6 + 1, none⟩) HBF.out).trans F1.out
               as_aux_lemma =>
               have Fc2 := (HMF.out.cell (p := ⟨bf, of + j * 6 + 2, none⟩) HBF.out).trans F2.out
               have Fc3 := (HMF.out.cell (p := ⟨bf, of + j * 6 + 3, none⟩) HBF.out).trans F3.out
               have Fc4 := (HMF.out.cell (p := ⟨bf, of + j * 6 + 4, none⟩) HBF.out).trans F4.out
               have Fc5 := (HMF.out.cell (p := ⟨bf, of + j * 6 + 5, none⟩) HBF.out).trans F5.out
               go_simp
               refine hK.out _ _ hh (fun hh => ?_)
               clear hK K Fc0 Fc1 Fc2 Fc3 Fc4 Fc5
               try simp only [nbs, Act.put]
               as_aux_lemma =>
               refine rdA (i := 5) rfl (fun K hK => ?_)
               go_simp
               have a158 := HS.out.p 4 _ _ rfl
               have a159 := HS.out.p 3 _ _ rfl
               have a160 := HS.out.p 0 _ _ rfl
               go_wp2_with (go_at_call 35; (with_reducible refine (phas_any f0 f1 ((nowQ x0 (airQ al) j) + (x0 * (a - (nowQ x0 (airQ al) j)))) _ _ _ (rngP a158 a159) a160 (szR_mono S0.out (by omega)) (szR_mono S1.out (by omega)) (szR_mono SNJ.out (by omega))).mono ?_); rw [HHAS.out]; rintro e w157 ⟨rfl, hb157⟩)
               refine hK.out _ _ (Sx.below hh hb157) (fun hh => ?_)
               clear hK K
               as_aux_lemma =>
               try simp only [nbs, Act.put]
               replace HS := Lib.hid (HS.out.below hb157)
               replace HMF := Lib.hid (ext_trans HMF.out hb157)
               replace HG := Lib.hid (HG.out.below hb157)
               clear hb157 a158 a159 a160
               refine tkB (i := 6) (v := ?vk161) rfl ?hk161 ?rk161
               case hk161 => intro u hSu; go_simp <;> with_reducible rfl
               try simp only [nbs, Act.put]
               refine wpAnyH_done (by kernel_rfl) ?_ _
               as_aux_lemma =>
               go_wp2_with fail
               exact ⟨⟨j + 1, z144, by have := HLJ.out; omega, by go_num, Lib.hid (((((((((((HS.out).erase 0).addP (HS.out.p 14 _ _ rfl)).addP (HS.out.p 13 _ _ rfl)).addP (HS.out.p 12 _ _ rfl)).addP (HS.out.p 11 _ _ rfl)).addP (HS.out.p 10 _ _ rfl)).addP (HS.out.p 9 _ _ rfl)).addP (HS.out.p 8 _ _ rfl)).addP (HS.out.p 7 _ _ rfl)).addP (by rw [HN1.out]; exact (HS.out.p 0 _ _ rfl))), Lib.hid (HG.out.mono (fun b hb => ⟨b, by simp only [List.mem_cons] at hb ⊢; first | exact hb | (repeat (first | exact hb | right)), rfl⟩)), HMF⟩, meas_up HLJ.out⟩
             ·
              obtain rfl : j = al.length := by omega
              go_wp2_with fail
              exact ⟨⟨i + 1, rv61_1, rx61_1, rv61_2, rx61_2, by have := HLT.out; omega, by go_num, (by rw [HUA.out]), by first | rfl | rw [hlnT], by first | rfl | rw [hlnT], Lib.hid (((((((((((HS.out).erase 0).erase 0).erase 0).erase 0).erase 0).erase 0).erase 0).addP (HS.out.p 8 _ _ rfl)).addP (HS.out.p 7 _ _ rfl)).addP (HS.out.p 6 _ _ rfl)), Lib.hid (by rw [HTS.out, HRS.out]; exact HG.out.mono (fun b hb => ⟨b, by simp only [List.mem_cons] at hb ⊢; first | exact hb | (repeat (first | exact hb | right)), rfl⟩))⟩, meas_up HLT.out⟩
      ·
       as_aux_lemma =>
       obtain rfl : i = lg.length := by omega
       go_wp2_with fail
       refine wp_region_held_drew (S := (fun w' => Sx w w' [(Br11_23, #[.bool z31q22.b, .slice z31q22.a z31q22.n z31q22.c, .slice z31q22.d z31q22.m z31q22.e, .bool z32q22.b, .slice z32q22.a z32q22.n z32q22.c, .slice z32q22.d z32q22.m z32q22.e, .bool z33q22.b, .slice z33q22.a z33q22.n z33q22.c, .slice z33q22.d z33q22.m z33q22.e, .int .i64 (m : Int)], 82), (w.heap.size, #[.int .u8 (n0 : Int), .int .u8 (n1 : Int), .int .u8 (n2 : Int), .int .u8 (n3 : Int)], 79)] [])) (by kernel_rfl) ((HS.out.drew).bare) (fun hh => ?_)
       replace HS := Lib.hid HS.out.drew
       replace HG := Lib.hid (HG.out.below (Below.refl _ _).drew)
       refine tkB (i := 0) (v := ?vk163) rfl ?hk163 ?rk163
       case hk163 => intro u hSu; go_simp <;> with_reducible rfl
       try simp only [nbs, Act.put]
       refine tkB (i := 2) (v := ?vk164) rfl ?hk164 ?rk164
       case hk164 => intro u hSu; go_simp <;> with_reducible rfl
       as_aux_lemma =>
       try simp only [nbs, Act.put]
       refine tkB (i := 3) (v := ?vk165) rfl ?hk165 ?rk165
       case hk165 => intro u hSu; (try dsimp only at hSu); have qb1e := (hSu.at 0 _ _ _ rfl); have qb1c0 := blk_cell qb1e 0 (.bool z31q22.b) rfl; have qb1c1 := blk_cell qb1e 1 (.slice z31q22.a z31q22.n z31q22.c) rfl; have qb1c2 := blk_cell qb1e 2 (.slice z31q22.d z31q22.m z31q22.e) rfl; have qb1c3 := blk_cell qb1e 3 (.bool z32q22.b) rfl; have qb1c4 := blk_cell qb1e 4 (.slice z32q22.a z32q22.n z32q22.c) rfl; have qb1c5 := blk_cell qb1e 5 (.slice z32q22.d z32q22.m z32q22.e) rfl; have qb1c6 := blk_cell qb1e 6 (.bool z33q22.b) rfl; have qb1c7 := blk_cell qb1e 7 (.slice z33q22.a z33q22.n z33q22.c) rfl; have qb1c8 := blk_cell qb1e 8 (.slice z33q22.d z33q22.m z33q22.e) rfl; have qb1c9 := blk_cell qb1e 9 (.int .i64 (m : Int)) rfl; clear qb1e; clear hSu; go_simp <;> with_reducible rfl
       try simp only [nbs, Act.put]
       refine rdA (i := 1) rfl (fun K hK => ?_)
       go_simp
       go_wp2_with (go_at_call 30; (with_reducible refine (int0_any _).mono ?_); rintro e w166 ⟨v166, rfl, hv166, hb166⟩; obtain ⟨z166, rfl⟩ := hv166.open3)
       refine hK.out _ _ (Sx.below hh hb166) (fun hh => ?_)
       clear hK K
       as_aux_lemma =>
       try simp only [nbs, Act.put]
       replace HS := Lib.hid (HS.out.below hb166)
       replace HG := Lib.hid (HG.out.below hb166)
       clear hb166
       replace HS := Lib.hid (HS.out.addP hv166)
       clear hv166
       refine rdA (i := 4) rfl (fun K hK => ?_)
       go_simp
       as_aux_lemma =>
       have a168 := HS.out.p 0 _ _ rfl
       have a169 := HS.out.p 3 _ _ rfl
       have a170 := HS.out.p 2 _ _ rfl
       have a171 := HS.out.p 1 _ _ rfl
       go_wp2_with (go_at_call 36; (with_reducible refine (HA1.out _ _ _ _ z31q22 z32q22 z33q22 (RecsOf.ofRow (HG.out.row 1 _ rfl) (HG.out.mean 1 _ rfl)) a168 (frcs_row (by rw [HAL.out]; exact RecsOf.ofRow (HG.out.row 2 _ rfl) (HG.out.mean 2 _ rfl))) a169 a170 a171).mono ?_); rintro e w167 ⟨rfl, hb167⟩)
       refine hK.out _ _ (Sx.below hh hb167) (fun hh => ?_)
       clear hK K
       try simp only [nbs, Act.put]
       as_aux_lemma =>
       replace HS := Lib.hid (HS.out.below hb167)
       replace HG := Lib.hid (HG.out.below hb167)
       clear hb167 a168 a169 a170 a171
       refine tkB (i := 5) (v := ?vk172) rfl ?hk172 ?rk172
       case hk172 => intro u hSu; go_simp <;> with_reducible rfl
       try simp only [nbs, Act.put]
       refine tkB (i := 6) (v := ?vk173) rfl ?hk173 ?rk173
       case hk173 => intro u hSu; go_simp <;> with_reducible rfl
       try simp only [nbs, Act.put]
       refine tkB (i := 7) (v := ?vk174) rfl ?hk174 ?rk174
       case hk174 => intro u hSu; go_simp <;> with_reducible rfl
       as_aux_lemma =>
       try simp only [nbs, Act.put]
       refine tkB (i := 8) (v := ?vk175) rfl ?hk175 ?rk175
       case hk175 => intro u hSu; go_simp <;> with_reducible rfl
       try simp only [nbs, Act.put]
       refine tkB (i := 9) (v := ?vk176) rfl ?hk176 ?rk176
       case hk176 => intro u hSu; go_simp <;> with_reducible rfl
       try simp only [nbs, Act.put]
       refine wpAnyH_done (by kernel_rfl) ?_ _
       go_wp2_with fail
       refine wp_region_held_drew (S := (fun w' => Sx w w' [(Br11_23, #[.bool z31q22.b, .slice z31q22.a z31q22.n z31q22.c, .slice z31q22.d z31q22.m z31q22.e, .bool z32q22.b, .slice z32q22.a z32q22.n z32q22.c, .slice z32q22.d z32q22.m z32q22.e, .bool z33q22.b, .slice z33q22.a z33q22.n z33q22.c, .slice z33q22.d z33q22.m z33q22.e, .int .i64 (m : Int)], 82), (w.heap.size, #[.int .u8 (n0 : Int), .int .u8 (n1 : Int), .int .u8 (n2 : Int), .int .u8 (n3 : Int)], 79)] [])) (by kernel_rfl) ((HS.out.drew).bare) (fun hh => ?_)
       as_aux_lemma =>
       replace HS := Lib.hid HS.out.drew
       replace HG := Lib.hid (HG.out.below (Below.refl _ _).drew)
       refine tkB (i := 0) (v := ?vk178) rfl ?hk178 ?rk178
       case hk178 => intro u hSu; go_simp <;> with_reducible rfl
       try simp only [nbs, Act.put]
       refine tkB (i := 2) (v := ?vk179) rfl ?hk179 ?rk179
       case hk179 => intro u hSu; go_simp <;> with_reducible rfl
       try simp only [nbs, Act.put]
       refine tkB (i := 3) (v := ?vk180) rfl ?hk180 ?rk180
       case hk180 => intro u hSu; (try dsimp only at hSu); have qb1e := (hSu.at 0 _ _ _ rfl); have qb1c0 := blk_cell qb1e 0 (.bool z31q22.b) rfl; have qb1c1 := blk_cell qb1e 1 (.slice z31q22.a z31q22.n z31q22.c) rfl; have qb1c2 := blk_cell qb1e 2 (.slice z31q22.d z31q22.m z31q22.e) rfl; have qb1c3 := blk_cell qb1e 3 (.bool z32q22.b) rfl; have qb1c4 := blk_cell qb1e 4 (.slice z32q22.a z32q22.n z32q22.c) rfl; have qb1c5 := blk_cell qb1e 5 (.slice z32q22.d z32q22.m z32q22.e) rfl; have qb1c6 := blk_cell qb1e 6 (.bool z33q22.b) rfl; have qb1c7 := blk_cell qb1e 7 (.slice z33q22.a z33q22.n z33q22.c) rfl; have qb1c8 := blk_cell qb1e 8 (.slice z33q22.d z33q22.m z33q22.e) rfl; have qb1c9 := blk_cell qb1e 9 (.int .i64 (m : Int)) rfl; clear qb1e; clear hSu; go_simp <;> with_reducible rfl
       try simp only [nbs, Act.put]
       as_aux_lemma =>
       refine rdA (i := 1) rfl (fun K hK => ?_)
       go_simp
       go_wp2_with (go_at_call 30; (with_reducible refine (int0_any _).mono ?_); rintro e w181 ⟨v181, rfl, hv181, hb181⟩; obtain ⟨z181, rfl⟩ := hv181.open3)
       refine hK.out _ _ (Sx.below hh hb181) (fun hh => ?_)
       clear hK K
       try simp only [nbs, Act.put]
       replace HS := Lib.hid (HS.out.below hb181)
       replace HG := Lib.hid (HG.out.below hb181)
       as_aux_lemma =>
       clear hb181
       replace HS := Lib.hid (HS.out.addP hv181)
       clear hv181
       refine rdA (i := 4) rfl (fun K hK => ?_)
       go_simp
       have a183 := HS.out.p 0 _ _ rfl
       have a184 := HS.out.p 4 _ _ rfl
       have a185 := HS.out.p 3 _ _ rfl
       as_aux_lemma =>
       have a186 := HS.out.p 2 _ _ rfl
       go_wp2_with (go_at_call 36; (with_reducible refine (HA2.out _ _ _ _ z31q22 z32q22 z33q22 (RecsOf.ofRow (HG.out.row 0 _ rfl) (HG.out.mean 0 _ rfl)) a183 (frcs_row (by rw [HAL.out]; exact RecsOf.ofRow (HG.out.row 2 _ rfl) (HG.out.mean 2 _ rfl))) a184 a185 a186).mono ?_); rintro e w182 ⟨rfl, hb182⟩)
       refine hK.out _ _ (Sx.below hh hb182) (fun hh => ?_)
       clear hK K
       try simp only [nbs, Act.put]
       replace HS := Lib.hid (HS.out.below hb182)
       replace HG := Lib.hid (HG.out.below hb182)
       clear hb182 a183 a184 a185 a186
       as_aux_lemma =>
       refine tkB (i := 5) (v := ?vk187) rfl ?hk187 ?rk187
       case hk187 => intro u hSu; go_simp <;> with_reducible rfl
       try simp only [nbs, Act.put]
       refine tkB (i := 6) (v := ?vk188) rfl ?hk188 ?rk188
       case hk188 => intro u hSu; go_simp <;> with_reducible rfl
       try simp only [nbs, Act.put]
       refine tkB (i := 7) (v := ?vk189) rfl ?hk189 ?rk189
       case hk189 => intro u hSu; go_simp <;> with_reducible rfl
       try simp only [nbs, Act.put]
       refine tkB (i := 8) (v := ?vk190) rfl ?hk190 ?rk190
       case hk190 => intro u hSu; go_simp <;> with_reducible rfl
       try simp only [nbs, Act.put]
       as_aux_lemma =>
       refine tkB (i := 9) (v := ?vk191) rfl ?hk191 ?rk191
       case hk191 => intro u hSu; go_simp <;> with_reducible rfl
       try simp only [nbs, Act.put]
       refine wpAnyH_done (by kernel_rfl) ?_ _
       go_wp2_with fail
       obtain ⟨ta, tc, ht, htc, _⟩ := (HG.out.row 1 _ rfl).capOk
       dsimp only at ht
       rw [lgT_len] at ht htc
       subst ht
       as_aux_lemma =>
       have htc1 : 1 ≤ tc := by have := HL0.out; omega
       have htc2 : (1 : Int) ≤ tc := by omega
       obtain ⟨bt, ot, hta⟩ : ∃ b o, ta = some ⟨b, o, none⟩ := by
        obtain ⟨b, o, _, _, h, _⟩ := recs_at (RecsOf.ofRow (HG.out.row 1 _ rfl) (HG.out.mean 1 _ rfl)) (i := 0) (by rw [lgT_len]; exact HL0.out)
        exact ⟨b, o, h⟩
       subst hta
       refine wp_region_held_drew (S := (fun w' => Sx w w' [(Br11_23, #[.bool z31q22.b, .slice z31q22.a z31q22.n z31q22.c, .slice z31q22.d z31q22.m z31q22.e, .bool z32q22.b, .slice z32q22.a z32q22.n z32q22.c, .slice z32q22.d z32q22.m z32q22.e, .bool z33q22.b, .slice z33q22.a z33q22.n z33q22.c, .slice z33q22.d z33q22.m z33q22.e, .int .i64 (m : Int)], 82), (w.heap.size, #[.int .u8 (n0 : Int), .int .u8 (n1 : Int), .int .u8 (n2 : Int), .int .u8 (n3 : Int)], 79)] [])) (by kernel_rfl) ((HS.out.drew).bare) (fun hh => ?_)
       replace HS := Lib.hid HS.out.drew
       replace HG := Lib.hid (HG.out.below (Below.refl _ _).drew)
       refine tkB (i := 0) (v := ?vk193) rfl ?hk193 ?rk193
       case hk193 => intro u hSu; go_simp <;> with_reducible rfl
       as_aux_lemma =>
       try simp only [nbs, Act.put]
       refine tkB (i := 1) (v := ?vk194) rfl ?hk194 ?rk194
       case hk194 => intro u hSu; go_simp <;> with_reducible rfl
       try simp only [nbs, Act.put]
       refine tkB (i := 3) (v := ?vk195) rfl ?hk195 ?rk195
       case hk195 => intro u hSu; go_simp <;> with_reducible rfl
       try simp only [nbs, Act.put]
       refine tkB (i := 4) (v := ?vk196) rfl ?hk196 ?rk196
       case hk196 => intro u hSu; (try dsimp only at hSu); have qb1e := (hSu.at 0 _ _ _ rfl); have qb1c0 := blk_cell qb1e 0 (.bool z31q22.b) rfl; have qb1c1 := blk_cell qb1e 1 (.slice z31q22.a z31q22.n z31q22.c) rfl; have qb1c2 := blk_cell qb1e 2 (.slice z31q22.d z31q22.m z31q22.e) rfl; have qb1c3 := blk_cell qb1e 3 (.bool z32q22.b) rfl; have qb1c4 := blk_cell qb1e 4 (.slice z32q22.a z32q22.n z32q22.c) rfl; have qb1c5 := blk_cell qb1e 5 (.slice z32q22.d z32q22.m z32q22.e) rfl; have qb1c6 := blk_cell qb1e 6 (.bool z33q22.b) rfl; have qb1c7 := blk_cell qb1e 7 (.slice z33q22.a z33q22.n z33q22.c) rfl; have qb1c8 := blk_cell qb1e 8 (.slice z33q22.d z33q22.m z33q22.e) rfl; have qb1c9 := blk_cell qb1e 9 (.int .i64 (m : Int)) rfl; clear qb1e; clear hSu; go_simp <;> with_reducible rfl
       try simp only [nbs, Act.put]
       refine rdA (i := 2) rfl (fun K hK => ?_)
       as_aux_lemma =>
       go_simp
       go_wp2_with (go_at_call 30; (with_reducible refine (int0_any _).mono ?_); rintro e w197 ⟨v197, rfl, hv197, hb197⟩; obtain ⟨z197, rfl⟩ := hv197.open3)
       refine hK.out _ _ (Sx.below hh hb197) (fun hh => ?_)
       clear hK K
       try simp only [nbs, Act.put]
       replace HS := Lib.hid (HS.out.below hb197)
       replace HG := Lib.hid (HG.out.below hb197)
       clear hb197
       as_aux_lemma =>
       replace HS := Lib.hid (HS.out.addP hv197)
       clear hv197
       refine rdA (i := 5) rfl (fun K hK => ?_)
       go_simp
       have a199 := HS.out.p 0 _ _ rfl
       have a200 := HS.out.p 5 _ _ rfl
       have a201 := HS.out.p 4 _ _ rfl
       have a202 := HS.out.p 3 _ _ rfl
       as_aux_lemma =>
       go_wp2_with (go_at_call 36; (with_reducible refine (HA3.out _ _ _ _ z31q22 z32q22 z33q22 (recs_first (RecsOf.ofRow (HG.out.row 1 _ rfl) (HG.out.mean 1 _ rfl)) (by rw [lgT_len]; exact HL0.out) (lgT_at _ _ HL0.out)) a199 (frcs_row (by rw [HAL.out]; exact RecsOf.ofRow (HG.out.row 2 _ rfl) (HG.out.mean 2 _ rfl))) a200 a201 a202).mono ?_); rintro e w198 ⟨rfl, hb198⟩)
       refine hK.out _ _ (Sx.below hh hb198) (fun hh => ?_)
       clear hK K
       try simp only [nbs, Act.put]
       replace HS := Lib.hid (HS.out.below hb198)
       replace HG := Lib.hid (HG.out.below hb198)
       clear hb198 a199 a200 a201 a202
       refine tkB (i := 6) (v := ?vk203) rfl ?hk203 ?rk203
       case hk203 => intro u hSu; go_simp <;> with_reducible rfl
       as_aux_lemma =>
       try simp only [nbs, Act.put]
       refine tkB (i := 7) (v := ?vk204) rfl ?hk204 ?rk204
       case hk204 => intro u hSu; go_simp <;> with_reducible rfl
       try simp only [nbs, Act.put]
       refine tkB (i := 8) (v := ?vk205) rfl ?hk205 ?rk205
       case hk205 => intro u hSu; go_simp <;> with_reducible rfl
       try simp only [nbs, Act.put]
       refine tkB (i := 9) (v := ?vk206) rfl ?hk206 ?rk206
       case hk206 => intro u hSu; go_simp <;> with_reducible rfl
       try simp only [nbs, Act.put]
       refine tkB (i := 10) (v := ?vk207) rfl ?hk207 ?rk207
       case hk207 => intro u hSu; go_simp <;> with_reducible rfl
       as_aux_lemma =>
       try simp only [nbs, Act.put]
       refine wpAnyH_done (by kernel_rfl) ?_ _
       cases t208 : (i1 == (-1)) with
       | true =>
        have habi1 : upAll (lgOk le mo ri (m : Int) (airQ al) (lgA lg) (lgB lg)) lg.length = true := by rw [← HI1.out]; exact t208
        have h2eq : (i2 == (-1)) = true := by rw [HI2.out]; exact habi1
        have hpi1 : i1 = -1 := by simpa using t208
        have hdi1 : decide (i1 = -1) = true := decide_eq_true hpi1
        have hpi2 : i2 = -1 := by simpa using h2eq
        have hdi2 : decide (i2 = -1) = true := decide_eq_true hpi2
        have h3eq : i3 = -1 := HI3.out habi1
        have h3b : (i3 == (-1)) = true := by rw [h3eq]; rfl
        have hpi3 : i3 = -1 := by simpa using h3b
        have hdi3 : decide (i3 = -1) = true := decide_eq_true hpi3
        go_wp2_with fail
        refine (awake05_any _).mono ?_
        rintro e w209 ⟨rfl, hb209⟩
        replace HS := Lib.hid (HS.out.below hb209)
        replace HG := Lib.hid (HG.out.below hb209)
        clear hb209
        go_wp2_with fail
        go_ret
        exact ⟨by rfl, HS.out.bel⟩
       | false =>
        have habi1 : upAll (lgOk le mo ri (m : Int) (airQ al) (lgA lg) (lgB lg)) lg.length = false := by rw [← HI1.out]; exact t208
        have h2eq : (i2 == (-1)) = false := by rw [HI2.out]; exact habi1
        have hpi1 : ¬ i1 = -1 := by simpa using t208
        have hdi1 : decide (i1 = -1) = false := decide_eq_false hpi1
        have hpi2 : ¬ i2 = -1 := by simpa using h2eq
        have hdi2 : decide (i2 = -1) = false := decide_eq_false hpi2
        go_wp2_with fail
        refine (awake05_any _).mono ?_
        rintro e w210 ⟨rfl, hb210⟩
        replace HS := Lib.hid (HS.out.below hb210)
        replace HG := Lib.hid (HG.out.below hb210)
        clear hb210
        go_wp2_with fail
        go_ret
        exact ⟨by rfl, HS.out.bel⟩
end Go.Proofs.YthhnkobkdhjfgaaGreat
