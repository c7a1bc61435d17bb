/- Part i of the lemmas and walks. -/
import Derived.Test.YthdgeindjphklaaGreatFh

namespace Go.Proofs.YthdgeindjphklaaGreat
open Go.RowKit

theorem ofN_any (n d : Int) (w : World) (h : i64P (n, d)) : Calls Tryz.prog 18 #[.agg #[.int .i64 n, .int .i64 d]] w (RetRat (fracQ n d) w) := of_any n d w h.1.1 h.1.2 h.2.1 h.2.2
theorem qofN_any (n d : Int) (w : World) (h : i64P (n, d)) : Calls Tryz.prog 20 #[.agg #[.int .i64 n, .int .i64 d]] w (RetR (fracQ n d) w) := qof_any n d w h.1.1 h.1.2 h.2.1 h.2.2
theorem fracQ_bd {n d : Int} (h : i64P (n, d)) : bdQ 9223372036854775808 (fracQ n d) := by
 obtain ⟨⟨h1, h2⟩, _, _⟩ := h
 dsimp only at h1 h2
 have e : (((9223372036854775808 : Nat) : Int) : Rat) = ((9223372036854775808 : Int) : Rat) := rfl
 have g1 : ((-9223372036854775808 : Int) : Rat) ≤ (n : Rat) := Rat.intCast_le_intCast.2 h1
 have g2 : (n : Rat) ≤ ((9223372036854775808 : Int) : Rat) := Rat.intCast_le_intCast.2 (by omega)
 have e2 : ((-9223372036854775808 : Int) : Rat) = -((9223372036854775808 : Int) : Rat) := by rw [← Rat.intCast_neg] <;> rfl
 have hB : (0 : Rat) ≤ ((9223372036854775808 : Int) : Rat) := Rat.intCast_le_intCast.2 (by omega : (0 : Int) ≤ 9223372036854775808)
 rw [e2] at g1
 unfold bdQ fracQ
 rw [e]
 generalize ((9223372036854775808 : Int) : Rat) = B at *
 split
 ·
  exact ⟨g1, g2⟩
 ·
  rename_i hd
  have hd1 : (1 : Int) ≤ d := by omega
  have hd2 : ((1 : Int) : Rat) ≤ (d : Rat) := Rat.intCast_le_intCast.2 hd1
  have hd3 : ((1 : Int) : Rat) = 1 := rfl
  rw [hd3] at hd2
  generalize (d : Rat) = D at *
  generalize (n : Rat) = N at *
  have hx : N / D * D = N := Rat.div_mul_cancel (by grind)
  generalize N / D = x at *
  constructor
  ·
   rcases Decidable.em (-B ≤ x) with h | h
   ·
    exact h
   ·
    have g := Rat.mul_nonneg (a := -B - x) (b := D - 1) (by grind) (by grind)
    have g3 := Rat.mul_nonneg (a := B) (b := D - 1) hB (by grind)
    grind
  ·
   rcases Decidable.em (x ≤ B) with h | h
   ·
    exact h
   ·
    have g := Rat.mul_nonneg (a := x - B) (b := D - 1) (by grind) (by grind)
    have g3 := Rat.mul_nonneg (a := B) (b := D - 1) hB (by grind)
    grind
theorem bdQ_zero (B : Nat) : bdQ B 0 := by
 have h : (0 : Rat) ≤ ((B : Int) : Rat) := Rat.intCast_le_intCast.2 (by omega : (0 : Int) ≤ (B : Int))
 constructor <;> grind
theorem fracsQ_at {fs : List (Int × Int)} {i : Nat} (h : i < fs.length) : (fracsQ fs).getD i 0 = fracQ (fs.getD i (0, 0)).1 (fs.getD i (0, 0)).2 := by
 unfold fracsQ
 simp [List.getD, h]
theorem fracsQ_out {fs : List (Int × Int)} {i : Nat} (h : ¬ i < fs.length) : (fracsQ fs).getD i 0 = 0 := by
 rw [List.getD_eq_getElem?_getD, List.getElem?_eq_none (by simp [fracsQ]; omega)]
 rfl
theorem fracsQ_bd {fs : List (Int × Int)} (hr : ∀ i, i < fs.length → i64P (fs.getD i (0, 0))) (i : Nat) : bdQ 9223372036854775808 ((fracsQ fs).getD i 0) := by
 by_cases h : i < fs.length
 ·
  rw [fracsQ_at h]; exact fracQ_bd (hr i h)
 ·
  rw [fracsQ_out h]; exact bdQ_zero _
theorem fracsQ_szN {fs : List (Int × Int)} (hr : ∀ i, i < fs.length → i64P (fs.getD i (0, 0))) (i : Nat) : szR ((fracsQ fs).getD i 0) 1000 := by
 by_cases h : i < fs.length
 ·
  rw [fracsQ_at h]; exact szR_mono (fracP_sz (hr i h)) (by omega)
 ·
  rw [fracsQ_out h]; exact szR_zero _ (by omega)
theorem fracQ_sz30 {n d : Int} (h : i64P (n, d)) : szR (fracQ n d) 30 := szR_mono (fracQ_szR n d h.1.1 h.1.2 h.2.1 h.2.2) (by omega)
theorem flErr_part {l0 l1 : Rat} {n : Nat} (h : flErr l0 l1 n = 0) : partB l0 l1 = true := by
 unfold flErr at h
 rcases Bool.eq_false_or_eq_true (partB l0 l1) with hb | hb
 ·
  exact hb
 ·
  rw [if_pos hb] at h; exact absurd h (by decide)
theorem fl_szs {n d : Int} {l0 l1 : Rat} {k : Nat} {fs : List (Int × Int)} (hk : k ≤ 256) (h : i64P (n, d)) (hr : ∀ i, i < fs.length → i64P (fs.getD i (0, 0))) (hll : l0 ≤ l1) (m : Nat) (he : flErr l0 l1 m = 0) (i : Nat) :
  szR (flUp (fracQ n d) l0 l1 k (fracsQ fs) i).1 30 ∧ szR (flUp (fracQ n d) l0 l1 k (fracsQ fs) i).2 30 := by
 obtain ⟨p1, p2⟩ := partB_iff.1 (flErr_part he)
 exact (fl_ok hk (by omega) (fracQ_bd h) (fracQ_sz30 h) p1 (by grind) (by grind) p2 (fracsQ_bd hr) i).2.2
theorem flR_szs {n d : Int} {l0 l1 : Rat} {k : Nat} {fs : List (Int × Int)} (hk : k ≤ 256) (h : i64P (n, d)) (hr : ∀ i, i < fs.length → i64P (fs.getD i (0, 0))) (hll : l0 ≤ l1) (m c : Nat) (he : flErr l0 l1 m = 0) (i j : Nat) :
  szR (((flR (fracQ n d) l0 l1 k (fracsQ fs) c).getD i []).getD j 0) 1000 := by
 by_cases hi : i < c
 ·
  rw [flR_at _ _ _ _ _ hi]
  obtain ⟨g1, g2⟩ := fl_szs hk h hr hll m he (i + 1)
  match j with
  | 0 => exact szR_mono g1 (by omega)
  | 1 => exact szR_mono g2 (by omega)
  | j + 2 => exact szR_zero _ (by omega)
 ·
  have e : (flR (fracQ n d) l0 l1 k (fracsQ fs) c).getD i [] = [] := by
   rw [List.getD_eq_getElem?_getD, List.getElem?_eq_none (by rw [flR_len]; omega)]
   rfl
  rw [e]
  exact szR_zero _ (by omega)
theorem pairs4 {W : World} {B T : Nat} {n0 d0 n1 d1 n2 d2 n3 d3 : Int} (h : W.heap[B]? = some (.cells #[.int .i64 n0, .int .i64 d0, .int .i64 n1, .int .i64 d1, .int .i64 n2, .int .i64 d2, .int .i64 n3, .int .i64 d3] T (0, 0))) : PairsOf W (.slice (some ⟨B, 0, none⟩) 4 4) [(n0, d0), (n1, d1), (n2, d2), (n3, d3)] := by
 refine ⟨_, 4, rfl, fun _ => ⟨B, 0, rfl, blk_lt h, fun i hi => ?_⟩⟩
 match i, hi with
 | 0, _ => exact ⟨blk_cell h 0 _ rfl, blk_cell h 1 _ rfl⟩
 | 1, _ => exact ⟨blk_cell h 2 _ rfl, blk_cell h 3 _ rfl⟩
 | 2, _ => exact ⟨blk_cell h 4 _ rfl, blk_cell h 5 _ rfl⟩
 | 3, _ => exact ⟨blk_cell h 6 _ rfl, blk_cell h 7 _ rfl⟩
 | i + 4, hi => (have h4 : i + 4 < 4 := hi; omega)
theorem light4_any (n0 d0 n1 d1 n2 d2 n3 d3 : Int) (v : Value) (w : World) (h : PairsOf w v [(n0, d0), (n1, d1), (n2, d2), (n3, d3)]) : Calls Tryz.prog 13 #[v] w (RetBool (lightUp [(n0, d0), (n1, d1), (n2, d2), (n3, d3)] 4) w) := light_any [(n0, d0), (n1, d1), (n2, d2), (n3, d3)] v w h (by simp)
def needV (y1 y2 y3 : R3) (m : Int) : Value := .agg #[.bool y1.b, .slice y1.a y1.n y1.c, .slice y1.d y1.m y1.e, .bool y2.b, .slice y2.a y2.n y2.c, .slice y2.d y2.m y2.e, .bool y3.b, .slice y3.a y3.n y3.c, .slice y3.d y3.m y3.e, .int .i64 m]
def RetNeed (q1 q2 q3 : Rat) (m : Int) (w : World) (e : Ending) (w' : World) : Prop :=
 ∃ y1 y2 y3 z1 z2 z3 : R3, e = .returned (.tuple #[needV y1 y2 y3 m, needV z1 z2 z3 m]) ∧ (IsRat w' y1.val q1 ∧ IsRat w' y2.val q2 ∧ IsRat w' y3.val q3) ∧ (IsR w' z1.val q1 ∧ IsR w' z2.val q2 ∧ IsR w' z3.val q3) ∧ Below w.heap.size w w'
theorem Sx.st_RRRI {w0 w : World} {bs : List Bx} {fs : List Fx} (h : Sx w0 w bs fs) (i : Nat) (o0 : R3) (o1 : R3) (o2 : R3) (o3 : Int) (n0 : R3) (n1 : R3) (n2 : R3) (n3 : Int) {B T : Nat} (hi : bs[i]? = some (B, #[.bool o0.b, .slice o0.a o0.n o0.c, .slice o0.d o0.m o0.e, .bool o1.b, .slice o1.a o1.n o1.c, .slice o1.d o1.m o1.e, .bool o2.b, .slice o2.a o2.n o2.c, .slice o2.d o2.m o2.e, .int .i64 o3], T)) :
  Sx w0 (((((((((((w).setCell ⟨B, 0, none⟩ (.bool n0.b)).setCell ⟨B, 1, none⟩ (.slice n0.a n0.n n0.c)).setCell ⟨B, 2, none⟩ (.slice n0.d n0.m n0.e)).setCell ⟨B, 3, none⟩ (.bool n1.b)).setCell ⟨B, 4, none⟩ (.slice n1.a n1.n n1.c)).setCell ⟨B, 5, none⟩ (.slice n1.d n1.m n1.e)).setCell ⟨B, 6, none⟩ (.bool n2.b)).setCell ⟨B, 7, none⟩ (.slice n2.a n2.n n2.c)).setCell ⟨B, 8, none⟩ (.slice n2.d n2.m n2.e)).setCell ⟨B, 9, none⟩ (.int .i64 n3)) (bs.set i (B, #[.bool n0.b, .slice n0.a n0.n n0.c, .slice n0.d n0.m n0.e, .bool n1.b, .slice n1.a n1.n n1.c, .slice n1.d n1.m n1.e, .bool n2.b, .slice n2.a n2.n n2.c, .slice n2.d n2.m n2.e, .int .i64 n3], T)) fs := by
 have hl := (List.getElem?_eq_some_iff.1 hi).1
 have g := ((((((((((h).set i hi 0 (v := .bool n0.b) rfl).set i (by rw [List.getElem?_set, if_pos rfl, if_pos (by simpa using hl)]) 1 (v := .slice n0.a n0.n n0.c) rfl).set i (by rw [List.getElem?_set, if_pos rfl, if_pos (by simpa using hl)]) 2 (v := .slice n0.d n0.m n0.e) rfl).set i (by rw [List.getElem?_set, if_pos rfl, if_pos (by simpa using hl)]) 3 (v := .bool n1.b) rfl).set i (by rw [List.getElem?_set, if_pos rfl, if_pos (by simpa using hl)]) 4 (v := .slice n1.a n1.n n1.c) rfl).set i (by rw [List.getElem?_set, if_pos rfl, if_pos (by simpa using hl)]) 5 (v := .slice n1.d n1.m n1.e) rfl).set i (by rw [List.getElem?_set, if_pos rfl, if_pos (by simpa using hl)]) 6 (v := .bool n2.b) rfl).set i (by rw [List.getElem?_set, if_pos rfl, if_pos (by simpa using hl)]) 7 (v := .slice n2.a n2.n n2.c) rfl).set i (by rw [List.getElem?_set, if_pos rfl, if_pos (by simpa using hl)]) 8 (v := .slice n2.d n2.m n2.e) rfl).set i (by rw [List.getElem?_set, if_pos rfl, if_pos (by simpa using hl)]) 9 (v := .int .i64 n3) rfl
 simpa using g
theorem GsR.st_RRRI {w0 w : World} {bs : List Bx} {gs : List GrR} {fs : List Fx} (h : GsR w0 w bs gs) (hs : Sx w0 w bs fs) (i : Nat) (o0 : R3) (o1 : R3) (o2 : R3) (o3 : Int) (n0 : R3) (n1 : R3) (n2 : R3) (n3 : Int) {B T : Nat} (hi : bs[i]? = some (B, #[.bool o0.b, .slice o0.a o0.n o0.c, .slice o0.d o0.m o0.e, .bool o1.b, .slice o1.a o1.n o1.c, .slice o1.d o1.m o1.e, .bool o2.b, .slice o2.a o2.n o2.c, .slice o2.d o2.m o2.e, .int .i64 o3], T)) :
  GsR w0 (((((((((((w).setCell ⟨B, 0, none⟩ (.bool n0.b)).setCell ⟨B, 1, none⟩ (.slice n0.a n0.n n0.c)).setCell ⟨B, 2, none⟩ (.slice n0.d n0.m n0.e)).setCell ⟨B, 3, none⟩ (.bool n1.b)).setCell ⟨B, 4, none⟩ (.slice n1.a n1.n n1.c)).setCell ⟨B, 5, none⟩ (.slice n1.d n1.m n1.e)).setCell ⟨B, 6, none⟩ (.bool n2.b)).setCell ⟨B, 7, none⟩ (.slice n2.a n2.n n2.c)).setCell ⟨B, 8, none⟩ (.slice n2.d n2.m n2.e)).setCell ⟨B, 9, none⟩ (.int .i64 n3)) (bs.set i (B, #[.bool n0.b, .slice n0.a n0.n n0.c, .slice n0.d n0.m n0.e, .bool n1.b, .slice n1.a n1.n n1.c, .slice n1.d n1.m n1.e, .bool n2.b, .slice n2.a n2.n n2.c, .slice n2.d n2.m n2.e, .int .i64 n3], T)) gs := by
 have hl := (List.getElem?_eq_some_iff.1 hi).1
 have g := ((((((((((h).set2 (hs) i hi 0 (.bool n0.b)).set2 ((hs).set i hi 0 (v := .bool n0.b) rfl) i (by rw [List.getElem?_set, if_pos rfl, if_pos (by simpa using hl)]) 1 (.slice n0.a n0.n n0.c)).set2 (((hs).set i hi 0 (v := .bool n0.b) rfl).set i (by rw [List.getElem?_set, if_pos rfl, if_pos (by simpa using hl)]) 1 (v := .slice n0.a n0.n n0.c) rfl) i (by rw [List.getElem?_set, if_pos rfl, if_pos (by simpa using hl)]) 2 (.slice n0.d n0.m n0.e)).set2 ((((hs).set i hi 0 (v := .bool n0.b) rfl).set i (by rw [List.getElem?_set, if_pos rfl, if_pos (by simpa using hl)]) 1 (v := .slice n0.a n0.n n0.c) rfl).set i (by rw [List.getElem?_set, if_pos rfl, if_pos (by simpa using hl)]) 2 (v := .slice n0.d n0.m n0.e) rfl) i (by rw [List.getElem?_set, if_pos rfl, if_pos (by simpa using hl)]) 3 (.bool n1.b)).set2 (((((hs).set i hi 0 (v := .bool n0.b) rfl).set i (by rw [List.getElem?_set, if_pos rfl, if_pos (by simpa using hl)]) 1 (v := .slice n0.a n0.n n0.c) rfl).set i (by rw [List.getElem?_set, if_pos rfl, if_pos (by simpa using hl)]) 2 (v := .slice n0.d n0.m n0.e) rfl).set i (by rw [List.getElem?_set, if_pos rfl, if_pos (by simpa using hl)]) 3 (v := .bool n1.b) rfl) i (by rw [List.getElem?_set, if_pos rfl, if_pos (by simpa using hl)]) 4 (.slice n1.a n1.n n1.c)).set2 ((((((hs).set i hi 0 (v := .bool n0.b) rfl).set i (by rw [List.getElem?_set, if_pos rfl, if_pos (by simpa using hl)]) 1 (v := .slice n0.a n0.n n0.c) rfl).set i (by rw [List.getElem?_set, if_pos rfl, if_pos (by simpa using hl)]) 2 (v := .slice n0.d n0.m n0.e) rfl).set i (by rw [List.getElem?_set, if_pos rfl, if_pos (by simpa using hl)]) 3 (v := .bool n1.b) rfl).set i (by rw [List.getElem?_set, if_pos rfl, if_pos (by simpa using hl)]) 4 (v := .slice n1.a n1.n n1.c) rfl) i (by rw [List.getElem?_set, if_pos rfl, if_pos (by simpa using hl)]) 5 (.slice n1.d n1.m n1.e)).set2 (((((((hs).set i hi 0 (v := .bool n0.b) rfl).set i (by rw [List.getElem?_set, if_pos rfl, if_pos (by simpa using hl)]) 1 (v := .slice n0.a n0.n n0.c) rfl).set i (by rw [List.getElem?_set, if_pos rfl, if_pos (by simpa using hl)]) 2 (v := .slice n0.d n0.m n0.e) rfl).set i (by rw [List.getElem?_set, if_pos rfl, if_pos (by simpa using hl)]) 3 (v := .bool n1.b) rfl).set i (by rw [List.getElem?_set, if_pos rfl, if_pos (by simpa using hl)]) 4 (v := .slice n1.a n1.n n1.c) rfl).set i (by rw [List.getElem?_set, if_pos rfl, if_pos (by simpa using hl)]) 5 (v := .slice n1.d n1.m n1.e) rfl) i (by rw [List.getElem?_set, if_pos rfl, if_pos (by simpa using hl)]) 6 (.bool n2.b)).set2 ((((((((hs).set i hi 0 (v := .bool n0.b) rfl).set i (by rw [List.getElem?_set, if_pos rfl, if_pos (by simpa using hl)]) 1 (v := .slice n0.a n0.n n0.c) rfl).set i (by rw [List.getElem?_set, if_pos rfl, if_pos (by simpa using hl)]) 2 (v := .slice n0.d n0.m n0.e) rfl).set i (by rw [List.getElem?_set, if_pos rfl, if_pos (by simpa using hl)]) 3 (v := .bool n1.b) rfl).set i (by rw [List.getElem?_set, if_pos rfl, if_pos (by simpa using hl)]) 4 (v := .slice n1.a n1.n n1.c) rfl).set i (by rw [List.getElem?_set, if_pos rfl, if_pos (by simpa using hl)]) 5 (v := .slice n1.d n1.m n1.e) rfl).set i (by rw [List.getElem?_set, if_pos rfl, if_pos (by simpa using hl)]) 6 (v := .bool n2.b) rfl) i (by rw [List.getElem?_set, if_pos rfl, if_pos (by simpa using hl)]) 7 (.slice n2.a n2.n n2.c)).set2 (((((((((hs).set i hi 0 (v := .bool n0.b) rfl).set i (by rw [List.getElem?_set, if_pos rfl, if_pos (by simpa using hl)]) 1 (v := .slice n0.a n0.n n0.c) rfl).set i (by rw [List.getElem?_set, if_pos rfl, if_pos (by simpa using hl)]) 2 (v := .slice n0.d n0.m n0.e) rfl).set i (by rw [List.getElem?_set, if_pos rfl, if_pos (by simpa using hl)]) 3 (v := .bool n1.b) rfl).set i (by rw [List.getElem?_set, if_pos rfl, if_pos (by simpa using hl)]) 4 (v := .slice n1.a n1.n n1.c) rfl).set i (by rw [List.getElem?_set, if_pos rfl, if_pos (by simpa using hl)]) 5 (v := .slice n1.d n1.m n1.e) rfl).set i (by rw [List.getElem?_set, if_pos rfl, if_pos (by simpa using hl)]) 6 (v := .bool n2.b) rfl).set i (by rw [List.getElem?_set, if_pos rfl, if_pos (by simpa using hl)]) 7 (v := .slice n2.a n2.n n2.c) rfl) i (by rw [List.getElem?_set, if_pos rfl, if_pos (by simpa using hl)]) 8 (.slice n2.d n2.m n2.e)).set2 ((((((((((hs).set i hi 0 (v := .bool n0.b) rfl).set i (by rw [List.getElem?_set, if_pos rfl, if_pos (by simpa using hl)]) 1 (v := .slice n0.a n0.n n0.c) rfl).set i (by rw [List.getElem?_set, if_pos rfl, if_pos (by simpa using hl)]) 2 (v := .slice n0.d n0.m n0.e) rfl).set i (by rw [List.getElem?_set, if_pos rfl, if_pos (by simpa using hl)]) 3 (v := .bool n1.b) rfl).set i (by rw [List.getElem?_set, if_pos rfl, if_pos (by simpa using hl)]) 4 (v := .slice n1.a n1.n n1.c) rfl).set i (by rw [List.getElem?_set, if_pos rfl, if_pos (by simpa using hl)]) 5 (v := .slice n1.d n1.m n1.e) rfl).set i (by rw [List.getElem?_set, if_pos rfl, if_pos (by simpa using hl)]) 6 (v := .bool n2.b) rfl).set i (by rw [List.getElem?_set, if_pos rfl, if_pos (by simpa using hl)]) 7 (v := .slice n2.a n2.n n2.c) rfl).set i (by rw [List.getElem?_set, if_pos rfl, if_pos (by simpa using hl)]) 8 (v := .slice n2.d n2.m n2.e) rfl) i (by rw [List.getElem?_set, if_pos rfl, if_pos (by simpa using hl)]) 9 (.int .i64 n3)
 simpa using g
set_option maxRecDepth 100000 in
set_option maxHeartbeats 4000000 in
theorem need_any (pn pd qn qd rn rd m : Int) (w : World) (h1 : i64P (pn, pd)) (h2 : i64P (qn, qd)) (h3 : i64P (rn, rd)) : Calls Tryz.prog 23 #[.agg #[.int .i64 pn, .int .i64 pd, .int .i64 qn, .int .i64 qd, .int .i64 rn, .int .i64 rd, .int .i64 m]] w (RetNeed (fracQ pn pd) (fracQ qn qd) (fracQ rn rd) m w) := by
 have HS := Lib.hid (Sx.init w)
 have HP1 := Lib.hid h1
 have HP2 := Lib.hid h2
 have HP3 := Lib.hid h3
 clear h1 h2 h3
 go_enter Tryz.func23, Tryz.ntmps23
 go_wp2_with fail
 generalize hW1 : (((w).alloc (.cells _ _)).alloc (.cells _ _)).alloc (.cells _ _) = W1 at *
 replace HS := Lib.hid (((((HS.out).alloc (B := w.heap.size) rfl (by rfl)).alloc (B := w.heap.size + 1) (by simp) (by rfl)).alloc (B := w.heap.size + 2) (by simp) (by rfl)).to hW1 (by (try simp only [nb5, nb6]); rfl))
 clear hW1
 refine wp_region_held_drew (S := (fun w' => Sx w w' [(w.heap.size, #[.int .i64 pn, .int .i64 pd, .int .i64 qn, .int .i64 qd, .int .i64 rn, .int .i64 rd, .int .i64 m], 55)] [])) (by kernel_rfl) (((HS.out.drew).erase 1).erase 0) (fun hh => ?_)
 replace HS := Lib.hid HS.out.drew
 refine tkB (i := 0) (v := ?vk3) rfl ?hk3 ?rk3
 case hk3 => intro u hSu; go_simp <;> with_reducible rfl
 try simp only [nbs, Act.put]
 refine tkB (i := 1) (v := ?vk4) rfl ?hk4 ?rk4
 case hk4 => intro u hSu; (try dsimp only at hSu); have qb0e := (hSu.at 0 _ _ _ rfl); have qb0c0 := blk_cell qb0e 0 (.int .i64 pn) rfl; have qb0c1 := blk_cell qb0e 1 (.int .i64 pd) rfl; have qb0c2 := blk_cell qb0e 2 (.int .i64 qn) rfl; have qb0c3 := blk_cell qb0e 3 (.int .i64 qd) rfl; have qb0c4 := blk_cell qb0e 4 (.int .i64 rn) rfl; have qb0c5 := blk_cell qb0e 5 (.int .i64 rd) rfl; have qb0c6 := blk_cell qb0e 6 (.int .i64 m) rfl; clear qb0e; clear hSu; go_simp <;> with_reducible rfl
 try simp only [nbs, Act.put]
 refine tkB (i := 3) (v := ?vk5) rfl ?hk5 ?rk5
 case hk5 => intro u hSu; go_simp <;> with_reducible rfl
 try simp only [nbs, Act.put]
 refine tkB (i := 4) (v := ?vk6) rfl ?hk6 ?rk6
 case hk6 => intro u hSu; (try dsimp only at hSu); have qb0e := (hSu.at 0 _ _ _ rfl); have qb0c0 := blk_cell qb0e 0 (.int .i64 pn) rfl; have qb0c1 := blk_cell qb0e 1 (.int .i64 pd) rfl; have qb0c2 := blk_cell qb0e 2 (.int .i64 qn) rfl; have qb0c3 := blk_cell qb0e 3 (.int .i64 qd) rfl; have qb0c4 := blk_cell qb0e 4 (.int .i64 rn) rfl; have qb0c5 := blk_cell qb0e 5 (.int .i64 rd) rfl; have qb0c6 := blk_cell qb0e 6 (.int .i64 m) rfl; clear qb0e; clear hSu; go_simp <;> with_reducible rfl
 try simp only [nbs, Act.put]
 refine tkB (i := 6) (v := ?vk7) rfl ?hk7 ?rk7
 case hk7 => intro u hSu; go_simp <;> with_reducible rfl
 try simp only [nbs, Act.put]
 refine tkB (i := 7) (v := ?vk8) rfl ?hk8 ?rk8
 case hk8 => intro u hSu; (try dsimp only at hSu); have qb0e := (hSu.at 0 _ _ _ rfl); have qb0c0 := blk_cell qb0e 0 (.int .i64 pn) rfl; have qb0c1 := blk_cell qb0e 1 (.int .i64 pd) rfl; have qb0c2 := blk_cell qb0e 2 (.int .i64 qn) rfl; have qb0c3 := blk_cell qb0e 3 (.int .i64 qd) rfl; have qb0c4 := blk_cell qb0e 4 (.int .i64 rn) rfl; have qb0c5 := blk_cell qb0e 5 (.int .i64 rd) rfl; have qb0c6 := blk_cell qb0e 6 (.int .i64 m) rfl; clear qb0e; clear hSu; go_simp <;> with_reducible rfl
 try simp only [nbs, Act.put]
 refine tkB (i := 9) (v := ?vk9) rfl ?hk9 ?rk9
 case hk9 => intro u hSu; go_simp <;> with_reducible rfl
 try simp only [nbs, Act.put]
 refine tkB (i := 10) (v := ?vk10) rfl ?hk10 ?rk10
 case hk10 => intro u hSu; (try dsimp only at hSu); have qb0e := (hSu.at 0 _ _ _ rfl); have qb0c0 := blk_cell qb0e 0 (.int .i64 pn) rfl; have qb0c1 := blk_cell qb0e 1 (.int .i64 pd) rfl; have qb0c2 := blk_cell qb0e 2 (.int .i64 qn) rfl; have qb0c3 := blk_cell qb0e 3 (.int .i64 qd) rfl; have qb0c4 := blk_cell qb0e 4 (.int .i64 rn) rfl; have qb0c5 := blk_cell qb0e 5 (.int .i64 rd) rfl; have qb0c6 := blk_cell qb0e 6 (.int .i64 m) rfl; clear qb0e; clear hSu; go_simp <;> with_reducible rfl
 try simp only [nbs, Act.put]
 refine tkB (i := 12) (v := ?vk11) rfl ?hk11 ?rk11
 case hk11 => intro u hSu; go_simp <;> with_reducible rfl
 try simp only [nbs, Act.put]
 refine tkB (i := 13) (v := ?vk12) rfl ?hk12 ?rk12
 case hk12 => intro u hSu; (try dsimp only at hSu); have qb0e := (hSu.at 0 _ _ _ rfl); have qb0c0 := blk_cell qb0e 0 (.int .i64 pn) rfl; have qb0c1 := blk_cell qb0e 1 (.int .i64 pd) rfl; have qb0c2 := blk_cell qb0e 2 (.int .i64 qn) rfl; have qb0c3 := blk_cell qb0e 3 (.int .i64 qd) rfl; have qb0c4 := blk_cell qb0e 4 (.int .i64 rn) rfl; have qb0c5 := blk_cell qb0e 5 (.int .i64 rd) rfl; have qb0c6 := blk_cell qb0e 6 (.int .i64 m) rfl; clear qb0e; clear hSu; go_simp <;> with_reducible rfl
 try simp only [nbs, Act.put]
 refine tkB (i := 15) (v := ?vk13) rfl ?hk13 ?rk13
 case hk13 => intro u hSu; go_simp <;> with_reducible rfl
 try simp only [nbs, Act.put]
 refine tkB (i := 16) (v := ?vk14) rfl ?hk14 ?rk14
 case hk14 => intro u hSu; (try dsimp only at hSu); have qb0e := (hSu.at 0 _ _ _ rfl); have qb0c0 := blk_cell qb0e 0 (.int .i64 pn) rfl; have qb0c1 := blk_cell qb0e 1 (.int .i64 pd) rfl; have qb0c2 := blk_cell qb0e 2 (.int .i64 qn) rfl; have qb0c3 := blk_cell qb0e 3 (.int .i64 qd) rfl; have qb0c4 := blk_cell qb0e 4 (.int .i64 rn) rfl; have qb0c5 := blk_cell qb0e 5 (.int .i64 rd) rfl; have qb0c6 := blk_cell qb0e 6 (.int .i64 m) rfl; clear qb0e; clear hSu; go_simp <;> with_reducible rfl
 try simp only [nbs, Act.put]
 refine tkB (i := 18) (v := ?vk15) rfl ?hk15 ?rk15
 case hk15 => intro u hSu; go_simp <;> with_reducible rfl
 try simp only [nbs, Act.put]
 refine tkB (i := 19) (v := ?vk16) rfl ?hk16 ?rk16
 case hk16 => intro u hSu; (try dsimp only at hSu); have qb0e := (hSu.at 0 _ _ _ rfl); have qb0c0 := blk_cell qb0e 0 (.int .i64 pn) rfl; have qb0c1 := blk_cell qb0e 1 (.int .i64 pd) rfl; have qb0c2 := blk_cell qb0e 2 (.int .i64 qn) rfl; have qb0c3 := blk_cell qb0e 3 (.int .i64 qd) rfl; have qb0c4 := blk_cell qb0e 4 (.int .i64 rn) rfl; have qb0c5 := blk_cell qb0e 5 (.int .i64 rd) rfl; have qb0c6 := blk_cell qb0e 6 (.int .i64 m) rfl; clear qb0e; clear hSu; go_simp <;> with_reducible rfl
 try simp only [nbs, Act.put]
 refine tkB (i := 21) (v := ?vk17) rfl ?hk17 ?rk17
 case hk17 => intro u hSu; go_simp <;> with_reducible rfl
 try simp only [nbs, Act.put]
 refine tkB (i := 22) (v := ?vk18) rfl ?hk18 ?rk18
 case hk18 => intro u hSu; (try dsimp only at hSu); have qb0e := (hSu.at 0 _ _ _ rfl); have qb0c0 := blk_cell qb0e 0 (.int .i64 pn) rfl; have qb0c1 := blk_cell qb0e 1 (.int .i64 pd) rfl; have qb0c2 := blk_cell qb0e 2 (.int .i64 qn) rfl; have qb0c3 := blk_cell qb0e 3 (.int .i64 qd) rfl; have qb0c4 := blk_cell qb0e 4 (.int .i64 rn) rfl; have qb0c5 := blk_cell qb0e 5 (.int .i64 rd) rfl; have qb0c6 := blk_cell qb0e 6 (.int .i64 m) rfl; clear qb0e; clear hSu; go_simp <;> with_reducible rfl
 try simp only [nbs, Act.put]
 refine rdA (i := 2) rfl (fun K hK => ?_)
 go_simp
 go_wp2_with (go_at_call 18; (with_reducible refine (ofN_any pn pd _ HP1.out).mono ?_); rintro e w19 ⟨v19, rfl, hv19, hb19⟩; obtain ⟨z19, rfl⟩ := hv19.open3)
 refine hK.out _ _ (Sx.below hh hb19) (fun hh => ?_)
 clear hK K
 try simp only [nbs, Act.put]
 replace HS := Lib.hid (HS.out.below hb19)
 clear hb19
 replace HS := Lib.hid (HS.out.addP hv19)
 clear hv19
 refine rdA (i := 5) rfl (fun K hK => ?_)
 go_simp
 go_wp2_with (go_at_call 18; (with_reducible refine (ofN_any qn qd _ HP2.out).mono ?_); rintro e w20 ⟨v20, rfl, hv20, hb20⟩; obtain ⟨z20, rfl⟩ := hv20.open3)
 refine hK.out _ _ (Sx.below hh hb20) (fun hh => ?_)
 clear hK K
 try simp only [nbs, Act.put]
 replace HS := Lib.hid (HS.out.below hb20)
 clear hb20
 replace HS := Lib.hid (HS.out.addP hv20)
 clear hv20
 refine rdA (i := 8) rfl (fun K hK => ?_)
 go_simp
 go_wp2_with (go_at_call 18; (with_reducible refine (ofN_any rn rd _ HP3.out).mono ?_); rintro e w21 ⟨v21, rfl, hv21, hb21⟩; obtain ⟨z21, rfl⟩ := hv21.open3)
 refine hK.out _ _ (Sx.below hh hb21) (fun hh => ?_)
 clear hK K
 try simp only [nbs, Act.put]
 replace HS := Lib.hid (HS.out.below hb21)
 clear hb21
 replace HS := Lib.hid (HS.out.addP hv21)
 clear hv21
 refine tkB (i := 11) (v := ?vk22) rfl ?hk22 ?rk22
 case hk22 => intro u hSu; go_simp <;> with_reducible rfl
 try simp only [nbs, Act.put]
 refine rdA (i := 14) rfl (fun K hK => ?_)
 go_simp
 go_wp2_with (go_at_call 20; (with_reducible refine (qofN_any pn pd _ HP1.out).mono ?_); rintro e w23 ⟨v23, rfl, hv23, hb23⟩; obtain ⟨z23, rfl⟩ := hv23.open3)
 refine hK.out _ _ (Sx.below hh hb23) (fun hh => ?_)
 clear hK K
 try simp only [nbs, Act.put]
 replace HS := Lib.hid (HS.out.below hb23)
 clear hb23
 replace HS := Lib.hid (HS.out.addQ hv23)
 clear hv23
 refine rdA (i := 17) rfl (fun K hK => ?_)
 go_simp
 go_wp2_with (go_at_call 20; (with_reducible refine (qofN_any qn qd _ HP2.out).mono ?_); rintro e w24 ⟨v24, rfl, hv24, hb24⟩; obtain ⟨z24, rfl⟩ := hv24.open3)
 refine hK.out _ _ (Sx.below hh hb24) (fun hh => ?_)
 clear hK K
 try simp only [nbs, Act.put]
 replace HS := Lib.hid (HS.out.below hb24)
 clear hb24
 replace HS := Lib.hid (HS.out.addQ hv24)
 clear hv24
 refine rdA (i := 20) rfl (fun K hK => ?_)
 go_simp
 go_wp2_with (go_at_call 20; (with_reducible refine (qofN_any rn rd _ HP3.out).mono ?_); rintro e w25 ⟨v25, rfl, hv25, hb25⟩; obtain ⟨z25, rfl⟩ := hv25.open3)
 refine hK.out _ _ (Sx.below hh hb25) (fun hh => ?_)
 clear hK K
 try simp only [nbs, Act.put]
 replace HS := Lib.hid (HS.out.below hb25)
 clear hb25
 replace HS := Lib.hid (HS.out.addQ hv25)
 clear hv25
 refine tkB (i := 23) (v := ?vk26) rfl ?hk26 ?rk26
 case hk26 => intro u hSu; go_simp <;> with_reducible rfl
 try simp only [nbs, Act.put]
 refine rdA (i := 24) rfl (fun K hK => ?_)
 have b1e := (HS.out.at 1 _ _ _ rfl)
 have b1c0 := blk_cell b1e 0 (.bool false) rfl
 have b1c1 := blk_cell b1e 1 (.slice none 0 0) rfl
 have b1c2 := blk_cell b1e 2 (.slice none 0 0) rfl
 have b1c3 := blk_cell b1e 3 (.bool false) rfl
 have b1c4 := blk_cell b1e 4 (.slice none 0 0) rfl
 have b1c5 := blk_cell b1e 5 (.slice none 0 0) rfl
 have b1c6 := blk_cell b1e 6 (.bool false) rfl
 have b1c7 := blk_cell b1e 7 (.slice none 0 0) rfl
 have b1c8 := blk_cell b1e 8 (.slice none 0 0) rfl
 have b1c9 := blk_cell b1e 9 (.int .i64 0) rfl
 have b1f0 := blk_frozen b1e 0
 have b1f1 := blk_frozen b1e 1
 have b1f2 := blk_frozen b1e 2
 have b1f3 := blk_frozen b1e 3
 have b1f4 := blk_frozen b1e 4
 have b1f5 := blk_frozen b1e 5
 have b1f6 := blk_frozen b1e 6
 have b1f7 := blk_frozen b1e 7
 have b1f8 := blk_frozen b1e 8
 have b1f9 := blk_frozen b1e 9
 have b1l := blk_lt b1e
 clear b1e
 go_simp
 refine hK.out _ _ ((((((HS.out).st_RRRI 1 r30 r30 r30 0 z19 z20 z21 m rfl)).erase 1)).erase 0) (fun hh => ?_)
 clear hK K b1c0 b1c1 b1c2 b1c3 b1c4 b1c5 b1c6 b1c7 b1c8 b1c9 b1f0 b1f1 b1f2 b1f3 b1f4 b1f5 b1f6 b1f7 b1f8 b1f9 b1l
 try simp only [nbs, Act.put]
 generalize hW27 : ((((((((((w25).setCell _ _).setCell _ _).setCell _ _).setCell _ _).setCell _ _).setCell _ _).setCell _ _).setCell _ _).setCell _ _).setCell _ _ = W27 at *
 replace HS := Lib.hid (((HS.out).st_RRRI 1 r30 r30 r30 0 z19 z20 z21 m rfl).to hW27 (by (try simp only [nb5, nb6]); rfl))
 clear hW27
 refine rdA (i := 25) rfl (fun K hK => ?_)
 have b2e := (HS.out.at 0 _ _ _ rfl)
 have b2c0 := blk_cell b2e 0 (.bool false) rfl
 have b2c1 := blk_cell b2e 1 (.slice none 0 0) rfl
 have b2c2 := blk_cell b2e 2 (.slice none 0 0) rfl
 have b2c3 := blk_cell b2e 3 (.bool false) rfl
 have b2c4 := blk_cell b2e 4 (.slice none 0 0) rfl
 have b2c5 := blk_cell b2e 5 (.slice none 0 0) rfl
 have b2c6 := blk_cell b2e 6 (.bool false) rfl
 have b2c7 := blk_cell b2e 7 (.slice none 0 0) rfl
 have b2c8 := blk_cell b2e 8 (.slice none 0 0) rfl
 have b2c9 := blk_cell b2e 9 (.int .i64 0) rfl
 have b2f0 := blk_frozen b2e 0
 have b2f1 := blk_frozen b2e 1
 have b2f2 := blk_frozen b2e 2
 have b2f3 := blk_frozen b2e 3
 have b2f4 := blk_frozen b2e 4
 have b2f5 := blk_frozen b2e 5
 have b2f6 := blk_frozen b2e 6
 have b2f7 := blk_frozen b2e 7
 have b2f8 := blk_frozen b2e 8
 have b2f9 := blk_frozen b2e 9
 have b2l := blk_lt b2e
 clear b2e
 go_simp
 refine hK.out _ _ ((((((HS.out).st_RRRI 0 r30 r30 r30 0 z23 z24 z25 m rfl)).erase 1)).erase 0) (fun hh => ?_)
 clear hK K b2c0 b2c1 b2c2 b2c3 b2c4 b2c5 b2c6 b2c7 b2c8 b2c9 b2f0 b2f1 b2f2 b2f3 b2f4 b2f5 b2f6 b2f7 b2f8 b2f9 b2l
 try simp only [nbs, Act.put]
 generalize hW28 : ((((((((((W27).setCell _ _).setCell _ _).setCell _ _).setCell _ _).setCell _ _).setCell _ _).setCell _ _).setCell _ _).setCell _ _).setCell _ _ = W28 at *
 replace HS := Lib.hid (((HS.out).st_RRRI 0 r30 r30 r30 0 z23 z24 z25 m rfl).to hW28 (by (try simp only [nb5, nb6]); rfl))
 clear hW28
 refine wpAnyH_done (by kernel_rfl) ?_ _
 have b1e := (HS.out.at 1 _ _ _ rfl)
 have b1c0 := blk_cell b1e 0 (.bool z19.b) rfl
 have b1c1 := blk_cell b1e 1 (.slice z19.a z19.n z19.c) rfl
 have b1c2 := blk_cell b1e 2 (.slice z19.d z19.m z19.e) rfl
 have b1c3 := blk_cell b1e 3 (.bool z20.b) rfl
 have b1c4 := blk_cell b1e 4 (.slice z20.a z20.n z20.c) rfl
 have b1c5 := blk_cell b1e 5 (.slice z20.d z20.m z20.e) rfl
 have b1c6 := blk_cell b1e 6 (.bool z21.b) rfl
 have b1c7 := blk_cell b1e 7 (.slice z21.a z21.n z21.c) rfl
 have b1c8 := blk_cell b1e 8 (.slice z21.d z21.m z21.e) rfl
 have b1c9 := blk_cell b1e 9 (.int .i64 m) rfl
 have b1f0 := blk_frozen b1e 0
 have b1f1 := blk_frozen b1e 1
 have b1f2 := blk_frozen b1e 2
 have b1f3 := blk_frozen b1e 3
 have b1f4 := blk_frozen b1e 4
 have b1f5 := blk_frozen b1e 5
 have b1f6 := blk_frozen b1e 6
 have b1f7 := blk_frozen b1e 7
 have b1f8 := blk_frozen b1e 8
 have b1f9 := blk_frozen b1e 9
 have b1l := blk_lt b1e
 clear b1e
 have b2e := (HS.out.at 0 _ _ _ rfl)
 have b2c0 := blk_cell b2e 0 (.bool z23.b) rfl
 have b2c1 := blk_cell b2e 1 (.slice z23.a z23.n z23.c) rfl
 have b2c2 := blk_cell b2e 2 (.slice z23.d z23.m z23.e) rfl
 have b2c3 := blk_cell b2e 3 (.bool z24.b) rfl
 have b2c4 := blk_cell b2e 4 (.slice z24.a z24.n z24.c) rfl
 have b2c5 := blk_cell b2e 5 (.slice z24.d z24.m z24.e) rfl
 have b2c6 := blk_cell b2e 6 (.bool z25.b) rfl
 have b2c7 := blk_cell b2e 7 (.slice z25.a z25.n z25.c) rfl
 have b2c8 := blk_cell b2e 8 (.slice z25.d z25.m z25.e) rfl
 have b2c9 := blk_cell b2e 9 (.int .i64 m) rfl
 have b2f0 := blk_frozen b2e 0
 have b2f1 := blk_frozen b2e 1
 have b2f2 := blk_frozen b2e 2
 have b2f3 := blk_frozen b2e 3
 have b2f4 := blk_frozen b2e 4
 have b2f5 := blk_frozen b2e 5
 have b2f6 := blk_frozen b2e 6
 have b2f7 := blk_frozen b2e 7
 have b2f8 := blk_frozen b2e 8
 have b2f9 := blk_frozen b2e 9
 have b2l := blk_lt b2e
 clear b2e
 go_wp2_with fail
 clear b1c0 b1c1 b1c2 b1c3 b1c4 b1c5 b1c6 b1c7 b1c8 b1c9 b1f0 b1f1 b1f2 b1f3 b1f4 b1f5 b1f6 b1f7 b1f8 b1f9 b1l b2c0 b2c1 b2c2 b2c3 b2c4 b2c5 b2c6 b2c7 b2c8 b2c9 b2f0 b2f1 b2f2 b2f3 b2f4 b2f5 b2f6 b2f7 b2f8 b2f9 b2l
 have b1e := (HS.out.at 1 _ _ _ rfl)
 have b1c0 := blk_cell b1e 0 (.bool z19.b) rfl
 have b1c1 := blk_cell b1e 1 (.slice z19.a z19.n z19.c) rfl
 have b1c2 := blk_cell b1e 2 (.slice z19.d z19.m z19.e) rfl
 have b1c3 := blk_cell b1e 3 (.bool z20.b) rfl
 have b1c4 := blk_cell b1e 4 (.slice z20.a z20.n z20.c) rfl
 have b1c5 := blk_cell b1e 5 (.slice z20.d z20.m z20.e) rfl
 have b1c6 := blk_cell b1e 6 (.bool z21.b) rfl
 have b1c7 := blk_cell b1e 7 (.slice z21.a z21.n z21.c) rfl
 have b1c8 := blk_cell b1e 8 (.slice z21.d z21.m z21.e) rfl
 have b1c9 := blk_cell b1e 9 (.int .i64 m) rfl
 clear b1e
 have b2e := (HS.out.at 0 _ _ _ rfl)
 have b2c0 := blk_cell b2e 0 (.bool z23.b) rfl
 have b2c1 := blk_cell b2e 1 (.slice z23.a z23.n z23.c) rfl
 have b2c2 := blk_cell b2e 2 (.slice z23.d z23.m z23.e) rfl
 have b2c3 := blk_cell b2e 3 (.bool z24.b) rfl
 have b2c4 := blk_cell b2e 4 (.slice z24.a z24.n z24.c) rfl
 have b2c5 := blk_cell b2e 5 (.slice z24.d z24.m z24.e) rfl
 have b2c6 := blk_cell b2e 6 (.bool z25.b) rfl
 have b2c7 := blk_cell b2e 7 (.slice z25.a z25.n z25.c) rfl
 have b2c8 := blk_cell b2e 8 (.slice z25.d z25.m z25.e) rfl
 have b2c9 := blk_cell b2e 9 (.int .i64 m) rfl
 clear b2e
 refine bodyPost_ret (v := .tuple #[.agg #[.bool z19.b, .slice z19.a z19.n z19.c, .slice z19.d z19.m z19.e, .bool z20.b, .slice z20.a z20.n z20.c, .slice z20.d z20.m z20.e, .bool z21.b, .slice z21.a z21.n z21.c, .slice z21.d z21.m z21.e, .int .i64 m], .agg #[.bool z23.b, .slice z23.a z23.n z23.c, .slice z23.d z23.m z23.e, .bool z24.b, .slice z24.a z24.n z24.c, .slice z24.d z24.m z24.e, .bool z25.b, .slice z25.a z25.n z25.c, .slice z25.d z25.m z25.e, .int .i64 m]]) (by simp [results, Tryz.results23, go_sem, b1c0, b1c1, b1c2, b1c3, b1c4, b1c5, b1c6, b1c7, b1c8, b1c9, b2c0, b2c1, b2c2, b2c3, b2c4, b2c5, b2c6, b2c7, b2c8, b2c9]) rfl ⟨z19, z20, z21, z23, z24, z25, rfl, ⟨(HS.out.p 5 _ _ rfl), (HS.out.p 4 _ _ rfl), (HS.out.p 3 _ _ rfl)⟩, ⟨(HS.out.q 2 _ _ rfl), (HS.out.q 1 _ _ rfl), (HS.out.q 0 _ _ rfl)⟩, HS.out.bel⟩
set_option maxRecDepth 100000 in
set_option maxHeartbeats 8000000 in
theorem cureFollows_any (an ad bn bd sn sd pn pd qn qd rn rd m : Int) (fs : List (Int × Int)) (k : Nat) (v : Value) (w : World) (ha : i64P (an, ad)) (hb : i64P (bn, bd)) (hs : i64P (sn, sd)) (h1 : i64P (pn, pd)) (h2 : i64P (qn, qd)) (h3 : i64P (rn, rd)) (hfs : PairsOf w v fs) (hfr : ∀ i, i < fs.length → i64P (fs.getD i (0, 0))) (hk : k ≤ 255) :
  Calls Tryz.prog 4 #[.agg #[.int .i64 an, .int .i64 ad, .int .i64 bn, .int .i64 bd], .agg #[.int .i64 sn, .int .i64 sd], v, .agg #[.int .i64 pn, .int .i64 pd, .int .i64 qn, .int .i64 qd, .int .i64 rn, .int .i64 rd, .int .i64 m], .int .u8 (k : Int)] w (RetBool true w) := by
 obtain ⟨l0, hl0⟩ : ∃ x, x = loQ (fracQ an ad) (fracQ bn bd) := ⟨_, rfl⟩
 obtain ⟨l1, hl1⟩ : ∃ x, x = hiQ (fracQ an ad) (fracQ bn bd) := ⟨_, rfl⟩
 have HRP : Hid (∀ W, Calls Tryz.prog 15 #[.agg #[.int .i64 an, .int .i64 ad, .int .i64 bn, .int .i64 bd]] W (RetRng l0 l1 W)) := fun W => by rw [hl0, hl1]; exact lrange_any an ad bn bd W ha hb
 have HRQ : Hid (∀ W, Calls Tryz.prog 16 #[.agg #[.int .i64 an, .int .i64 ad, .int .i64 bn, .int .i64 bd]] W (RetRngQ l0 l1 W)) := fun W => by rw [hl0, hl1]; exact refrange_any an ad bn bd W ha hb
 have hz0 : szR l0 1000 := by rw [hl0]; exact szR_mono (loN_sz (fracP_sz ha) (fracP_sz hb)) (by omega)
 have hz1 : szR l1 1000 := by rw [hl1]; exact szR_mono (hiN_sz (fracP_sz ha) (fracP_sz hb)) (by omega)
 have hll : l0 ≤ l1 := by rw [hl0, hl1]; exact lo_hi _ _
 have hzS : szR (fracQ sn sd) 1000 := szR_mono (fracP_sz hs) (by omega)
 have hzp : szR (fracQ pn pd) 1000 := szR_mono (fracP_sz h1) (by omega)
 have hzq : szR (fracQ qn qd) 1000 := szR_mono (fracP_sz h2) (by omega)
 have hzr : szR (fracQ rn rd) 1000 := szR_mono (fracP_sz h3) (by omega)
 have hza := fracsQ_szN hfr
 have hkk : k ≤ 256 := by omega
 have hzk : min (max (k : Int) 0) 256 = (k : Int) := by omega
 have hsf : flErr l0 l1 (fracsQ fs).length = 0 → ∀ i, szR (flUp (fracQ sn sd) l0 l1 k (fracsQ fs) i).1 1000 ∧ szR (flUp (fracQ sn sd) l0 l1 k (fracsQ fs) i).2 1000 := fun he i => ⟨szR_mono (fl_szs hkk hs hfr hll _ he i).1 (by omega), szR_mono (fl_szs hkk hs hfr hll _ he i).2 (by omega)⟩
 have hst : flErr l0 l1 (fracsQ fs).length = 0 → ∀ i j, szR (((flR (fracQ sn sd) l0 l1 k (fracsQ fs) (fracsQ fs).length).getD i []).getD j 0) 1000 := fun he i j => flR_szs hkk hs hfr hll _ _ he i j
 have hfl : (fracsQ fs).length = fs.length := by simp [fracsQ]
 have HTZ0 : Hid (∀ i j, szR (((flT (flR (fracQ sn sd) l0 l1 k (fracsQ fs) (fracsQ fs).length) (flErr l0 l1 (fracsQ fs).length)).getD i []).getD j 0) 1000) := fun i j => by
  rcases Decidable.em (flErr l0 l1 (fracsQ fs).length = 0) with he | he
  ·
   rw [he]; exact hst he i j
  ·
   unfold flT; rw [if_neg he]; exact szR_zero _ (by omega)
 have HFP0 : Hid (fs.length ≤ 300 → ∀ W vx vS va, IsRng W vx l0 l1 → IsRat W vS (fracQ sn sd) → FrcsOf IsRat W va (fracsQ fs) → Calls Tryz.prog 24 #[vx, vS, va, .int .i64 (k : Int)] W (RetRecsE true 2 (flT (flR (fracQ sn sd) l0 l1 k (fracsQ fs) (fracsQ fs).length) (flErr l0 l1 (fracsQ fs).length)) (flErr l0 l1 (fracsQ fs).length) W)) := fun hl W vx vS va g1 g2 g3 => pfollow_any l0 l1 _ _ k hkk (k : Int) hzk vx vS va W g1 g2 g3 (by omega) hz0 hz1 hzS hza hsf
 have HFQ0 : Hid (fs.length ≤ 300 → ∀ W vx vS va, IsRngQ W vx l0 l1 → IsR W vS (fracQ sn sd) → FrcsOf IsR W va (fracsQ fs) → Calls Tryz.prog 25 #[vx, vS, va, .int .i64 (k : Int)] W (RetRecsE false 2 (flT (flR (fracQ sn sd) l0 l1 k (fracsQ fs) (fracsQ fs).length) (flErr l0 l1 (fracsQ fs).length)) (flErr l0 l1 (fracsQ fs).length) W)) := fun hl W vx vS va g1 g2 g3 => qfollow_any l0 l1 _ _ k hkk (k : Int) hzk vx vS va W g1 hll g2 g3 (by omega) hz0 hz1 hzS hza hsf
 have HMP0 : Hid (fs.length ≤ 300 → ∀ (W : World) (vx vS va : Value) (y1 y2 y3 : R3), IsRng W vx l0 l1 → IsRat W vS (fracQ sn sd) → FrcsOf IsRat W va (fracsQ fs) → IsRat W y1.val (fracQ pn pd) → IsRat W y2.val (fracQ qn qd) → IsRat W y3.val (fracQ rn rd) → Calls Tryz.prog 26 #[vx, vS, va, .agg #[.bool y1.b, .slice y1.a y1.n y1.c, .slice y1.d y1.m y1.e, .bool y2.b, .slice y2.a y2.n y2.c, .slice y2.d y2.m y2.e, .bool y3.b, .slice y3.a y3.n y3.c, .slice y3.d y3.m y3.e, .int .i64 m], .int .i64 (k : Int)] W (RetBE (meOf (fracQ sn sd) (fracQ pn pd) (fracQ qn qd) (fracQ rn rd) m (flR (fracQ sn sd) l0 l1 k (fracsQ fs) (fracsQ fs).length) (meErr l0 l1 (fracsQ fs).length (fracQ pn pd) (fracQ qn qd) (fracQ rn rd) m)) (meErr l0 l1 (fracsQ fs).length (fracQ pn pd) (fracQ qn qd) (fracQ rn rd) m) W)) := fun hl W vx vS va y1 y2 y3 g1 g2 g3 g4 g5 g6 => pmeets_any l0 l1 _ _ _ _ m _ k hkk (k : Int) hzk y1 y2 y3 vx vS va W g1 g2 g3 g4 g5 g6 (by omega) hz0 hz1 hzS hza hzp hzq hzr hsf hst
 have HMQ0 : Hid (fs.length ≤ 300 → ∀ (W : World) (vx vS va : Value) (y1 y2 y3 : R3), IsRngQ W vx l0 l1 → IsR W vS (fracQ sn sd) → FrcsOf IsR W va (fracsQ fs) → IsR W y1.val (fracQ pn pd) → IsR W y2.val (fracQ qn qd) → IsR W y3.val (fracQ rn rd) → Calls Tryz.prog 27 #[vx, vS, va, .agg #[.bool y1.b, .slice y1.a y1.n y1.c, .slice y1.d y1.m y1.e, .bool y2.b, .slice y2.a y2.n y2.c, .slice y2.d y2.m y2.e, .bool y3.b, .slice y3.a y3.n y3.c, .slice y3.d y3.m y3.e, .int .i64 m], .int .i64 (k : Int)] W (RetBE (meOf (fracQ sn sd) (fracQ pn pd) (fracQ qn qd) (fracQ rn rd) m (flR (fracQ sn sd) l0 l1 k (fracsQ fs) (fracsQ fs).length) (meErr l0 l1 (fracsQ fs).length (fracQ pn pd) (fracQ qn qd) (fracQ rn rd) m)) (meErr l0 l1 (fracsQ fs).length (fracQ pn pd) (fracQ qn qd) (fracQ rn rd) m) W)) := fun hl W vx vS va y1 y2 y3 g1 g2 g3 g4 g5 g6 => qmeets_any l0 l1 _ _ _ _ m _ k hkk (k : Int) hzk y1 y2 y3 vx vS va W g1 hll g2 g3 g4 g5 g6 (by omega) hz0 hz1 hzS hza hzp hzq hzr hsf hst
 have HND : Hid (∀ W, Calls Tryz.prog 23 #[.agg #[.int .i64 pn, .int .i64 pd, .int .i64 qn, .int .i64 qd, .int .i64 rn, .int .i64 rd, .int .i64 m]] W (RetNeed (fracQ pn pd) (fracQ qn qd) (fracQ rn rd) m W)) := fun W => need_any pn pd qn qd rn rd m W h1 h2 h3
 generalize meOf (fracQ sn sd) (fracQ pn pd) (fracQ qn qd) (fracQ rn rd) m (flR (fracQ sn sd) l0 l1 k (fracsQ fs) (fracsQ fs).length) (meErr l0 l1 (fracsQ fs).length (fracQ pn pd) (fracQ qn qd) (fracQ rn rd) m) = mb at *
 generalize meErr l0 l1 (fracsQ fs).length (fracQ pn pd) (fracQ qn qd) (fracQ rn rd) m = me at *
 generalize fracQ pn pd = le at *
 generalize fracQ qn qd = mo at *
 generalize fracQ rn rd = ri at *
 have htl : (flT (flR (fracQ sn sd) l0 l1 k (fracsQ fs) (fracsQ fs).length) (flErr l0 l1 (fracsQ fs).length)).length ≤ fs.length := by have := flT_len (qs := flR (fracQ sn sd) l0 l1 k (fracsQ fs) (fracsQ fs).length) (flErr l0 l1 (fracsQ fs).length); rw [flR_len] at this; omega
 clear hsf hst hz0 hz1 hll hzS hzp hzq hzr hza hl0 hl1 hkk hzk
 generalize flT (flR (fracQ sn sd) l0 l1 k (fracsQ fs) (fracsQ fs).length) (flErr l0 l1 (fracsQ fs).length) = ts at *
 generalize flErr l0 l1 (fracsQ fs).length = fe at *
 have HTL := Lib.hid htl
 have HTZ := HTZ0
 have HS := Lib.hid (Sx.init w)
 have HST := Lib.hid hs
 have HFS := Lib.hid hfs
 have HFR := Lib.hid hfr
 obtain ⟨afs, cfs, rfl, _⟩ := hfs
 clear ha hb hs h1 h2 h3 hfr htl HTZ0 hfl
 by_cases hk4 : 40 < k
 ·
  have tk1 : decide ((k : Int) > 40) = true := decide_eq_true (by omega)
  have tk2 : decide (40 < k) = true := decide_eq_true (by omega)
  have hwk : IntKind.i64.wrap (k : Int) = (k : Int) := IntWalk.i64_in _ (by omega)
  go_enter Tryz.func4, Tryz.ntmps4
  go_wp2_with fail
  generalize hW1 : (((w).alloc (.cells _ _)).alloc (.cells _ _)).alloc (.cells _ _) = W1 at *
  replace HS := Lib.hid (((((HS.out).alloc (B := w.heap.size) rfl (by rfl)).alloc (B := w.heap.size + 1) (by simp) (by rfl)).alloc (B := w.heap.size + 2) (by simp) (by rfl)).to hW1 (by (try simp only [nb5, nb6]); rfl))
  clear hW1
  by_cases hll0 : 300 < fs.length
  ·
   have HLL0 := Lib.hid hll0
   refine (list_long fs _ _ (HFS.out.below HS.out.bel) HLL0.out).mono ?_
   rintro e w2 ⟨rfl, hb2⟩
   replace HS := Lib.hid (HS.out.below hb2)
   clear hb2
   go_wp2_with fail
   refine (awake05_any _).mono ?_
   rintro e w3 ⟨rfl, hb3⟩
   replace HS := Lib.hid (HS.out.below hb3)
   clear hb3
   go_wp2_with fail
   go_ret
   exact ⟨by simp, HS.out.bel⟩
  ·
   have HFL : Hid (fs.length ≤ 300) := by show _ ≤ _; omega
   cases hlu : lightUp fs fs.length with
   | false =>
    refine (list_heavy fs _ _ (HFS.out.below HS.out.bel) HFL.out hlu).mono ?_
    rintro e w4 ⟨rfl, hb4⟩
    replace HS := Lib.hid (HS.out.below hb4)
    clear hb4
    go_wp2_with fail
    refine (awake05_any _).mono ?_
    rintro e w5 ⟨rfl, hb5⟩
    replace HS := Lib.hid (HS.out.below hb5)
    clear hb5
    go_wp2_with fail
    go_ret
    exact ⟨by simp, HS.out.bel⟩
   | true =>
    refine (list_any fs _ _ (HFS.out.below HS.out.bel) HFL.out HFR.out hlu).mono ?_
    rintro e w6 ⟨va, vb, rfl, hta, htb, hb6⟩
    have HTA := Lib.hid hta
    have HTB := Lib.hid htb
    clear hta htb
    replace HS := Lib.hid (HS.out.below hb6)
    clear hb6
    have HMK := Lib.hid (Below.refl w6.heap.size w6)
    go_wp2_with fail
    cases t7 : lightUp [(an, ad), (bn, bd)] 2 with
    | true =>
     refine (light2_any an ad bn bd _ _ (pairsB (HS.out.at 2 _ _ _ rfl))).mono ?_
     rw [t7]
     rintro e w8 ⟨rfl, hb8⟩
     replace HS := Lib.hid (HS.out.below hb8)
     replace HMK := Lib.hid (ext_trans HMK.out hb8)
     clear hb8
     have b1e := (HS.out.at 1 _ _ _ rfl)
     have b1c0 := blk_cell b1e 0 (.int .i64 sn) rfl
     have b1c1 := blk_cell b1e 1 (.int .i64 sd) rfl
     have b1f0 := blk_frozen b1e 0
     have b1f1 := blk_frozen b1e 1
     have b1l := blk_lt b1e
     clear b1e
     have b2e := (HS.out.at 0 _ _ _ rfl)
     have b2c0 := blk_cell b2e 0 (.int .i64 pn) rfl
     have b2c1 := blk_cell b2e 1 (.int .i64 pd) rfl
     have b2c2 := blk_cell b2e 2 (.int .i64 qn) rfl
     have b2c3 := blk_cell b2e 3 (.int .i64 qd) rfl
     have b2c4 := blk_cell b2e 4 (.int .i64 rn) rfl
     have b2c5 := blk_cell b2e 5 (.int .i64 rd) rfl
     have b2c6 := blk_cell b2e 6 (.int .i64 m) rfl
     have b2f0 := blk_frozen b2e 0
     have b2f1 := blk_frozen b2e 1
     have b2f2 := blk_frozen b2e 2
     have b2f3 := blk_frozen b2e 3
     have b2f4 := blk_frozen b2e 4
     have b2f5 := blk_frozen b2e 5
     have b2f6 := blk_frozen b2e 6
     have b2l := blk_lt b2e
     clear b2e
     go_wp2_with fail
     clear b1c0 b1c1 b1f0 b1f1 b1l b2c0 b2c1 b2c2 b2c3 b2c4 b2c5 b2c6 b2f0 b2f1 b2f2 b2f3 b2f4 b2f5 b2f6 b2l
     have HG10 : Hid (w6.heap.size ≤ w8.heap.size) := by first | exact HMK.out.size | (show _ ≤ _; have := HMK.out.size; omega)
     generalize hW9 : (w8).alloc (.cells _ _) = W9 at *
     replace HS := Lib.hid (((HS.out).alloc (B := w8.heap.size) rfl (by rfl)).to hW9 (by (try simp only [nb5, nb6]); rfl))
     replace HMK : Hid (Below w6.heap.size w6 W9) := by subst hW9; exact Lib.hid ((mk_alloc HMK.out))
     clear hW9
     cases t11 : lightUp [(sn, sd), (pn, pd), (qn, qd), (rn, rd)] 4 with
     | true =>
      refine (light4_any sn sd pn pd qn qd rn rd _ _ (pairs4 (HS.out.at 0 _ _ _ rfl))).mono ?_
      rw [t11]
      rintro e w12 ⟨rfl, hb12⟩
      replace HS := Lib.hid (HS.out.below hb12)
      replace HMK := Lib.hid (ext_trans HMK.out hb12)
      clear hb12
      go_wp2_with fail
      refine (awake05_any _).mono ?_
      rintro e w13 ⟨rfl, hb13⟩
      replace HS := Lib.hid (HS.out.below hb13)
      replace HMK := Lib.hid (ext_trans HMK.out hb13)
      clear hb13
      go_wp2_with fail
      go_ret
      exact ⟨by simp, HS.out.bel⟩
     | false =>
      refine (light4_any sn sd pn pd qn qd rn rd _ _ (pairs4 (HS.out.at 0 _ _ _ rfl))).mono ?_
      rw [t11]
      rintro e w14 ⟨rfl, hb14⟩
      replace HS := Lib.hid (HS.out.below hb14)
      replace HMK := Lib.hid (ext_trans HMK.out hb14)
      clear hb14
      go_wp2_with fail
      refine (awake05_any _).mono ?_
      rintro e w15 ⟨rfl, hb15⟩
      replace HS := Lib.hid (HS.out.below hb15)
      replace HMK := Lib.hid (ext_trans HMK.out hb15)
      clear hb15
      go_wp2_with fail
      go_ret
      exact ⟨by simp, HS.out.bel⟩
    | false =>
     refine (light2_any an ad bn bd _ _ (pairsB (HS.out.at 2 _ _ _ rfl))).mono ?_
     rw [t7]
     rintro e w16 ⟨rfl, hb16⟩
     replace HS := Lib.hid (HS.out.below hb16)
     replace HMK := Lib.hid (ext_trans HMK.out hb16)
     clear hb16
     go_wp2_with fail
     refine (awake05_any _).mono ?_
     rintro e w17 ⟨rfl, hb17⟩
     replace HS := Lib.hid (HS.out.below hb17)
     replace HMK := Lib.hid (ext_trans HMK.out hb17)
     clear hb17
     go_wp2_with fail
     go_ret
     exact ⟨by simp, HS.out.bel⟩
 by_cases ha4 : 12 < fs.length ∧ fs.length ≤ 256
 ·
  have tk1 : decide ((k : Int) > 40) = false := decide_eq_false (by omega)
  have tk2 : decide (40 < k) = false := decide_eq_false (by omega)
  have hwk : IntKind.i64.wrap (k : Int) = (k : Int) := IntWalk.i64_in _ (by omega)
  obtain ⟨ha5, hb5⟩ := ha4
  have ta1 : decide ((fs.length : Int) > 12) = true := decide_eq_true (by omega)
  have ta2 : decide (12 < fs.length) = true := decide_eq_true (by omega)
  have tb1 : decide ((fs.length : Int) ≤ 256) = true := decide_eq_true (by omega)
  have tb2 : decide (fs.length ≤ 256) = true := decide_eq_true (by omega)
  go_enter Tryz.func4, Tryz.ntmps4
  go_wp2_with fail
  generalize hW18 : (((w).alloc (.cells _ _)).alloc (.cells _ _)).alloc (.cells _ _) = W18 at *
  replace HS := Lib.hid (((((HS.out).alloc (B := w.heap.size) rfl (by rfl)).alloc (B := w.heap.size + 1) (by simp) (by rfl)).alloc (B := w.heap.size + 2) (by simp) (by rfl)).to hW18 (by (try simp only [nb5, nb6]); rfl))
  clear hW18
  by_cases hll0 : 300 < fs.length
  ·
   have HLL0 := Lib.hid hll0
   refine (list_long fs _ _ (HFS.out.below HS.out.bel) HLL0.out).mono ?_
   rintro e w19 ⟨rfl, hb19⟩
   replace HS := Lib.hid (HS.out.below hb19)
   clear hb19
   go_wp2_with fail
   refine (awake05_any _).mono ?_
   rintro e w20 ⟨rfl, hb20⟩
   replace HS := Lib.hid (HS.out.below hb20)
   clear hb20
   go_wp2_with fail
   go_ret
   exact ⟨by simp, HS.out.bel⟩
  ·
   have HFL : Hid (fs.length ≤ 300) := by show _ ≤ _; omega
   cases hlu : lightUp fs fs.length with
   | false =>
    refine (list_heavy fs _ _ (HFS.out.below HS.out.bel) HFL.out hlu).mono ?_
    rintro e w21 ⟨rfl, hb21⟩
    replace HS := Lib.hid (HS.out.below hb21)
    clear hb21
    go_wp2_with fail
    refine (awake05_any _).mono ?_
    rintro e w22 ⟨rfl, hb22⟩
    replace HS := Lib.hid (HS.out.below hb22)
    clear hb22
    go_wp2_with fail
    go_ret
    exact ⟨by simp, HS.out.bel⟩
   | true =>
    refine (list_any fs _ _ (HFS.out.below HS.out.bel) HFL.out HFR.out hlu).mono ?_
    rintro e w23 ⟨va, vb, rfl, hta, htb, hb23⟩
    have HTA := Lib.hid hta
    have HTB := Lib.hid htb
    clear hta htb
    replace HS := Lib.hid (HS.out.below hb23)
    clear hb23
    have HMK := Lib.hid (Below.refl w23.heap.size w23)
    go_wp2_with fail
    cases t24 : lightUp [(an, ad), (bn, bd)] 2 with
    | true =>
     refine (light2_any an ad bn bd _ _ (pairsB (HS.out.at 2 _ _ _ rfl))).mono ?_
     rw [t24]
     rintro e w25 ⟨rfl, hb25⟩
     replace HS := Lib.hid (HS.out.below hb25)
     replace HMK := Lib.hid (ext_trans HMK.out hb25)
     clear hb25
     have b1e := (HS.out.at 1 _ _ _ rfl)
     have b1c0 := blk_cell b1e 0 (.int .i64 sn) rfl
     have b1c1 := blk_cell b1e 1 (.int .i64 sd) rfl
     have b1f0 := blk_frozen b1e 0
     have b1f1 := blk_frozen b1e 1
     have b1l := blk_lt b1e
     clear b1e
     have b2e := (HS.out.at 0 _ _ _ rfl)
     have b2c0 := blk_cell b2e 0 (.int .i64 pn) rfl
     have b2c1 := blk_cell b2e 1 (.int .i64 pd) rfl
     have b2c2 := blk_cell b2e 2 (.int .i64 qn) rfl
     have b2c3 := blk_cell b2e 3 (.int .i64 qd) rfl
     have b2c4 := blk_cell b2e 4 (.int .i64 rn) rfl
     have b2c5 := blk_cell b2e 5 (.int .i64 rd) rfl
     have b2c6 := blk_cell b2e 6 (.int .i64 m) rfl
     have b2f0 := blk_frozen b2e 0
     have b2f1 := blk_frozen b2e 1
     have b2f2 := blk_frozen b2e 2
     have b2f3 := blk_frozen b2e 3
     have b2f4 := blk_frozen b2e 4
     have b2f5 := blk_frozen b2e 5
     have b2f6 := blk_frozen b2e 6
     have b2l := blk_lt b2e
     clear b2e
     go_wp2_with fail
     clear b1c0 b1c1 b1f0 b1f1 b1l b2c0 b2c1 b2c2 b2c3 b2c4 b2c5 b2c6 b2f0 b2f1 b2f2 b2f3 b2f4 b2f5 b2f6 b2l
     have HG27 : Hid (w23.heap.size ≤ w25.heap.size) := by first | exact HMK.out.size | (show _ ≤ _; have := HMK.out.size; omega)
     generalize hW26 : (w25).alloc (.cells _ _) = W26 at *
     replace HS := Lib.hid (((HS.out).alloc (B := w25.heap.size) rfl (by rfl)).to hW26 (by (try simp only [nb5, nb6]); rfl))
     replace HMK : Hid (Below w23.heap.size w23 W26) := by subst hW26; exact Lib.hid ((mk_alloc HMK.out))
     clear hW26
     cases t28 : lightUp [(sn, sd), (pn, pd), (qn, qd), (rn, rd)] 4 with
     | true =>
      refine (light4_any sn sd pn pd qn qd rn rd _ _ (pairs4 (HS.out.at 0 _ _ _ rfl))).mono ?_
      rw [t28]
      rintro e w29 ⟨rfl, hb29⟩
      replace HS := Lib.hid (HS.out.below hb29)
      replace HMK := Lib.hid (ext_trans HMK.out hb29)
      clear hb29
      go_wp2_with fail
      refine (awake05_any _).mono ?_
      rintro e w30 ⟨rfl, hb30⟩
      replace HS := Lib.hid (HS.out.below hb30)
      replace HMK := Lib.hid (ext_trans HMK.out hb30)
      clear hb30
      go_wp2_with fail
      go_ret
      exact ⟨by simp, HS.out.bel⟩
     | false =>
      refine (light4_any sn sd pn pd qn qd rn rd _ _ (pairs4 (HS.out.at 0 _ _ _ rfl))).mono ?_
      rw [t28]
      rintro e w31 ⟨rfl, hb31⟩
      replace HS := Lib.hid (HS.out.below hb31)
      replace HMK := Lib.hid (ext_trans HMK.out hb31)
      clear hb31
      go_wp2_with fail
      refine (awake05_any _).mono ?_
      rintro e w32 ⟨rfl, hb32⟩
      replace HS := Lib.hid (HS.out.below hb32)
      replace HMK := Lib.hid (ext_trans HMK.out hb32)
      clear hb32
      go_wp2_with fail
      go_ret
      exact ⟨by simp, HS.out.bel⟩
    | false =>
     refine (light2_any an ad bn bd _ _ (pairsB (HS.out.at 2 _ _ _ rfl))).mono ?_
     rw [t24]
     rintro e w33 ⟨rfl, hb33⟩
     replace HS := Lib.hid (HS.out.below hb33)
     replace HMK := Lib.hid (ext_trans HMK.out hb33)
     clear hb33
     go_wp2_with fail
     refine (awake05_any _).mono ?_
     rintro e w34 ⟨rfl, hb34⟩
     replace HS := Lib.hid (HS.out.below hb34)
     replace HMK := Lib.hid (ext_trans HMK.out hb34)
     clear hb34
     go_wp2_with fail
     go_ret
     exact ⟨by simp, HS.out.bel⟩
 obtain ⟨ba, bb, ta1, ta2, tb1, tb2, hab⟩ : ∃ ba bb : Bool, decide ((fs.length : Int) > 12) = ba ∧ decide (12 < fs.length) = ba ∧ decide ((fs.length : Int) ≤ 256) = bb ∧ decide (fs.length ≤ 256) = bb ∧ (ba = false ∨ (ba = true ∧ bb = false)) := by
  by_cases hq1 : 12 < fs.length
  ·
   exact ⟨true, false, decide_eq_true (by omega), decide_eq_true hq1, decide_eq_false (by omega), decide_eq_false (by omega), Or.inr ⟨rfl, rfl⟩⟩
  ·
   exact ⟨false, decide (fs.length ≤ 256), decide_eq_false (by omega), decide_eq_false hq1, by congr 1; exact propext ⟨fun h => by omega, fun h => by omega⟩, rfl, Or.inl rfl⟩
 clear ha4
 rcases hab with rfl | ⟨rfl, rfl⟩
 all_goals
  have tk1 : decide ((k : Int) > 40) = false := decide_eq_false (by omega)
  have tk2 : decide (40 < k) = false := decide_eq_false (by omega)
  have hwk : IntKind.i64.wrap (k : Int) = (k : Int) := IntWalk.i64_in _ (by omega)
  go_enter Tryz.func4, Tryz.ntmps4
  go_wp2_with fail
  generalize hW35 : (((w).alloc (.cells _ _)).alloc (.cells _ _)).alloc (.cells _ _) = W35 at *
  replace HS := Lib.hid (((((HS.out).alloc (B := w.heap.size) rfl (by rfl)).alloc (B := w.heap.size + 1) (by simp) (by rfl)).alloc (B := w.heap.size + 2) (by simp) (by rfl)).to hW35 (by (try simp only [nb5, nb6]); rfl))
  clear hW35
  by_cases hll0 : 300 < fs.length
  ·
   have HLL0 := Lib.hid hll0
   refine (list_long fs _ _ (HFS.out.below HS.out.bel) HLL0.out).mono ?_
   rintro e w36 ⟨rfl, hb36⟩
   replace HS := Lib.hid (HS.out.below hb36)
   clear hb36
   go_wp2_with fail
   refine (awake05_any _).mono ?_
   rintro e w37 ⟨rfl, hb37⟩
   replace HS := Lib.hid (HS.out.below hb37)
   clear hb37
   go_wp2_with fail
   go_ret
   exact ⟨by simp, HS.out.bel⟩
  ·
   have HFL : Hid (fs.length ≤ 300) := by show _ ≤ _; omega
   cases hlu : lightUp fs fs.length with
   | false =>
    refine (list_heavy fs _ _ (HFS.out.below HS.out.bel) HFL.out hlu).mono ?_
    rintro e w38 ⟨rfl, hb38⟩
    replace HS := Lib.hid (HS.out.below hb38)
    clear hb38
    go_wp2_with fail
    refine (awake05_any _).mono ?_
    rintro e w39 ⟨rfl, hb39⟩
    replace HS := Lib.hid (HS.out.below hb39)
    clear hb39
    go_wp2_with fail
    go_ret
    exact ⟨by simp, HS.out.bel⟩
   | true =>
    refine (list_any fs _ _ (HFS.out.below HS.out.bel) HFL.out HFR.out hlu).mono ?_
    rintro e w40 ⟨va, vb, rfl, hta, htb, hb40⟩
    have HTA := Lib.hid hta
    have HTB := Lib.hid htb
    clear hta htb
    replace HS := Lib.hid (HS.out.below hb40)
    clear hb40
    have HMK := Lib.hid (Below.refl w40.heap.size w40)
    go_wp2_with fail
    cases t41 : lightUp [(an, ad), (bn, bd)] 2 with
    | true =>
     refine (light2_any an ad bn bd _ _ (pairsB (HS.out.at 2 _ _ _ rfl))).mono ?_
     rw [t41]
     rintro e w42 ⟨rfl, hb42⟩
     replace HS := Lib.hid (HS.out.below hb42)
     replace HMK := Lib.hid (ext_trans HMK.out hb42)
     clear hb42
     have b1e := (HS.out.at 1 _ _ _ rfl)
     have b1c0 := blk_cell b1e 0 (.int .i64 sn) rfl
     have b1c1 := blk_cell b1e 1 (.int .i64 sd) rfl
     have b1f0 := blk_frozen b1e 0
     have b1f1 := blk_frozen b1e 1
     have b1l := blk_lt b1e
     clear b1e
     have b2e := (HS.out.at 0 _ _ _ rfl)
     have b2c0 := blk_cell b2e 0 (.int .i64 pn) rfl
     have b2c1 := blk_cell b2e 1 (.int .i64 pd) rfl
     have b2c2 := blk_cell b2e 2 (.int .i64 qn) rfl
     have b2c3 := blk_cell b2e 3 (.int .i64 qd) rfl
     have b2c4 := blk_cell b2e 4 (.int .i64 rn) rfl
     have b2c5 := blk_cell b2e 5 (.int .i64 rd) rfl
     have b2c6 := blk_cell b2e 6 (.int .i64 m) rfl
     have b2f0 := blk_frozen b2e 0
     have b2f1 := blk_frozen b2e 1
     have b2f2 := blk_frozen b2e 2
     have b2f3 := blk_frozen b2e 3
     have b2f4 := blk_frozen b2e 4
     have b2f5 := blk_frozen b2e 5
     have b2f6 := blk_frozen b2e 6
     have b2l := blk_lt b2e
     clear b2e
     go_wp2_with fail
     clear b1c0 b1c1 b1f0 b1f1 b1l b2c0 b2c1 b2c2 b2c3 b2c4 b2c5 b2c6 b2f0 b2f1 b2f2 b2f3 b2f4 b2f5 b2f6 b2l
     have HG44 : Hid (w40.heap.size ≤ w42.heap.size) := by first | exact HMK.out.size | (show _ ≤ _; have := HMK.out.size; omega)
     generalize hW43 : (w42).alloc (.cells _ _) = W43 at *
     replace HS := Lib.hid (((HS.out).alloc (B := w42.heap.size) rfl (by rfl)).to hW43 (by (try simp only [nb5, nb6]); rfl))
     replace HMK : Hid (Below w40.heap.size w40 W43) := by subst hW43; exact Lib.hid ((mk_alloc HMK.out))
     clear hW43
     cases t45 : lightUp [(sn, sd), (pn, pd), (qn, qd), (rn, rd)] 4 with
     | true =>
      refine (light4_any sn sd pn pd qn qd rn rd _ _ (pairs4 (HS.out.at 0 _ _ _ rfl))).mono ?_
      rw [t45]
      rintro e w46 ⟨rfl, hb46⟩
      replace HS := Lib.hid (HS.out.below hb46)
      replace HMK := Lib.hid (ext_trans HMK.out hb46)
      clear hb46
      go_wp2_with fail
      refine wp_region_held_drew (S := (fun w' => Sx w w' [(w42.heap.size, #[.int .i64 sn, .int .i64 sd, .int .i64 pn, .int .i64 pd, .int .i64 qn, .int .i64 qd, .int .i64 rn, .int .i64 rd], 23), (w.heap.size + 2, #[.int .i64 pn, .int .i64 pd, .int .i64 qn, .int .i64 qd, .int .i64 rn, .int .i64 rd, .int .i64 m], 55), (w.heap.size + 1, #[.int .i64 sn, .int .i64 sd], 23), (w.heap.size, #[.int .i64 an, .int .i64 ad, .int .i64 bn, .int .i64 bd], 53)] [])) (by kernel_rfl) ((HS.out.drew).bare) (fun hh => ?_)
      replace HS := Lib.hid HS.out.drew
      replace HMK := Lib.hid (ext_trans HMK.out (Below.refl _ _).drew)
      have HSW := Lib.hid HS.out.bel.size
      have HMKW := Lib.hid HMK.out.size
      refine tkB (i := 0) (v := ?_) rfl ?_ ?_
      rotate_left
      ·
       intro u hSu; (try dsimp only at hSu); have qb0e := (hSu.at 3 _ _ _ rfl); have qb0c0 := blk_cell qb0e 0 (.int .i64 an) rfl; have qb0c1 := blk_cell qb0e 1 (.int .i64 ad) rfl; have qb0c2 := blk_cell qb0e 2 (.int .i64 bn) rfl; have qb0c3 := blk_cell qb0e 3 (.int .i64 bd) rfl; clear qb0e; clear hSu; go_simp <;> with_reducible rfl
      try simp only [nbs, Act.put]
      refine tkB (i := 3) (v := ?_) rfl ?_ ?_
      rotate_left
      ·
       intro u hSu; (try dsimp only at hSu); have qb0e := (hSu.at 3 _ _ _ rfl); have qb0c0 := blk_cell qb0e 0 (.int .i64 an) rfl; have qb0c1 := blk_cell qb0e 1 (.int .i64 ad) rfl; have qb0c2 := blk_cell qb0e 2 (.int .i64 bn) rfl; have qb0c3 := blk_cell qb0e 3 (.int .i64 bd) rfl; clear qb0e; clear hSu; go_simp <;> with_reducible rfl
      try simp only [nbs, Act.put]
      refine wpAnyH_modular [1, 2, 4, 5, 6, 7] [1, 4, 6, 7] [2, 5] [68, 69, 71, 72, 14, 15] #[true, true, true, true, true, true, true, true, false, false] 2 [(1, 68), (2, 69), (4, 71), (5, 72), (6, 14), (7, 15)] [(1, []), (2, [1]), (4, [1]), (5, [4]), (6, []), (7, [])] [6, 7] [(1, fun v w => ∃ z50a z50b : R3, v = .agg #[.bool z50a.b, .slice z50a.a z50a.n z50a.c, .slice z50a.d z50a.m z50a.e, .bool z50b.b, .slice z50b.a z50b.n z50b.c, .slice z50b.d z50b.m z50b.e] ∧ Fr true w z50a.val l0 ∧ Fr true w z50b.val l1), (2, fun v w => ∃ z50aq2 z50bq2 : R3, v = .agg #[.bool z50aq2.b, .slice z50aq2.a z50aq2.n z50aq2.c, .slice z50aq2.d z50aq2.m z50aq2.e, .bool z50bq2.b, .slice z50bq2.a z50bq2.n z50bq2.c, .slice z50bq2.d z50bq2.m z50bq2.e] ∧ Fr true w z50aq2.val l0 ∧ Fr true w z50bq2.val l1), (4, fun v w => ∃ z51a z51b : R3, v = .agg #[.bool z51a.b, .slice z51a.a z51a.n z51a.c, .slice z51a.d z51a.m z51a.e, .bool z51b.b, .slice z51b.a z51b.n z51b.c, .slice z51b.d z51b.m z51b.e] ∧ Fr false w z51a.val l0 ∧ Fr false w z51b.val l1), (5, fun v w => ∃ z51aq5 z51bq5 : R3, v = .agg #[.bool z51aq5.b, .slice z51aq5.a z51aq5.n z51aq5.c, .slice z51aq5.d z51aq5.m z51aq5.e, .bool z51bq5.b, .slice z51bq5.a z51bq5.n z51bq5.c, .slice z51bq5.d z51bq5.m z51bq5.e] ∧ Fr false w z51aq5.val l0 ∧ Fr false w z51bq5.val l1), (6, fun v w => ∃ Br47_6 : Nat, v = .pointer (some ⟨Br47_6, 0, none⟩) ∧ w46.drew.heap.size ≤ Br47_6 ∧ w.heap[Br47_6]? = some (.cells #[.bool false, .slice none 0 0, .slice none 0 0, .bool false, .slice none 0 0, .slice none 0 0] 61 (0, 0))), (7, fun v w => ∃ Br47_7 : Nat, v = .pointer (some ⟨Br47_7, 0, none⟩) ∧ w46.drew.heap.size ≤ Br47_7 ∧ w.heap[Br47_7]? = some (.cells #[.bool false, .slice none 0 0, .slice none 0 0, .bool false, .slice none 0 0, .slice none 0 0] 63 (0, 0)))]
       rfl (by kernel_rfl) (by decide) rfl ⟨(fun v w w' hb ⟨z0, z1, e, h0, h1⟩ => ⟨z0, z1, e, Fr.below h0 hb, Fr.below h1 hb⟩), ⟨(fun v w w' hb ⟨z0, z1, e, h0, h1⟩ => ⟨z0, z1, e, Fr.below h0 hb, Fr.below h1 hb⟩), ⟨(fun v w w' hb ⟨z0, z1, e, h0, h1⟩ => ⟨z0, z1, e, Fr.below h0 hb, Fr.below h1 hb⟩), ⟨(fun v w w' hb ⟨z0, z1, e, h0, h1⟩ => ⟨z0, z1, e, Fr.below h0 hb, Fr.below h1 hb⟩), ⟨(fun v w w' hb ⟨B, e, g, k⟩ => ⟨B, e, g, blk_keep k hb (blk_lt k)⟩), ⟨(fun v w w' hb ⟨B, e, g, k⟩ => ⟨B, e, g, blk_keep k hb (blk_lt k)⟩), trivial⟩⟩⟩⟩⟩⟩ ⟨fun v w ⟨B, e, g, k⟩ => ⟨B, e, blk_lt k⟩, ⟨fun v w ⟨B, e, g, k⟩ => ⟨B, e, blk_lt k⟩, trivial⟩⟩ (fun w' hb => Sx.below hh hb) ⟨?_, ?_, ?_, ?_, trivial⟩ ⟨?_, ?_, trivial⟩ (by decide) ?_
      ·
       refine StepM.of rfl (fun f w' hb hp K hK => ?_)
       have HSB := HS
       replace HS := Lib.hid (HS.out.below hb)
       simp only [fillA, fillT, List.foldl_cons, List.foldl_nil, Act.put, nb4, nb5, nb6]
       go_simp
       go_wp2_with (go_at_call 15; (with_reducible refine (HRP.out _).mono ?_); rintro e w50 ⟨v50, rfl, ⟨z50a, z50b, rfl, hv50, hw50⟩, hb50⟩)
       exact hK.out _ _ (.agg #[.bool z50a.b, .slice z50a.a z50a.n z50a.c, .slice z50a.d z50a.m z50a.e, .bool z50b.b, .slice z50b.a z50b.n z50b.c, .slice z50b.d z50b.m z50b.e]) (by simp only [fillA, fillT, List.foldl_cons, List.foldl_nil, Act.put, nb4, nb5, nb6, nb1, nb2, nb3]) ⟨z50a, z50b, rfl, hv50, hw50⟩ (fun h => absurd h (by decide)) hb50
      ·
       refine StepM.of rfl (fun f w' hb hp K hK => ?_)
       have HSB := HS
       replace HS := Lib.hid (HS.out.below hb)
       simp only [fillA, fillT, List.foldl_cons, List.foldl_nil, Act.put, nb4, nb5, nb6]
       go_simp
       go_wp2_with (go_at_call 16; (with_reducible refine (HRQ.out _).mono ?_); rintro e w51 ⟨v51, rfl, ⟨z51a, z51b, rfl, hv51, hw51⟩, hb51⟩)
       exact hK.out _ _ (.agg #[.bool z51a.b, .slice z51a.a z51a.n z51a.c, .slice z51a.d z51a.m z51a.e, .bool z51b.b, .slice z51b.a z51b.n z51b.c, .slice z51b.d z51b.m z51b.e]) (by simp only [fillA, fillT, List.foldl_cons, List.foldl_nil, Act.put, nb4, nb5, nb6, nb1, nb2, nb3]) ⟨z51a, z51b, rfl, hv51, hw51⟩ (fun h => absurd h (by decide)) hb51
      ·
       refine StepM.of rfl (fun f w' hb hp K hK => ?_)
       have HSB := HS
       replace HS := Lib.hid (HS.out.below hb)
       simp only [fillA, fillT, List.foldl_cons, List.foldl_nil, Act.put, nb4, nb5, nb6]
       go_simp
       exact hK.out _ _ (.pointer (some ⟨w'.heap.size, 0, none⟩)) (by simp only [fillA, fillT, List.foldl_cons, List.foldl_nil, Act.put, nb4, nb5, nb6, nb1, nb2, nb3]) ⟨_, rfl, hb.size, blk_new _ _ _⟩ (fun _ => rfl) (below1 w' _)
      ·
       refine StepM.of rfl (fun f w' hb hp K hK => ?_)
       have HSB := HS
       replace HS := Lib.hid (HS.out.below hb)
       simp only [fillA, fillT, List.foldl_cons, List.foldl_nil, Act.put, nb4, nb5, nb6]
       go_simp
       exact hK.out _ _ (.pointer (some ⟨w'.heap.size, 0, none⟩)) (by simp only [fillA, fillT, List.foldl_cons, List.foldl_nil, Act.put, nb4, nb5, nb6, nb1, nb2, nb3]) ⟨_, rfl, hb.size, blk_new _ _ _⟩ (fun _ => rfl) (below1 w' _)
      ·
       refine EagerM.of rfl (fun f w' hb hp => ?_)
       obtain ⟨z50a, z50b, e1, h1_0, h1_1⟩ : ∃ z50a z50b : R3, f 68 = .agg #[.bool z50a.b, .slice z50a.a z50a.n z50a.c, .slice z50a.d z50a.m z50a.e, .bool z50b.b, .slice z50b.a z50b.n z50b.c, .slice z50b.d z50b.m z50b.e] ∧ Fr true w' z50a.val l0 ∧ Fr true w' z50b.val l1 := hp 1 (by decide)
       refine ⟨.agg #[.bool z50a.b, .slice z50a.a z50a.n z50a.c, .slice z50a.d z50a.m z50a.e, .bool z50b.b, .slice z50b.a z50b.n z50b.c, .slice z50b.d z50b.m z50b.e], ⟨z50a, z50b, rfl, h1_0, h1_1⟩, by first | rfl | kernel_rfl, fun u => ?_⟩
       simp only [fillA, fillT, List.foldl_cons, List.foldl_nil, Act.put, nb4, nb5, nb6, e1]
       go_simp <;> with_reducible rfl
      ·
       refine EagerM.of rfl (fun f w' hb hp => ?_)
       obtain ⟨z51a, z51b, e4, h4_0, h4_1⟩ : ∃ z51a z51b : R3, f 71 = .agg #[.bool z51a.b, .slice z51a.a z51a.n z51a.c, .slice z51a.d z51a.m z51a.e, .bool z51b.b, .slice z51b.a z51b.n z51b.c, .slice z51b.d z51b.m z51b.e] ∧ Fr false w' z51a.val l0 ∧ Fr false w' z51b.val l1 := hp 4 (by decide)
       refine ⟨.agg #[.bool z51a.b, .slice z51a.a z51a.n z51a.c, .slice z51a.d z51a.m z51a.e, .bool z51b.b, .slice z51b.a z51b.n z51b.c, .slice z51b.d z51b.m z51b.e], ⟨z51a, z51b, rfl, h4_0, h4_1⟩, by first | rfl | kernel_rfl, fun u => ?_⟩
       simp only [fillA, fillT, List.foldl_cons, List.foldl_nil, Act.put, nb4, nb5, nb6, e4]
       go_simp <;> with_reducible rfl
      ·
       intro f wr47 hb hp hd
       obtain ⟨z50a, z50b, e1, h1_0, h1_1⟩ : ∃ z50a z50b : R3, f 68 = .agg #[.bool z50a.b, .slice z50a.a z50a.n z50a.c, .slice z50a.d z50a.m z50a.e, .bool z50b.b, .slice z50b.a z50b.n z50b.c, .slice z50b.d z50b.m z50b.e] ∧ Fr true wr47 z50a.val l0 ∧ Fr true wr47 z50b.val l1 := hp 1 (by decide)
       obtain ⟨z50aq2, z50bq2, e2, h2_0, h2_1⟩ : ∃ z50aq2 z50bq2 : R3, f 69 = .agg #[.bool z50aq2.b, .slice z50aq2.a z50aq2.n z50aq2.c, .slice z50aq2.d z50aq2.m z50aq2.e, .bool z50bq2.b, .slice z50bq2.a z50bq2.n z50bq2.c, .slice z50bq2.d z50bq2.m z50bq2.e] ∧ Fr true wr47 z50aq2.val l0 ∧ Fr true wr47 z50bq2.val l1 := hp 2 (by decide)
       obtain ⟨z51a, z51b, e4, h4_0, h4_1⟩ : ∃ z51a z51b : R3, f 71 = .agg #[.bool z51a.b, .slice z51a.a z51a.n z51a.c, .slice z51a.d z51a.m z51a.e, .bool z51b.b, .slice z51b.a z51b.n z51b.c, .slice z51b.d z51b.m z51b.e] ∧ Fr false wr47 z51a.val l0 ∧ Fr false wr47 z51b.val l1 := hp 4 (by decide)
       obtain ⟨z51aq5, z51bq5, e5, h5_0, h5_1⟩ : ∃ z51aq5 z51bq5 : R3, f 72 = .agg #[.bool z51aq5.b, .slice z51aq5.a z51aq5.n z51aq5.c, .slice z51aq5.d z51aq5.m z51aq5.e, .bool z51bq5.b, .slice z51bq5.a z51bq5.n z51bq5.c, .slice z51bq5.d z51bq5.m z51bq5.e] ∧ Fr false wr47 z51aq5.val l0 ∧ Fr false wr47 z51bq5.val l1 := hp 5 (by decide)
       obtain ⟨Br47_6, e6, g6, k6⟩ : ∃ Br47_6 : Nat, f 14 = .pointer (some ⟨Br47_6, 0, none⟩) ∧ w46.drew.heap.size ≤ Br47_6 ∧ wr47.heap[Br47_6]? = some (.cells #[.bool false, .slice none 0 0, .slice none 0 0, .bool false, .slice none 0 0, .slice none 0 0] 61 (0, 0)) := hp 6 (by decide)
       obtain ⟨Br47_7, e7, g7, k7⟩ : ∃ Br47_7 : Nat, f 15 = .pointer (some ⟨Br47_7, 0, none⟩) ∧ w46.drew.heap.size ≤ Br47_7 ∧ wr47.heap[Br47_7]? = some (.cells #[.bool false, .slice none 0 0, .slice none 0 0, .bool false, .slice none 0 0, .slice none 0 0] 63 (0, 0)) := hp 7 (by decide)
       have hd6_7 : Br47_6 ≠ Br47_7 := fun h => hd 6 7 (by decide) (by decide) (by decide) (by decide) (by decide) (by show f 14 = f 15; rw [e6, e7, h])
       replace hh := Sx.below hh hb
       have hlt := HS.out.lt
       replace HS := Lib.hid (HS.out.below hb)
       replace HMK := Lib.hid (ext_trans HMK.out hb)
       replace HS := Lib.hid (HS.out.addP h1_0)
       replace HS := Lib.hid (HS.out.addP h1_1)
       replace HS := Lib.hid (HS.out.addP h2_0)
       replace HS := Lib.hid (HS.out.addP h2_1)
       replace HS := Lib.hid (HS.out.addQ h4_0)
       replace HS := Lib.hid (HS.out.addQ h4_1)
       replace HS := Lib.hid (HS.out.addQ h5_0)
       replace HS := Lib.hid (HS.out.addQ h5_1)
       have hge6 : w.heap.size ≤ Br47_6 := Nat.le_trans HSW.out g6
       have hne6 : ∀ b, b ∈ ([(w42.heap.size, #[.int .i64 sn, .int .i64 sd, .int .i64 pn, .int .i64 pd, .int .i64 qn, .int .i64 qd, .int .i64 rn, .int .i64 rd], 23), (w.heap.size + 2, #[.int .i64 pn, .int .i64 pd, .int .i64 qn, .int .i64 qd, .int .i64 rn, .int .i64 rd, .int .i64 m], 55), (w.heap.size + 1, #[.int .i64 sn, .int .i64 sd], 23), (w.heap.size, #[.int .i64 an, .int .i64 ad, .int .i64 bn, .int .i64 bd], 53)] : List Bx) → b.1 ≠ Br47_6 := by
        intro b hb
        simp only [List.mem_cons, List.not_mem_nil, or_false] at hb
        rcases hb with rfl | rfl | rfl | rfl
        ·
         have := hlt _ (List.mem_iff_getElem?.2 ⟨0, rfl⟩); dsimp only at this ⊢; omega
        ·
         have := hlt _ (List.mem_iff_getElem?.2 ⟨1, rfl⟩); dsimp only at this ⊢; omega
        ·
         have := hlt _ (List.mem_iff_getElem?.2 ⟨2, rfl⟩); dsimp only at this ⊢; omega
        ·
         have := hlt _ (List.mem_iff_getElem?.2 ⟨3, rfl⟩); dsimp only at this ⊢; omega
       replace HS := Lib.hid (HS.out.addBox k6 hge6 (by rfl) hne6)
       have HG52 : Hid (w40.heap.size ≤ Br47_6) := Nat.le_trans HMKW.out g6
       have hge7 : w.heap.size ≤ Br47_7 := Nat.le_trans HSW.out g7
       have hne7 : ∀ b, b ∈ ([(Br47_6, #[.bool false, .slice none 0 0, .slice none 0 0, .bool false, .slice none 0 0, .slice none 0 0], 61), (w42.heap.size, #[.int .i64 sn, .int .i64 sd, .int .i64 pn, .int .i64 pd, .int .i64 qn, .int .i64 qd, .int .i64 rn, .int .i64 rd], 23), (w.heap.size + 2, #[.int .i64 pn, .int .i64 pd, .int .i64 qn, .int .i64 qd, .int .i64 rn, .int .i64 rd, .int .i64 m], 55), (w.heap.size + 1, #[.int .i64 sn, .int .i64 sd], 23), (w.heap.size, #[.int .i64 an, .int .i64 ad, .int .i64 bn, .int .i64 bd], 53)] : List Bx) → b.1 ≠ Br47_7 := by
        intro b hb
        simp only [List.mem_cons, List.not_mem_nil, or_false] at hb
        rcases hb with rfl | rfl | rfl | rfl | rfl
        ·
         exact hd6_7
        ·
         have := hlt _ (List.mem_iff_getElem?.2 ⟨0, rfl⟩); dsimp only at this ⊢; omega
        ·
         have := hlt _ (List.mem_iff_getElem?.2 ⟨1, rfl⟩); dsimp only at this ⊢; omega
        ·
         have := hlt _ (List.mem_iff_getElem?.2 ⟨2, rfl⟩); dsimp only at this ⊢; omega
        ·
         have := hlt _ (List.mem_iff_getElem?.2 ⟨3, rfl⟩); dsimp only at this ⊢; omega
       replace HS := Lib.hid (HS.out.addBox k7 hge7 (by rfl) hne7)
       have HG53 : Hid (w40.heap.size ≤ Br47_7) := Nat.le_trans HMKW.out g7
       simp only [fillA, fillT, List.foldl_cons, List.foldl_nil, Act.put, nb4, nb5, nb6, e1, e2, e4, e5, e6, e7]
       clear hp hd hb hlt e1 e2 e4 e5 e6 e7
       refine rdA (i := 8) rfl (fun K hK => ?_)
       have b4e := (HS.out.at 1 _ _ _ rfl)
       have b4c0 := blk_cell b4e 0 (.bool false) rfl
       have b4c1 := blk_cell b4e 1 (.slice none 0 0) rfl
       have b4c2 := blk_cell b4e 2 (.slice none 0 0) rfl
       have b4c3 := blk_cell b4e 3 (.bool false) rfl
       have b4c4 := blk_cell b4e 4 (.slice none 0 0) rfl
       have b4c5 := blk_cell b4e 5 (.slice none 0 0) rfl
       have b4f0 := blk_frozen b4e 0
       have b4f1 := blk_frozen b4e 1
       have b4f2 := blk_frozen b4e 2
       have b4f3 := blk_frozen b4e 3
       have b4f4 := blk_frozen b4e 4
       have b4f5 := blk_frozen b4e 5
       have b4l := blk_lt b4e
       clear b4e
       go_simp
       refine hK.out _ _ ((((((HS.out).st_RR 1 r30 r30 z50aq2 z50bq2 rfl)).erase 1)).erase 0) (fun hh => ?_)
       clear hK K b4c0 b4c1 b4c2 b4c3 b4c4 b4c5 b4f0 b4f1 b4f2 b4f3 b4f4 b4f5 b4l
       try simp only [nbs, Act.put]
       generalize hW54 : ((((((wr47).setCell _ _).setCell _ _).setCell _ _).setCell _ _).setCell _ _).setCell _ _ = W54 at *
       replace HS := Lib.hid (((HS.out).st_RR 1 r30 r30 z50aq2 z50bq2 rfl).to hW54 (by (try simp only [nb5, nb6]); rfl))
       replace HMK : Hid (Below w40.heap.size w40 W54) := by subst hW54; exact Lib.hid (mk_set (mk_set (mk_set (mk_set (mk_set (mk_set HMK.out HG52.out) HG52.out) HG52.out) HG52.out) HG52.out) HG52.out)
       clear hW54
       refine rdA (i := 9) rfl (fun K hK => ?_)
       have b5e := (HS.out.at 0 _ _ _ rfl)
       have b5c0 := blk_cell b5e 0 (.bool false) rfl
       have b5c1 := blk_cell b5e 1 (.slice none 0 0) rfl
       have b5c2 := blk_cell b5e 2 (.slice none 0 0) rfl
       have b5c3 := blk_cell b5e 3 (.bool false) rfl
       have b5c4 := blk_cell b5e 4 (.slice none 0 0) rfl
       have b5c5 := blk_cell b5e 5 (.slice none 0 0) rfl
       have b5f0 := blk_frozen b5e 0
       have b5f1 := blk_frozen b5e 1
       have b5f2 := blk_frozen b5e 2
       have b5f3 := blk_frozen b5e 3
       have b5f4 := blk_frozen b5e 4
       have b5f5 := blk_frozen b5e 5
       have b5l := blk_lt b5e
       clear b5e
       go_simp
       refine hK.out _ _ ((((((HS.out).st_RR 0 r30 r30 z51aq5 z51bq5 rfl)).erase 1)).erase 0) (fun hh => ?_)
       clear hK K b5c0 b5c1 b5c2 b5c3 b5c4 b5c5 b5f0 b5f1 b5f2 b5f3 b5f4 b5f5 b5l
       try simp only [nbs, Act.put]
       generalize hW55 : ((((((W54).setCell _ _).setCell _ _).setCell _ _).setCell _ _).setCell _ _).setCell _ _ = W55 at *
       replace HS := Lib.hid (((HS.out).st_RR 0 r30 r30 z51aq5 z51bq5 rfl).to hW55 (by (try simp only [nb5, nb6]); rfl))
       replace HMK : Hid (Below w40.heap.size w40 W55) := by subst hW55; exact Lib.hid (mk_set (mk_set (mk_set (mk_set (mk_set (mk_set HMK.out HG53.out) HG53.out) HG53.out) HG53.out) HG53.out) HG53.out)
       clear hW55
       refine wpAnyH_done (by kernel_rfl) ?_ _
       have b2e := (HS.out.at 3 _ _ _ rfl)
       have b2c0 := blk_cell b2e 0 (.int .i64 pn) rfl
       have b2c1 := blk_cell b2e 1 (.int .i64 pd) rfl
       have b2c2 := blk_cell b2e 2 (.int .i64 qn) rfl
       have b2c3 := blk_cell b2e 3 (.int .i64 qd) rfl
       have b2c4 := blk_cell b2e 4 (.int .i64 rn) rfl
       have b2c5 := blk_cell b2e 5 (.int .i64 rd) rfl
       have b2c6 := blk_cell b2e 6 (.int .i64 m) rfl
       have b2f0 := blk_frozen b2e 0
       have b2f1 := blk_frozen b2e 1
       have b2f2 := blk_frozen b2e 2
       have b2f3 := blk_frozen b2e 3
       have b2f4 := blk_frozen b2e 4
       have b2f5 := blk_frozen b2e 5
       have b2f6 := blk_frozen b2e 6
       have b2l := blk_lt b2e
       clear b2e
       go_wp2_with fail
       clear b2c0 b2c1 b2c2 b2c3 b2c4 b2c5 b2c6 b2f0 b2f1 b2f2 b2f3 b2f4 b2f5 b2f6 b2l
       refine (HND.out _).mono ?_
       rintro e w56 ⟨y56a, y56b, y56c, y56d, y56e, y56f, rfl, ⟨hy56a, hy56b, hy56c⟩, ⟨hy56d, hy56e, hy56f⟩, hb56⟩
       unfold needV
       replace HS := Lib.hid (HS.out.below hb56)
       replace HMK := Lib.hid (ext_trans HMK.out hb56)
       clear hb56
       replace HS := Lib.hid (HS.out.addP hy56a)
       clear hy56a
       replace HS := Lib.hid (HS.out.addP hy56b)
       clear hy56b
       replace HS := Lib.hid (HS.out.addP hy56c)
       clear hy56c
       replace HS := Lib.hid (HS.out.addQ hy56d)
       clear hy56d
       replace HS := Lib.hid (HS.out.addQ hy56e)
       clear hy56e
       replace HS := Lib.hid (HS.out.addQ hy56f)
       clear hy56f
       go_wp2_with fail
       have HG58 : Hid (w40.heap.size ≤ w56.heap.size) := by first | exact HMK.out.size | (show _ ≤ _; have := HMK.out.size; omega)
       have HG59 : Hid (w40.heap.size ≤ w56.heap.size + 1) := by first | exact HMK.out.size | (show _ ≤ _; have := HMK.out.size; omega)
       generalize hW57 : ((w56).alloc (.cells _ _)).alloc (.cells _ _) = W57 at *
       replace HS := Lib.hid ((((HS.out).alloc (B := w56.heap.size) rfl (by rfl)).alloc (B := w56.heap.size + 1) (by simp) (by rfl)).to hW57 (by (try simp only [nb5, nb6]); rfl))
       replace HMK : Hid (Below w40.heap.size w40 W57) := by subst hW57; exact Lib.hid ((mk_alloc (mk_alloc HMK.out)))
       clear hW57
       refine wp_region_held_drew (S := (fun w' => Sx w w' [(w56.heap.size + 1, #[.bool y56d.b, .slice y56d.a y56d.n y56d.c, .slice y56d.d y56d.m y56d.e, .bool y56e.b, .slice y56e.a y56e.n y56e.c, .slice y56e.d y56e.m y56e.e, .bool y56f.b, .slice y56f.a y56f.n y56f.c, .slice y56f.d y56f.m y56f.e, .int .i64 m], 67), (w56.heap.size, #[.bool y56a.b, .slice y56a.a y56a.n y56a.c, .slice y56a.d y56a.m y56a.e, .bool y56b.b, .slice y56b.a y56b.n y56b.c, .slice y56b.d y56b.m y56b.e, .bool y56c.b, .slice y56c.a y56c.n y56c.c, .slice y56c.d y56c.m y56c.e, .int .i64 m], 65), (Br47_7, arr6 z51aq5 z51bq5, 63), (Br47_6, arr6 z50aq2 z50bq2, 61), (w42.heap.size, #[.int .i64 sn, .int .i64 sd, .int .i64 pn, .int .i64 pd, .int .i64 qn, .int .i64 qd, .int .i64 rn, .int .i64 rd], 23), (w.heap.size + 2, #[.int .i64 pn, .int .i64 pd, .int .i64 qn, .int .i64 qd, .int .i64 rn, .int .i64 rd, .int .i64 m], 55), (w.heap.size + 1, #[.int .i64 sn, .int .i64 sd], 23), (w.heap.size, #[.int .i64 an, .int .i64 ad, .int .i64 bn, .int .i64 bd], 53)] [])) (by kernel_rfl) ((HS.out.drew).bare) (fun hh => ?_)
       replace HS := Lib.hid HS.out.drew
       replace HMK := Lib.hid (ext_trans HMK.out (Below.refl _ _).drew)
       refine tkB (i := 0) (v := ?_) rfl ?_ ?_
       rotate_left
       ·
        intro u hSu; (try dsimp only at hSu); obtain ⟨qb4c0, qb4c1, qb4c2, qb4c3, qb4c4, qb4c5, _⟩ := fac6 (x := z50aq2) (y := z50bq2) (hSu.at 3 _ _ _ rfl); clear hSu; go_simp <;> with_reducible rfl
       try simp only [nbs, Act.put]
       refine tkB (i := 1) (v := ?_) rfl ?_ ?_
       rotate_left
       ·
        intro u hSu; (try dsimp only at hSu); have qb1e := (hSu.at 6 _ _ _ rfl); have qb1c0 := blk_cell qb1e 0 (.int .i64 sn) rfl; have qb1c1 := blk_cell qb1e 1 (.int .i64 sd) rfl; clear qb1e; clear hSu; go_simp <;> with_reducible rfl
       try simp only [nbs, Act.put]
       refine tkB (i := 3) (v := ?_) rfl ?_ ?_
       rotate_left
       ·
        intro u hSu; go_simp <;> with_reducible rfl
       try simp only [nbs, Act.put]
       refine tkB (i := 4) (v := ?_) rfl ?_ ?_
       rotate_left
       ·
        intro u hSu; go_simp <;> with_reducible rfl
       try simp only [nbs, Act.put]
       refine tkB (i := 5) (v := ?_) rfl ?_ ?_
       rotate_left
       ·
        intro u hSu; go_simp <;> with_reducible rfl
       try simp only [nbs, Act.put]
       refine rdA (i := 2) rfl (fun K hK => ?_)
       go_simp
       go_wp2_with (go_at_call 18; (with_reducible refine (ofN_any sn sd _ HST.out).mono ?_); rintro e w66 ⟨v66, rfl, hv66, hb66⟩; obtain ⟨z66, rfl⟩ := hv66.open3)
       refine hK.out _ _ (Sx.below hh hb66) (fun hh => ?_)
       clear hK K
       try simp only [nbs, Act.put]
       replace HS := Lib.hid (HS.out.below hb66)
       replace HMK := Lib.hid (ext_trans HMK.out hb66)
       clear hb66
       replace HS := Lib.hid (HS.out.addP hv66)
       clear hv66
       refine rdA (i := 6) rfl (fun K hK => ?_)
       go_simp
       have a68 := HS.out.p 12 _ _ rfl
       have a69 := HS.out.p 11 _ _ rfl
       have a70 := HS.out.p 0 _ _ rfl
       go_wp2_with (go_at_call 24; (with_reducible refine (HFP0.out HFL.out _ _ _ _ (rngP a68 a69) a70 (HTA.out.bP HMK.out)).mono ?_); rintro e w67 ⟨v67, rfl, hv67, hb67⟩; obtain ⟨ao67, cap67, rfl, hE67⟩ := hv67; have HEP := Lib.hid hE67; clear hE67)
       refine hK.out _ _ (Sx.below hh hb67) (fun hh => ?_)
       clear hK K
       try simp only [nbs, Act.put]
       replace HS := Lib.hid (HS.out.below hb67)
       replace HMK := Lib.hid (ext_trans HMK.out hb67)
       clear hb67 a68 a69 a70
       have HMF1 := Lib.hid (Below.refl w67.heap.size w67)
       refine tkB (i := 7) (v := ?_) rfl ?_ ?_
       rotate_left
       ·
        intro u hSu; go_simp <;> with_reducible rfl
       try simp only [nbs, Act.put]
       refine tkB (i := 8) (v := ?_) rfl ?_ ?_
       rotate_left
       ·
        intro u hSu; go_simp <;> with_reducible rfl
       try simp only [nbs, Act.put]
       refine tkB (i := 9) (v := ?_) rfl ?_ ?_
       rotate_left
       ·
        intro u hSu; go_simp <;> with_reducible rfl
       try simp only [nbs, Act.put]
       refine tkB (i := 10) (v := ?_) rfl ?_ ?_
       rotate_left
       ·
        intro u hSu; go_simp <;> with_reducible rfl
       try simp only [nbs, Act.put]
       refine tkB (i := 11) (v := ?_) rfl ?_ ?_
       rotate_left
       ·
        intro u hSu; go_simp <;> with_reducible rfl
       try simp only [nbs, Act.put]
       refine wpAnyH_done (by kernel_rfl) ?_ _
       go_wp2_with fail
       refine wp_region_held_drew (S := (fun w' => Sx w w' [(w56.heap.size + 1, #[.bool y56d.b, .slice y56d.a y56d.n y56d.c, .slice y56d.d y56d.m y56d.e, .bool y56e.b, .slice y56e.a y56e.n y56e.c, .slice y56e.d y56e.m y56e.e, .bool y56f.b, .slice y56f.a y56f.n y56f.c, .slice y56f.d y56f.m y56f.e, .int .i64 m], 67), (w56.heap.size, #[.bool y56a.b, .slice y56a.a y56a.n y56a.c, .slice y56a.d y56a.m y56a.e, .bool y56b.b, .slice y56b.a y56b.n y56b.c, .slice y56b.d y56b.m y56b.e, .bool y56c.b, .slice y56c.a y56c.n y56c.c, .slice y56c.d y56c.m y56c.e, .int .i64 m], 65), (Br47_7, arr6 z51aq5 z51bq5, 63), (Br47_6, arr6 z50aq2 z50bq2, 61), (w42.heap.size, #[.int .i64 sn, .int .i64 sd, .int .i64 pn, .int .i64 pd, .int .i64 qn, .int .i64 qd, .int .i64 rn, .int .i64 rd], 23), (w.heap.size + 2, #[.int .i64 pn, .int .i64 pd, .int .i64 qn, .int .i64 qd, .int .i64 rn, .int .i64 rd, .int .i64 m], 55), (w.heap.size + 1, #[.int .i64 sn, .int .i64 sd], 23), (w.heap.size, #[.int .i64 an, .int .i64 ad, .int .i64 bn, .int .i64 bd], 53)] [])) (by kernel_rfl) ((HS.out.drew).bare) (fun hh => ?_)
       replace HS := Lib.hid HS.out.drew
       replace HMK := Lib.hid (ext_trans HMK.out (Below.refl _ _).drew)
       replace HMF1 := Lib.hid (ext_trans HMF1.out (Below.refl _ _).drew)
       refine tkB (i := 0) (v := ?_) rfl ?_ ?_
       rotate_left
       ·
        intro u hSu; (try dsimp only at hSu); obtain ⟨qb5c0, qb5c1, qb5c2, qb5c3, qb5c4, qb5c5, _⟩ := fac6 (x := z51aq5) (y := z51bq5) (hSu.at 2 _ _ _ rfl); clear hSu; go_simp <;> with_reducible rfl
       try simp only [nbs, Act.put]
       refine tkB (i := 1) (v := ?_) rfl ?_ ?_
       rotate_left
       ·
        intro u hSu; (try dsimp only at hSu); have qb1e := (hSu.at 6 _ _ _ rfl); have qb1c0 := blk_cell qb1e 0 (.int .i64 sn) rfl; have qb1c1 := blk_cell qb1e 1 (.int .i64 sd) rfl; clear qb1e; clear hSu; go_simp <;> with_reducible rfl
       try simp only [nbs, Act.put]
       refine tkB (i := 3) (v := ?_) rfl ?_ ?_
       rotate_left
       ·
        intro u hSu; go_simp <;> with_reducible rfl
       try simp only [nbs, Act.put]
       refine tkB (i := 4) (v := ?_) rfl ?_ ?_
       rotate_left
       ·
        intro u hSu; go_simp <;> with_reducible rfl
       try simp only [nbs, Act.put]
       refine tkB (i := 5) (v := ?_) rfl ?_ ?_
       rotate_left
       ·
        intro u hSu; go_simp <;> with_reducible rfl
       try simp only [nbs, Act.put]
       refine rdA (i := 2) rfl (fun K hK => ?_)
       go_simp
       go_wp2_with (go_at_call 20; (with_reducible refine (qofN_any sn sd _ HST.out).mono ?_); rintro e w82 ⟨v82, rfl, hv82, hb82⟩; obtain ⟨z82, rfl⟩ := hv82.open3)
       refine hK.out _ _ (Sx.below hh hb82) (fun hh => ?_)
       clear hK K
       try simp only [nbs, Act.put]
       replace HS := Lib.hid (HS.out.below hb82)
       replace HMK := Lib.hid (ext_trans HMK.out hb82)
       replace HMF1 := Lib.hid (ext_trans HMF1.out hb82)
       clear hb82
       replace HS := Lib.hid (HS.out.addQ hv82)
       clear hv82
       refine rdA (i := 6) rfl (fun K hK => ?_)
       go_simp
       have a84 := HS.out.q 9 _ _ rfl
       have a85 := HS.out.q 8 _ _ rfl
       have a86 := HS.out.q 0 _ _ rfl
       go_wp2_with (go_at_call 25; (with_reducible refine (HFQ0.out HFL.out _ _ _ _ (rngQ a84 a85) a86 (HTB.out.bQ HMK.out)).mono ?_); rintro e w83 ⟨v83, rfl, hv83, hb83⟩; obtain ⟨ao83, cap83, rfl, hE83⟩ := hv83; have HEQ := Lib.hid hE83; clear hE83)
       refine hK.out _ _ (Sx.below hh hb83) (fun hh => ?_)
       clear hK K
       try simp only [nbs, Act.put]
       replace HS := Lib.hid (HS.out.below hb83)
       replace HMK := Lib.hid (ext_trans HMK.out hb83)
       replace HMF1 := Lib.hid (ext_trans HMF1.out hb83)
       clear hb83 a84 a85 a86
       have HMF2 := Lib.hid (Below.refl w83.heap.size w83)
       refine tkB (i := 7) (v := ?_) rfl ?_ ?_
       rotate_left
       ·
        intro u hSu; go_simp <;> with_reducible rfl
       try simp only [nbs, Act.put]
       refine tkB (i := 8) (v := ?_) rfl ?_ ?_
       rotate_left
       ·
        intro u hSu; go_simp <;> with_reducible rfl
       try simp only [nbs, Act.put]
       refine tkB (i := 9) (v := ?_) rfl ?_ ?_
       rotate_left
       ·
        intro u hSu; go_simp <;> with_reducible rfl
       try simp only [nbs, Act.put]
       refine tkB (i := 10) (v := ?_) rfl ?_ ?_
       rotate_left
       ·
        intro u hSu; go_simp <;> with_reducible rfl
       try simp only [nbs, Act.put]
       refine tkB (i := 11) (v := ?_) rfl ?_ ?_
       rotate_left
       ·
        intro u hSu; go_simp <;> with_reducible rfl
       try simp only [nbs, Act.put]
       refine wpAnyH_done (by kernel_rfl) ?_ _
       go_wp2_with fail
       go_loopw [110] (fun u110 wr => ∃ (i : Nat), i ≤ ts.length ∧ u110 = .int .i64 i ∧ Hid (Sx w wr [(w56.heap.size + 1, #[.bool y56d.b, .slice y56d.a y56d.n y56d.c, .slice y56d.d y56d.m y56d.e, .bool y56e.b, .slice y56e.a y56e.n y56e.c, .slice y56e.d y56e.m y56e.e, .bool y56f.b, .slice y56f.a y56f.n y56f.c, .slice y56f.d y56f.m y56f.e, .int .i64 m], 67), (w56.heap.size, #[.bool y56a.b, .slice y56a.a y56a.n y56a.c, .slice y56a.d y56a.m y56a.e, .bool y56b.b, .slice y56b.a y56b.n y56b.c, .slice y56b.d y56b.m y56b.e, .bool y56c.b, .slice y56c.a y56c.n y56c.c, .slice y56c.d y56c.m y56c.e, .int .i64 m], 65), (Br47_7, arr6 z51aq5 z51bq5, 63), (Br47_6, arr6 z50aq2 z50bq2, 61), (w42.heap.size, #[.int .i64 sn, .int .i64 sd, .int .i64 pn, .int .i64 pd, .int .i64 qn, .int .i64 qd, .int .i64 rn, .int .i64 rd], 23), (w.heap.size + 2, #[.int .i64 pn, .int .i64 pd, .int .i64 qn, .int .i64 qd, .int .i64 rn, .int .i64 rd, .int .i64 m], 55), (w.heap.size + 1, #[.int .i64 sn, .int .i64 sd], 23), (w.heap.size, #[.int .i64 an, .int .i64 ad, .int .i64 bn, .int .i64 bd], 53)] [(false, z82.val, (fracQ sn sd)), (true, z66.val, (fracQ sn sd)), (false, y56f.val, ri), (false, y56e.val, mo), (false, y56d.val, le), (true, y56c.val, ri), (true, y56b.val, mo), (true, y56a.val, le), (false, z51bq5.val, l1), (false, z51aq5.val, l0), (false, z51b.val, l1), (false, z51a.val, l0), (true, z50bq2.val, l1), (true, z50aq2.val, l0), (true, z50b.val, l1), (true, z50a.val, l0)]) ∧ Hid (Below w40.heap.size w40 wr) ∧ Hid (Below w67.heap.size w67 wr) ∧ Hid (Below w83.heap.size w83 wr))
        (fun u _ => ts.length - (intOf u).toNat)
       case atStart => exact ⟨0, Nat.zero_le _, rfl, Lib.hid (((((((((((((((((HS.out.bare).addP (HS.out.p 15 _ _ rfl)).addP (HS.out.p 14 _ _ rfl)).addP (HS.out.p 13 _ _ rfl)).addP (HS.out.p 12 _ _ rfl)).addQ (HS.out.q 11 _ _ rfl)).addQ (HS.out.q 10 _ _ rfl)).addQ (HS.out.q 9 _ _ rfl)).addQ (HS.out.q 8 _ _ rfl)).addP (HS.out.p 7 _ _ rfl)).addP (HS.out.p 6 _ _ rfl)).addP (HS.out.p 5 _ _ rfl)).addQ (HS.out.q 4 _ _ rfl)).addQ (HS.out.q 3 _ _ rfl)).addQ (HS.out.q 2 _ _ rfl)).addP (HS.out.p 1 _ _ rfl)).addQ (HS.out.q 0 _ _ rfl)), HMK, HMF1, HMF2⟩
       case round =>
        obtain ⟨wr92, hwr92⟩ : ∃ z, z = wr := ⟨_, rfl⟩
        subst hwr92
        clear HS HMK HMF1 HMF2
        obtain ⟨i, hi, rfl, HS, HMK, HMF1, HMF2⟩ := hrel
        by_cases hlt : i < ts.length
        ·
         have hlt' : (i : Int) < ts.length := by omega
         have hge' : (0 : Int) ≤ i := by omega
         have HLT := Lib.hid hlt
         obtain ⟨bp, op, rfl, hblp, hEEp⟩ := HEP.out (by omega)
         have HBLp := Lib.hid hblp
         obtain ⟨Px, Tg0, Tg1, Tg2, ThPx⟩ := hEEp i hlt 0 (by omega)
         have Tp0 : Hid (w67.cell? ⟨bp, op + i * 6, none⟩ = some (.bool Px.b)) := Tg0
         have Tp1 : Hid (w67.cell? ⟨bp, op + i * 6 + 1, none⟩ = some (.slice Px.a Px.n Px.c)) := Tg1
         have Tp2 : Hid (w67.cell? ⟨bp, op + i * 6 + 2, none⟩ = some (.slice Px.d Px.m Px.e)) := Tg2
         clear Tg0 Tg1 Tg2
         obtain ⟨Py, Tg0, Tg1, Tg2, ThPy⟩ := hEEp i hlt 1 (by omega)
         have Tp3 : Hid (w67.cell? ⟨bp, op + i * 6 + 3, none⟩ = some (.bool Py.b)) := Tg0
         have Tp4 : Hid (w67.cell? ⟨bp, op + i * 6 + 4, none⟩ = some (.slice Py.a Py.n Py.c)) := Tg1
         have Tp5 : Hid (w67.cell? ⟨bp, op + i * 6 + 5, none⟩ = some (.slice Py.d Py.m Py.e)) := Tg2
         clear Tg0 Tg1 Tg2
         replace HS := Lib.hid ((HS.out.addP (Fr.below ThPx HMF1.out)).addP (Fr.below ThPy HMF1.out))
         clear ThPx ThPy hblp hEEp
         obtain ⟨bq, oq, rfl, hblq, hEEq⟩ := HEQ.out (by omega)
         have HBLq := Lib.hid hblq
         obtain ⟨Qx, Tg0, Tg1, Tg2, ThQx⟩ := hEEq i hlt 0 (by omega)
         have Tq0 : Hid (w83.cell? ⟨bq, oq + i * 6, none⟩ = some (.bool Qx.b)) := Tg0
         have Tq1 : Hid (w83.cell? ⟨bq, oq + i * 6 + 1, none⟩ = some (.slice Qx.a Qx.n Qx.c)) := Tg1
         have Tq2 : Hid (w83.cell? ⟨bq, oq + i * 6 + 2, none⟩ = some (.slice Qx.d Qx.m Qx.e)) := Tg2
         clear Tg0 Tg1 Tg2
         obtain ⟨Qy, Tg0, Tg1, Tg2, ThQy⟩ := hEEq i hlt 1 (by omega)
         have Tq3 : Hid (w83.cell? ⟨bq, oq + i * 6 + 3, none⟩ = some (.bool Qy.b)) := Tg0
         have Tq4 : Hid (w83.cell? ⟨bq, oq + i * 6 + 4, none⟩ = some (.slice Qy.a Qy.n Qy.c)) := Tg1
         have Tq5 : Hid (w83.cell? ⟨bq, oq + i * 6 + 5, none⟩ = some (.slice Qy.d Qy.m Qy.e)) := Tg2
         clear Tg0 Tg1 Tg2
         replace HS := Lib.hid ((HS.out.addQ (Fr.below ThQx HMF2.out)).addQ (Fr.below ThQy HMF2.out))
         clear ThQx ThQy hblq hEEq
         have hTB : ts.length ≤ 300 := by have := HTL.out; have := HFL.out; omega
         have SH0 := Lib.hid (HTZ.out i 0)
         have SH1 := Lib.hid (HTZ.out i 1)
         generalize (ts.getD i []).getD 0 0 = t0 at *
         generalize (ts.getD i []).getD 1 0 = t1 at *
         clear hlt
         go_wp2_with fail
         refine wp_region_held_drew (S := (fun w' => Sx w w' [(w56.heap.size + 1, #[.bool y56d.b, .slice y56d.a y56d.n y56d.c, .slice y56d.d y56d.m y56d.e, .bool y56e.b, .slice y56e.a y56e.n y56e.c, .slice y56e.d y56e.m y56e.e, .bool y56f.b, .slice y56f.a y56f.n y56f.c, .slice y56f.d y56f.m y56f.e, .int .i64 m], 67), (w56.heap.size, #[.bool y56a.b, .slice y56a.a y56a.n y56a.c, .slice y56a.d y56a.m y56a.e, .bool y56b.b, .slice y56b.a y56b.n y56b.c, .slice y56b.d y56b.m y56b.e, .bool y56c.b, .slice y56c.a y56c.n y56c.c, .slice y56c.d y56c.m y56c.e, .int .i64 m], 65), (Br47_7, arr6 z51aq5 z51bq5, 63), (Br47_6, arr6 z50aq2 z50bq2, 61), (w42.heap.size, #[.int .i64 sn, .int .i64 sd, .int .i64 pn, .int .i64 pd, .int .i64 qn, .int .i64 qd, .int .i64 rn, .int .i64 rd], 23), (w.heap.size + 2, #[.int .i64 pn, .int .i64 pd, .int .i64 qn, .int .i64 qd, .int .i64 rn, .int .i64 rd, .int .i64 m], 55), (w.heap.size + 1, #[.int .i64 sn, .int .i64 sd], 23), (w.heap.size, #[.int .i64 an, .int .i64 ad, .int .i64 bn, .int .i64 bd], 53)] [])) (by kernel_rfl) ((HS.out.drew).bare) (fun hh => ?_)
         replace HS := Lib.hid HS.out.drew
         replace HMK := Lib.hid (ext_trans HMK.out (Below.refl _ _).drew)
         replace HMF1 := Lib.hid (ext_trans HMF1.out (Below.refl _ _).drew)
         replace HMF2 := Lib.hid (ext_trans HMF2.out (Below.refl _ _).drew)
         refine tkB (i := 0) (v := ?_) rfl ?_ ?_
         rotate_left
         ·
          intro u hSu; go_simp <;> with_reducible rfl
         try simp only [nbs, Act.put]
         refine tkB (i := 1) (v := ?_) rfl ?_ ?_
         rotate_left
         ·
          intro u hSu; go_simp <;> with_reducible rfl
         try simp only [nbs, Act.put]
         refine tkB (i := 2) (v := ?_) rfl ?_ ?_
         rotate_left
         ·
          intro u hSu; go_simp <;> with_reducible rfl
         try simp only [nbs, Act.put]
         refine tkB (i := 4) (v := ?_) rfl ?_ ?_
         rotate_left
         ·
          intro u hSu; go_simp <;> with_reducible rfl
         try simp only [nbs, Act.put]
         refine tkB (i := 5) (v := ?_) rfl ?_ ?_
         rotate_left
         ·
          intro u hSu; go_simp <;> with_reducible rfl
         try simp only [nbs, Act.put]
         refine tkB (i := 6) (v := ?_) rfl ?_ ?_
         rotate_left
         ·
          intro u hSu; go_simp <;> with_reducible rfl
         try simp only [nbs, Act.put]
         refine wpAnyH_ready (rs := [3, 7]) (by kernel_rfl) (by simp) ?_
         refine AllReadyH.cons rfl (fun K hK => ?_) ?_
         ·
          have Tpc0 := (HMF1.out.cell (p := ⟨bp, op + i * 6, none⟩) HBLp.out).trans Tp0.out
          have Tpc1 := (HMF1.out.cell (p := ⟨bp, op + i * 6 + 1, none⟩) HBLp.out).trans Tp1.out
          have Tpc2 := (HMF1.out.cell (p := ⟨bp, op + i * 6 + 2, none⟩) HBLp.out).trans Tp2.out
          have Tpc3 := (HMF1.out.cell (p := ⟨bp, op + i * 6 + 3, none⟩) HBLp.out).trans Tp3.out
          have Tpc4 := (HMF1.out.cell (p := ⟨bp, op + i * 6 + 4, none⟩) HBLp.out).trans Tp4.out
          have Tpc5 := (HMF1.out.cell (p := ⟨bp, op + i * 6 + 5, none⟩) HBLp.out).trans Tp5.out
          go_simp
          refine hK.out _ _ hh (fun hh => ?_)
          clear hK K Tpc0 Tpc1 Tpc2 Tpc3 Tpc4 Tpc5
          try simp only [nbs, Act.put]
          refine rdA (i := 7) rfl (fun K hK => ?_)
          have Tqc0 := (HMF2.out.cell (p := ⟨bq, oq + i * 6, none⟩) HBLq.out).trans Tq0.out
          have Tqc1 := (HMF2.out.cell (p := ⟨bq, oq + i * 6 + 1, none⟩) HBLq.out).trans Tq1.out
          have Tqc2 := (HMF2.out.cell (p := ⟨bq, oq + i * 6 + 2, none⟩) HBLq.out).trans Tq2.out
          have Tqc3 := (HMF2.out.cell (p := ⟨bq, oq + i * 6 + 3, none⟩) HBLq.out).trans Tq3.out
          have Tqc4 := (HMF2.out.cell (p := ⟨bq, oq + i * 6 + 4, none⟩) HBLq.out).trans Tq4.out
          have Tqc5 := (HMF2.out.cell (p := ⟨bq, oq + i * 6 + 5, none⟩) HBLq.out).trans Tq5.out
          go_simp
          refine hK.out _ _ hh (fun hh => ?_)
          clear hK K Tqc0 Tqc1 Tqc2 Tqc3 Tqc4 Tqc5
          try simp only [nbs, Act.put]
          refine rdA (i := 8) rfl (fun K hK => ?_)
          go_simp
          have a101 := HS.out.p 3 _ _ rfl
          have a102 := HS.out.p 2 _ _ rfl
          have a103 := HS.out.q 1 _ _ rfl
          have a104 := HS.out.q 0 _ _ rfl
          go_wp2_with (go_at_call 21; (with_reducible refine (isRange_any t0 t1 _ _ _ (rngP a101 a102) (rngQ a103 a104) (szR_mono SH0.out (by omega)) (szR_mono SH1.out (by omega))).mono ?_); rintro e w100 ⟨rfl, hb100⟩)
          refine hK.out _ _ (Sx.below hh hb100) (fun hh => ?_)
          clear hK K
          try simp only [nbs, Act.put]
          replace HS := Lib.hid (HS.out.below hb100)
          replace HMK := Lib.hid (ext_trans HMK.out hb100)
          replace HMF1 := Lib.hid (ext_trans HMF1.out hb100)
          replace HMF2 := Lib.hid (ext_trans HMF2.out hb100)
          clear hb100 a101 a102 a103 a104
          refine tkB (i := 9) (v := ?_) rfl ?_ ?_
          rotate_left
          ·
           intro u hSu; go_simp <;> with_reducible rfl
          try simp only [nbs, Act.put]
          refine wpAnyH_done (by kernel_rfl) ?_ _
          go_wp2_with fail
          exact ⟨⟨i + 1, by have := HLT.out; omega, by go_num, Lib.hid (((((((((((((((((HS.out.bare).addP (HS.out.p 19 _ _ rfl)).addP (HS.out.p 18 _ _ rfl)).addP (HS.out.p 17 _ _ rfl)).addP (HS.out.p 16 _ _ rfl)).addQ (HS.out.q 15 _ _ rfl)).addQ (HS.out.q 14 _ _ rfl)).addQ (HS.out.q 13 _ _ rfl)).addQ (HS.out.q 12 _ _ rfl)).addP (HS.out.p 11 _ _ rfl)).addP (HS.out.p 10 _ _ rfl)).addP (HS.out.p 9 _ _ rfl)).addQ (HS.out.q 8 _ _ rfl)).addQ (HS.out.q 7 _ _ rfl)).addQ (HS.out.q 6 _ _ rfl)).addP (HS.out.p 5 _ _ rfl)).addQ (HS.out.q 4 _ _ rfl)), HMK, HMF1, HMF2⟩, meas_up HLT.out⟩
         refine AllReadyH.cons rfl (fun K hK => ?_) AllReadyH.nil
         have Tqc0 := (HMF2.out.cell (p := ⟨bq, oq + i * 6, none⟩) HBLq.out).trans Tq0.out
         have Tqc1 := (HMF2.out.cell (p := ⟨bq, oq + i * 6 + 1, none⟩) HBLq.out).trans Tq1.out
         have Tqc2 := (HMF2.out.cell (p := ⟨bq, oq + i * 6 + 2, none⟩) HBLq.out).trans Tq2.out
         have Tqc3 := (HMF2.out.cell (p := ⟨bq, oq + i * 6 + 3, none⟩) HBLq.out).trans Tq3.out
         have Tqc4 := (HMF2.out.cell (p := ⟨bq, oq + i * 6 + 4, none⟩) HBLq.out).trans Tq4.out
         have Tqc5 := (HMF2.out.cell (p := ⟨bq, oq + i * 6 + 5, none⟩) HBLq.out).trans Tq5.out
         go_simp
         refine hK.out _ _ hh (fun hh => ?_)
         clear hK K Tqc0 Tqc1 Tqc2 Tqc3 Tqc4 Tqc5
         try simp only [nbs, Act.put]
         refine rdA (i := 3) rfl (fun K hK => ?_)
         have Tpc0 := (HMF1.out.cell (p := ⟨bp, op + i * 6, none⟩) HBLp.out).trans Tp0.out
         have Tpc1 := (HMF1.out.cell (p := ⟨bp, op + i * 6 + 1, none⟩) HBLp.out).trans Tp1.out
         have Tpc2 := (HMF1.out.cell (p := ⟨bp, op + i * 6 + 2, none⟩) HBLp.out).trans Tp2.out
         have Tpc3 := (HMF1.out.cell (p := ⟨bp, op + i * 6 + 3, none⟩) HBLp.out).trans Tp3.out
         have Tpc4 := (HMF1.out.cell (p := ⟨bp, op + i * 6 + 4, none⟩) HBLp.out).trans Tp4.out
         have Tpc5 := (HMF1.out.cell (p := ⟨bp, op + i * 6 + 5, none⟩) HBLp.out).trans Tp5.out
         go_simp
         refine hK.out _ _ hh (fun hh => ?_)
         clear hK K Tpc0 Tpc1 Tpc2 Tpc3 Tpc4 Tpc5
         try simp only [nbs, Act.put]
         refine rdA (i := 8) rfl (fun K hK => ?_)
         go_simp
         have a107 := HS.out.p 3 _ _ rfl
         have a108 := HS.out.p 2 _ _ rfl
         have a109 := HS.out.q 1 _ _ rfl
         have a110 := HS.out.q 0 _ _ rfl
         go_wp2_with (go_at_call 21; (with_reducible refine (isRange_any t0 t1 _ _ _ (rngP a107 a108) (rngQ a109 a110) (szR_mono SH0.out (by omega)) (szR_mono SH1.out (by omega))).mono ?_); rintro e w106 ⟨rfl, hb106⟩)
         refine hK.out _ _ (Sx.below hh hb106) (fun hh => ?_)
         clear hK K
         try simp only [nbs, Act.put]
         replace HS := Lib.hid (HS.out.below hb106)
         replace HMK := Lib.hid (ext_trans HMK.out hb106)
         replace HMF1 := Lib.hid (ext_trans HMF1.out hb106)
         replace HMF2 := Lib.hid (ext_trans HMF2.out hb106)
         clear hb106 a107 a108 a109 a110
         refine tkB (i := 9) (v := ?_) rfl ?_ ?_
         rotate_left
         ·
          intro u hSu; go_simp <;> with_reducible rfl
         try simp only [nbs, Act.put]
         refine wpAnyH_done (by kernel_rfl) ?_ _
         go_wp2_with fail
         exact ⟨⟨i + 1, by have := HLT.out; omega, by go_num, Lib.hid (((((((((((((((((HS.out.bare).addP (HS.out.p 19 _ _ rfl)).addP (HS.out.p 18 _ _ rfl)).addP (HS.out.p 17 _ _ rfl)).addP (HS.out.p 16 _ _ rfl)).addQ (HS.out.q 15 _ _ rfl)).addQ (HS.out.q 14 _ _ rfl)).addQ (HS.out.q 13 _ _ rfl)).addQ (HS.out.q 12 _ _ rfl)).addP (HS.out.p 11 _ _ rfl)).addP (HS.out.p 10 _ _ rfl)).addP (HS.out.p 9 _ _ rfl)).addQ (HS.out.q 8 _ _ rfl)).addQ (HS.out.q 7 _ _ rfl)).addQ (HS.out.q 6 _ _ rfl)).addP (HS.out.p 5 _ _ rfl)).addQ (HS.out.q 4 _ _ rfl)), HMK, HMF1, HMF2⟩, meas_up HLT.out⟩
        ·
         obtain rfl : i = ts.length := by omega
         go_wp2_with fail
         refine wp_region_held_drew (S := (fun w' => Sx w w' [(w56.heap.size + 1, #[.bool y56d.b, .slice y56d.a y56d.n y56d.c, .slice y56d.d y56d.m y56d.e, .bool y56e.b, .slice y56e.a y56e.n y56e.c, .slice y56e.d y56e.m y56e.e, .bool y56f.b, .slice y56f.a y56f.n y56f.c, .slice y56f.d y56f.m y56f.e, .int .i64 m], 67), (w56.heap.size, #[.bool y56a.b, .slice y56a.a y56a.n y56a.c, .slice y56a.d y56a.m y56a.e, .bool y56b.b, .slice y56b.a y56b.n y56b.c, .slice y56b.d y56b.m y56b.e, .bool y56c.b, .slice y56c.a y56c.n y56c.c, .slice y56c.d y56c.m y56c.e, .int .i64 m], 65), (Br47_7, arr6 z51aq5 z51bq5, 63), (Br47_6, arr6 z50aq2 z50bq2, 61), (w42.heap.size, #[.int .i64 sn, .int .i64 sd, .int .i64 pn, .int .i64 pd, .int .i64 qn, .int .i64 qd, .int .i64 rn, .int .i64 rd], 23), (w.heap.size + 2, #[.int .i64 pn, .int .i64 pd, .int .i64 qn, .int .i64 qd, .int .i64 rn, .int .i64 rd, .int .i64 m], 55), (w.heap.size + 1, #[.int .i64 sn, .int .i64 sd], 23), (w.heap.size, #[.int .i64 an, .int .i64 ad, .int .i64 bn, .int .i64 bd], 53)] [])) (by kernel_rfl) ((HS.out.drew).bare) (fun hh => ?_)
         replace HS := Lib.hid HS.out.drew
         replace HMK := Lib.hid (ext_trans HMK.out (Below.refl _ _).drew)
         replace HMF1 := Lib.hid (ext_trans HMF1.out (Below.refl _ _).drew)
         replace HMF2 := Lib.hid (ext_trans HMF2.out (Below.refl _ _).drew)
         refine tkB (i := 0) (v := ?_) rfl ?_ ?_
         rotate_left
         ·
          intro u hSu; (try dsimp only at hSu); obtain ⟨qb4c0, qb4c1, qb4c2, qb4c3, qb4c4, qb4c5, _⟩ := fac6 (x := z50aq2) (y := z50bq2) (hSu.at 3 _ _ _ rfl); clear hSu; go_simp <;> with_reducible rfl
         try simp only [nbs, Act.put]
         refine tkB (i := 1) (v := ?_) rfl ?_ ?_
         rotate_left
         ·
          intro u hSu; (try dsimp only at hSu); have qb1e := (hSu.at 6 _ _ _ rfl); have qb1c0 := blk_cell qb1e 0 (.int .i64 sn) rfl; have qb1c1 := blk_cell qb1e 1 (.int .i64 sd) rfl; clear qb1e; clear hSu; go_simp <;> with_reducible rfl
         try simp only [nbs, Act.put]
         refine tkB (i := 3) (v := ?_) rfl ?_ ?_
         rotate_left
         ·
          intro u hSu; go_simp <;> with_reducible rfl
         try simp only [nbs, Act.put]
         refine tkB (i := 4) (v := ?_) rfl ?_ ?_
         rotate_left
         ·
          intro u hSu; (try dsimp only at hSu); have qb6e := (hSu.at 1 _ _ _ rfl); have qb6c0 := blk_cell qb6e 0 (.bool y56a.b) rfl; have qb6c1 := blk_cell qb6e 1 (.slice y56a.a y56a.n y56a.c) rfl; have qb6c2 := blk_cell qb6e 2 (.slice y56a.d y56a.m y56a.e) rfl; have qb6c3 := blk_cell qb6e 3 (.bool y56b.b) rfl; have qb6c4 := blk_cell qb6e 4 (.slice y56b.a y56b.n y56b.c) rfl; have qb6c5 := blk_cell qb6e 5 (.slice y56b.d y56b.m y56b.e) rfl; have qb6c6 := blk_cell qb6e 6 (.bool y56c.b) rfl; have qb6c7 := blk_cell qb6e 7 (.slice y56c.a y56c.n y56c.c) rfl; have qb6c8 := blk_cell qb6e 8 (.slice y56c.d y56c.m y56c.e) rfl; have qb6c9 := blk_cell qb6e 9 (.int .i64 m) rfl; clear qb6e; clear hSu; go_simp <;> with_reducible rfl
         try simp only [nbs, Act.put]
         refine tkB (i := 5) (v := ?_) rfl ?_ ?_
         rotate_left
         ·
          intro u hSu; go_simp <;> with_reducible rfl
         try simp only [nbs, Act.put]
         refine tkB (i := 6) (v := ?_) rfl ?_ ?_
         rotate_left
         ·
          intro u hSu; go_simp <;> with_reducible rfl
         try simp only [nbs, Act.put]
         refine rdA (i := 2) rfl (fun K hK => ?_)
         go_simp
         go_wp2_with (go_at_call 18; (with_reducible refine (ofN_any sn sd _ HST.out).mono ?_); rintro e w119 ⟨v119, rfl, hv119, hb119⟩; obtain ⟨z119, rfl⟩ := hv119.open3)
         refine hK.out _ _ (Sx.below hh hb119) (fun hh => ?_)
         clear hK K
         try simp only [nbs, Act.put]
         replace HS := Lib.hid (HS.out.below hb119)
         replace HMK := Lib.hid (ext_trans HMK.out hb119)
         replace HMF1 := Lib.hid (ext_trans HMF1.out hb119)
         replace HMF2 := Lib.hid (ext_trans HMF2.out hb119)
         clear hb119
         replace HS := Lib.hid (HS.out.addP hv119)
         clear hv119
         refine rdA (i := 7) rfl (fun K hK => ?_)
         go_simp
         have a121 := HS.out.p 14 _ _ rfl
         have a122 := HS.out.p 13 _ _ rfl
         have a123 := HS.out.p 0 _ _ rfl
         have a124 := HS.out.p 8 _ _ rfl
         have a125 := HS.out.p 7 _ _ rfl
         have a126 := HS.out.p 6 _ _ rfl
         go_wp2_with (go_at_call 26; (with_reducible refine (HMP0.out HFL.out _ _ _ _ y56a y56b y56c (rngP a121 a122) a123 (HTA.out.bP HMK.out) a124 a125 a126).mono ?_); rintro e w120 ⟨rfl, hb120⟩)
         refine hK.out _ _ (Sx.below hh hb120) (fun hh => ?_)
         clear hK K
         try simp only [nbs, Act.put]
         replace HS := Lib.hid (HS.out.below hb120)
         replace HMK := Lib.hid (ext_trans HMK.out hb120)
         replace HMF1 := Lib.hid (ext_trans HMF1.out hb120)
         replace HMF2 := Lib.hid (ext_trans HMF2.out hb120)
         clear hb120 a121 a122 a123 a124 a125 a126
         refine tkB (i := 8) (v := ?_) rfl ?_ ?_
         rotate_left
         ·
          intro u hSu; go_simp <;> with_reducible rfl
         try simp only [nbs, Act.put]
         cases t128 : mb with
         | true =>
          refine tkB (i := 9) (v := ?_) rfl ?_ ?_
          rotate_left
          ·
           intro u hSu; go_simp <;> with_reducible rfl
          try simp only [nbs, Act.put]
          refine tkB (i := 10) (v := ?_) rfl ?_ ?_
          rotate_left
          ·
           intro u hSu; go_simp <;> with_reducible rfl
          try simp only [nbs, Act.put]
          refine tkB (i := 11) (v := ?_) rfl ?_ ?_
          rotate_left
          ·
           intro u hSu; go_simp <;> with_reducible rfl
          try simp only [nbs, Act.put]
          refine tkB (i := 12) (v := ?_) rfl ?_ ?_
          rotate_left
          ·
           intro u hSu; go_simp <;> with_reducible rfl
          try simp only [nbs, Act.put]
          refine wpAnyH_done (by kernel_rfl) ?_ _
          go_wp2_with fail
          refine wp_region_held_drew (S := (fun w' => Sx w w' [(w56.heap.size + 1, #[.bool y56d.b, .slice y56d.a y56d.n y56d.c, .slice y56d.d y56d.m y56d.e, .bool y56e.b, .slice y56e.a y56e.n y56e.c, .slice y56e.d y56e.m y56e.e, .bool y56f.b, .slice y56f.a y56f.n y56f.c, .slice y56f.d y56f.m y56f.e, .int .i64 m], 67), (w56.heap.size, #[.bool y56a.b, .slice y56a.a y56a.n y56a.c, .slice y56a.d y56a.m y56a.e, .bool y56b.b, .slice y56b.a y56b.n y56b.c, .slice y56b.d y56b.m y56b.e, .bool y56c.b, .slice y56c.a y56c.n y56c.c, .slice y56c.d y56c.m y56c.e, .int .i64 m], 65), (Br47_7, arr6 z51aq5 z51bq5, 63), (Br47_6, arr6 z50aq2 z50bq2, 61), (w42.heap.size, #[.int .i64 sn, .int .i64 sd, .int .i64 pn, .int .i64 pd, .int .i64 qn, .int .i64 qd, .int .i64 rn, .int .i64 rd], 23), (w.heap.size + 2, #[.int .i64 pn, .int .i64 pd, .int .i64 qn, .int .i64 qd, .int .i64 rn, .int .i64 rd, .int .i64 m], 55), (w.heap.size + 1, #[.int .i64 sn, .int .i64 sd], 23), (w.heap.size, #[.int .i64 an, .int .i64 ad, .int .i64 bn, .int .i64 bd], 53)] [])) (by kernel_rfl) ((HS.out.drew).bare) (fun hh => ?_)
          replace HS := Lib.hid HS.out.drew
          replace HMK := Lib.hid (ext_trans HMK.out (Below.refl _ _).drew)
          replace HMF1 := Lib.hid (ext_trans HMF1.out (Below.refl _ _).drew)
          replace HMF2 := Lib.hid (ext_trans HMF2.out (Below.refl _ _).drew)
          refine tkB (i := 0) (v := ?_) rfl ?_ ?_
          rotate_left
          ·
           intro u hSu; (try dsimp only at hSu); obtain ⟨qb5c0, qb5c1, qb5c2, qb5c3, qb5c4, qb5c5, _⟩ := fac6 (x := z51aq5) (y := z51bq5) (hSu.at 2 _ _ _ rfl); clear hSu; go_simp <;> with_reducible rfl
          try simp only [nbs, Act.put]
          refine tkB (i := 1) (v := ?_) rfl ?_ ?_
          rotate_left
          ·
           intro u hSu; (try dsimp only at hSu); have qb1e := (hSu.at 6 _ _ _ rfl); have qb1c0 := blk_cell qb1e 0 (.int .i64 sn) rfl; have qb1c1 := blk_cell qb1e 1 (.int .i64 sd) rfl; clear qb1e; clear hSu; go_simp <;> with_reducible rfl
          try simp only [nbs, Act.put]
          refine tkB (i := 3) (v := ?_) rfl ?_ ?_
          rotate_left
          ·
           intro u hSu; go_simp <;> with_reducible rfl
          try simp only [nbs, Act.put]
          refine tkB (i := 4) (v := ?_) rfl ?_ ?_
          rotate_left
          ·
           intro u hSu; (try dsimp only at hSu); have qb7e := (hSu.at 0 _ _ _ rfl); have qb7c0 := blk_cell qb7e 0 (.bool y56d.b) rfl; have qb7c1 := blk_cell qb7e 1 (.slice y56d.a y56d.n y56d.c) rfl; have qb7c2 := blk_cell qb7e 2 (.slice y56d.d y56d.m y56d.e) rfl; have qb7c3 := blk_cell qb7e 3 (.bool y56e.b) rfl; have qb7c4 := blk_cell qb7e 4 (.slice y56e.a y56e.n y56e.c) rfl; have qb7c5 := blk_cell qb7e 5 (.slice y56e.d y56e.m y56e.e) rfl; have qb7c6 := blk_cell qb7e 6 (.bool y56f.b) rfl; have qb7c7 := blk_cell qb7e 7 (.slice y56f.a y56f.n y56f.c) rfl; have qb7c8 := blk_cell qb7e 8 (.slice y56f.d y56f.m y56f.e) rfl; have qb7c9 := blk_cell qb7e 9 (.int .i64 m) rfl; clear qb7e; clear hSu; go_simp <;> with_reducible rfl
          try simp only [nbs, Act.put]
          refine tkB (i := 5) (v := ?_) rfl ?_ ?_
          rotate_left
          ·
           intro u hSu; go_simp <;> with_reducible rfl
          try simp only [nbs, Act.put]
          refine tkB (i := 6) (v := ?_) rfl ?_ ?_
          rotate_left
          ·
           intro u hSu; go_simp <;> with_reducible rfl
          try simp only [nbs, Act.put]
          refine rdA (i := 2) rfl (fun K hK => ?_)
          go_simp
          go_wp2_with (go_at_call 20; (with_reducible refine (qofN_any sn sd _ HST.out).mono ?_); rintro e w140 ⟨v140, rfl, hv140, hb140⟩; obtain ⟨z140, rfl⟩ := hv140.open3)
          refine hK.out _ _ (Sx.below hh hb140) (fun hh => ?_)
          clear hK K
          try simp only [nbs, Act.put]
          replace HS := Lib.hid (HS.out.below hb140)
          replace HMK := Lib.hid (ext_trans HMK.out hb140)
          replace HMF1 := Lib.hid (ext_trans HMF1.out hb140)
          replace HMF2 := Lib.hid (ext_trans HMF2.out hb140)
          clear hb140
          replace HS := Lib.hid (HS.out.addQ hv140)
          clear hv140
          refine rdA (i := 7) rfl (fun K hK => ?_)
          go_simp
          have a142 := HS.out.q 11 _ _ rfl
          have a143 := HS.out.q 10 _ _ rfl
          have a144 := HS.out.q 0 _ _ rfl
          have a145 := HS.out.q 6 _ _ rfl
          have a146 := HS.out.q 5 _ _ rfl
          have a147 := HS.out.q 4 _ _ rfl
          go_wp2_with (go_at_call 27; (with_reducible refine (HMQ0.out HFL.out _ _ _ _ y56d y56e y56f (rngQ a142 a143) a144 (HTB.out.bQ HMK.out) a145 a146 a147).mono ?_); rintro e w141 ⟨rfl, hb141⟩)
          refine hK.out _ _ (Sx.below hh hb141) (fun hh => ?_)
          clear hK K
          try simp only [nbs, Act.put]
          replace HS := Lib.hid (HS.out.below hb141)
          replace HMK := Lib.hid (ext_trans HMK.out hb141)
          replace HMF1 := Lib.hid (ext_trans HMF1.out hb141)
          replace HMF2 := Lib.hid (ext_trans HMF2.out hb141)
          clear hb141 a142 a143 a144 a145 a146 a147
          refine tkB (i := 8) (v := ?_) rfl ?_ ?_
          rotate_left
          ·
           intro u hSu; go_simp <;> with_reducible rfl
          try simp only [nbs, Act.put]
          refine tkB (i := 9) (v := ?_) rfl ?_ ?_
          rotate_left
          ·
           intro u hSu; go_simp <;> with_reducible rfl
          try simp only [nbs, Act.put]
          refine tkB (i := 10) (v := ?_) rfl ?_ ?_
          rotate_left
          ·
           intro u hSu; go_simp <;> with_reducible rfl
          try simp only [nbs, Act.put]
          refine tkB (i := 11) (v := ?_) rfl ?_ ?_
          rotate_left
          ·
           intro u hSu; go_simp <;> with_reducible rfl
          try simp only [nbs, Act.put]
          refine tkB (i := 12) (v := ?_) rfl ?_ ?_
          rotate_left
          ·
           intro u hSu; go_simp <;> with_reducible rfl
          try simp only [nbs, Act.put]
          refine wpAnyH_done (by kernel_rfl) ?_ _
          go_wp2_with fail
          refine (awake05_any _).mono ?_
          rintro e w153 ⟨rfl, hb153⟩
          replace HS := Lib.hid (HS.out.below hb153)
          replace HMK := Lib.hid (ext_trans HMK.out hb153)
          replace HMF1 := Lib.hid (ext_trans HMF1.out hb153)
          replace HMF2 := Lib.hid (ext_trans HMF2.out hb153)
          clear hb153
          go_wp2_with fail
          go_ret
          exact ⟨by simp, HS.out.bel⟩
         | false =>
          refine tkB (i := 9) (v := ?_) rfl ?_ ?_
          rotate_left
          ·
           intro u hSu; go_simp <;> with_reducible rfl
          try simp only [nbs, Act.put]
          refine tkB (i := 10) (v := ?_) rfl ?_ ?_
          rotate_left
          ·
           intro u hSu; go_simp <;> with_reducible rfl
          try simp only [nbs, Act.put]
          refine tkB (i := 11) (v := ?_) rfl ?_ ?_
          rotate_left
          ·
           intro u hSu; go_simp <;> with_reducible rfl
          try simp only [nbs, Act.put]
          refine tkB (i := 12) (v := ?_) rfl ?_ ?_
          rotate_left
          ·
           intro u hSu; go_simp <;> with_reducible rfl
          try simp only [nbs, Act.put]
          refine wpAnyH_done (by kernel_rfl) ?_ _
          go_wp2_with fail
          refine wp_region_held_drew (S := (fun w' => Sx w w' [(w56.heap.size + 1, #[.bool y56d.b, .slice y56d.a y56d.n y56d.c, .slice y56d.d y56d.m y56d.e, .bool y56e.b, .slice y56e.a y56e.n y56e.c, .slice y56e.d y56e.m y56e.e, .bool y56f.b, .slice y56f.a y56f.n y56f.c, .slice y56f.d y56f.m y56f.e, .int .i64 m], 67), (w56.heap.size, #[.bool y56a.b, .slice y56a.a y56a.n y56a.c, .slice y56a.d y56a.m y56a.e, .bool y56b.b, .slice y56b.a y56b.n y56b.c, .slice y56b.d y56b.m y56b.e, .bool y56c.b, .slice y56c.a y56c.n y56c.c, .slice y56c.d y56c.m y56c.e, .int .i64 m], 65), (Br47_7, arr6 z51aq5 z51bq5, 63), (Br47_6, arr6 z50aq2 z50bq2, 61), (w42.heap.size, #[.int .i64 sn, .int .i64 sd, .int .i64 pn, .int .i64 pd, .int .i64 qn, .int .i64 qd, .int .i64 rn, .int .i64 rd], 23), (w.heap.size + 2, #[.int .i64 pn, .int .i64 pd, .int .i64 qn, .int .i64 qd, .int .i64 rn, .int .i64 rd, .int .i64 m], 55), (w.heap.size + 1, #[.int .i64 sn, .int .i64 sd], 23), (w.heap.size, #[.int .i64 an, .int .i64 ad, .int .i64 bn, .int .i64 bd], 53)] [])) (by kernel_rfl) ((HS.out.drew).bare) (fun hh => ?_)
          replace HS := Lib.hid HS.out.drew
          replace HMK := Lib.hid (ext_trans HMK.out (Below.refl _ _).drew)
          replace HMF1 := Lib.hid (ext_trans HMF1.out (Below.refl _ _).drew)
          replace HMF2 := Lib.hid (ext_trans HMF2.out (Below.refl _ _).drew)
          refine tkB (i := 0) (v := ?_) rfl ?_ ?_
          rotate_left
          ·
           intro u hSu; (try dsimp only at hSu); obtain ⟨qb5c0, qb5c1, qb5c2, qb5c3, qb5c4, qb5c5, _⟩ := fac6 (x := z51aq5) (y := z51bq5) (hSu.at 2 _ _ _ rfl); clear hSu; go_simp <;> with_reducible rfl
          try simp only [nbs, Act.put]
          refine tkB (i := 1) (v := ?_) rfl ?_ ?_
          rotate_left
          ·
           intro u hSu; (try dsimp only at hSu); have qb1e := (hSu.at 6 _ _ _ rfl); have qb1c0 := blk_cell qb1e 0 (.int .i64 sn) rfl; have qb1c1 := blk_cell qb1e 1 (.int .i64 sd) rfl; clear qb1e; clear hSu; go_simp <;> with_reducible rfl
          try simp only [nbs, Act.put]
          refine tkB (i := 3) (v := ?_) rfl ?_ ?_
          rotate_left
          ·
           intro u hSu; go_simp <;> with_reducible rfl
          try simp only [nbs, Act.put]
          refine tkB (i := 4) (v := ?_) rfl ?_ ?_
          rotate_left
          ·
           intro u hSu; (try dsimp only at hSu); have qb7e := (hSu.at 0 _ _ _ rfl); have qb7c0 := blk_cell qb7e 0 (.bool y56d.b) rfl; have qb7c1 := blk_cell qb7e 1 (.slice y56d.a y56d.n y56d.c) rfl; have qb7c2 := blk_cell qb7e 2 (.slice y56d.d y56d.m y56d.e) rfl; have qb7c3 := blk_cell qb7e 3 (.bool y56e.b) rfl; have qb7c4 := blk_cell qb7e 4 (.slice y56e.a y56e.n y56e.c) rfl; have qb7c5 := blk_cell qb7e 5 (.slice y56e.d y56e.m y56e.e) rfl; have qb7c6 := blk_cell qb7e 6 (.bool y56f.b) rfl; have qb7c7 := blk_cell qb7e 7 (.slice y56f.a y56f.n y56f.c) rfl; have qb7c8 := blk_cell qb7e 8 (.slice y56f.d y56f.m y56f.e) rfl; have qb7c9 := blk_cell qb7e 9 (.int .i64 m) rfl; clear qb7e; clear hSu; go_simp <;> with_reducible rfl
          try simp only [nbs, Act.put]
          refine tkB (i := 5) (v := ?_) rfl ?_ ?_
          rotate_left
          ·
           intro u hSu; go_simp <;> with_reducible rfl
          try simp only [nbs, Act.put]
          refine tkB (i := 6) (v := ?_) rfl ?_ ?_
          rotate_left
          ·
           intro u hSu; go_simp <;> with_reducible rfl
          try simp only [nbs, Act.put]
          refine rdA (i := 2) rfl (fun K hK => ?_)
          go_simp
          go_wp2_with (go_at_call 20; (with_reducible refine (qofN_any sn sd _ HST.out).mono ?_); rintro e w165 ⟨v165, rfl, hv165, hb165⟩; obtain ⟨z165, rfl⟩ := hv165.open3)
          refine hK.out _ _ (Sx.below hh hb165) (fun hh => ?_)
          clear hK K
          try simp only [nbs, Act.put]
          replace HS := Lib.hid (HS.out.below hb165)
          replace HMK := Lib.hid (ext_trans HMK.out hb165)
          replace HMF1 := Lib.hid (ext_trans HMF1.out hb165)
          replace HMF2 := Lib.hid (ext_trans HMF2.out hb165)
          clear hb165
          replace HS := Lib.hid (HS.out.addQ hv165)
          clear hv165
          refine rdA (i := 7) rfl (fun K hK => ?_)
          go_simp
          have a167 := HS.out.q 11 _ _ rfl
          have a168 := HS.out.q 10 _ _ rfl
          have a169 := HS.out.q 0 _ _ rfl
          have a170 := HS.out.q 6 _ _ rfl
          have a171 := HS.out.q 5 _ _ rfl
          have a172 := HS.out.q 4 _ _ rfl
          go_wp2_with (go_at_call 27; (with_reducible refine (HMQ0.out HFL.out _ _ _ _ y56d y56e y56f (rngQ a167 a168) a169 (HTB.out.bQ HMK.out) a170 a171 a172).mono ?_); rintro e w166 ⟨rfl, hb166⟩)
          refine hK.out _ _ (Sx.below hh hb166) (fun hh => ?_)
          clear hK K
          try simp only [nbs, Act.put]
          replace HS := Lib.hid (HS.out.below hb166)
          replace HMK := Lib.hid (ext_trans HMK.out hb166)
          replace HMF1 := Lib.hid (ext_trans HMF1.out hb166)
          replace HMF2 := Lib.hid (ext_trans HMF2.out hb166)
          clear hb166 a167 a168 a169 a170 a171 a172
          refine tkB (i := 8) (v := ?_) rfl ?_ ?_
          rotate_left
          ·
           intro u hSu; go_simp <;> with_reducible rfl
          try simp only [nbs, Act.put]
          refine tkB (i := 9) (v := ?_) rfl ?_ ?_
          rotate_left
          ·
           intro u hSu; go_simp <;> with_reducible rfl
          try simp only [nbs, Act.put]
          refine tkB (i := 10) (v := ?_) rfl ?_ ?_
          rotate_left
          ·
           intro u hSu; go_simp <;> with_reducible rfl
          try simp only [nbs, Act.put]
          refine tkB (i := 11) (v := ?_) rfl ?_ ?_
          rotate_left
          ·
           intro u hSu; go_simp <;> with_reducible rfl
          try simp only [nbs, Act.put]
          refine tkB (i := 12) (v := ?_) rfl ?_ ?_
          rotate_left
          ·
           intro u hSu; go_simp <;> with_reducible rfl
          try simp only [nbs, Act.put]
          refine wpAnyH_done (by kernel_rfl) ?_ _
          go_wp2_with fail
          refine (awake05_any _).mono ?_
          rintro e w178 ⟨rfl, hb178⟩
          replace HS := Lib.hid (HS.out.below hb178)
          replace HMK := Lib.hid (ext_trans HMK.out hb178)
          replace HMF1 := Lib.hid (ext_trans HMF1.out hb178)
          replace HMF2 := Lib.hid (ext_trans HMF2.out hb178)
          clear hb178
          go_wp2_with fail
          go_ret
          exact ⟨by simp, HS.out.bel⟩
     | false =>
      refine (light4_any sn sd pn pd qn qd rn rd _ _ (pairs4 (HS.out.at 0 _ _ _ rfl))).mono ?_
      rw [t45]
      rintro e w179 ⟨rfl, hb179⟩
      replace HS := Lib.hid (HS.out.below hb179)
      replace HMK := Lib.hid (ext_trans HMK.out hb179)
      clear hb179
      go_wp2_with fail
      refine (awake05_any _).mono ?_
      rintro e w180 ⟨rfl, hb180⟩
      replace HS := Lib.hid (HS.out.below hb180)
      replace HMK := Lib.hid (ext_trans HMK.out hb180)
      clear hb180
      go_wp2_with fail
      go_ret
      exact ⟨by simp, HS.out.bel⟩
    | false =>
     refine (light2_any an ad bn bd _ _ (pairsB (HS.out.at 2 _ _ _ rfl))).mono ?_
     rw [t41]
     rintro e w181 ⟨rfl, hb181⟩
     replace HS := Lib.hid (HS.out.below hb181)
     replace HMK := Lib.hid (ext_trans HMK.out hb181)
     clear hb181
     go_wp2_with fail
     refine (awake05_any _).mono ?_
     rintro e w182 ⟨rfl, hb182⟩
     replace HS := Lib.hid (HS.out.below hb182)
     replace HMK := Lib.hid (ext_trans HMK.out hb182)
     clear hb182
     go_wp2_with fail
     go_ret
     exact ⟨by simp, HS.out.bel⟩
end Go.Proofs.YthdgeindjphklaaGreat
