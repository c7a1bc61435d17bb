/- Part g of the lemmas and walks. -/
import Derived.Test.YtofijjomfhmbjaaGreatAf

namespace Go.Proofs.YtofijjomfhmbjaaGreat
open Go.RowKit

structure OkPcs (l : List (Int × Int)) (m : Int) : Prop where
 m1 : 1 ≤ m
 m2 : m ≤ 1000000
 len : l.length ≤ 24
 pcs : ∀ i, i < l.length → (1 ≤ (l.getD i (0, 0)).1 ∧ (l.getD i (0, 0)).1 ≤ 1000000) ∧ 1 ≤ (l.getD i (0, 0)).2 ∧ (l.getD i (0, 0)).2 ≤ m
theorem OkPcs.at {l : List (Int × Int)} {m : Int} (h : OkPcs l m) {i : Nat} (hi : i < l.length) : (1 ≤ (l.getD i (0, 0)).1 ∧ (l.getD i (0, 0)).1 ≤ 1000000) ∧ 1 ≤ (l.getD i (0, 0)).2 ∧ (l.getD i (0, 0)).2 ≤ m := h.pcs i hi
theorem inL_of {n lo hi : Int} (h : inL n lo hi = true) : lo ≤ n ∧ n ≤ hi := by simpa [inL] using h
theorem okPcs_of {l : List (Int × Int)} {m : Int} (h : pcsErr l m = 0) : OkPcs l m := by
 unfold pcsErr at h
 cases hm : inL m 1 1000000 with
 | false => rw [if_pos hm] at h; exact absurd h (by decide)
 | true =>
  rw [if_neg (by rw [hm]; simp)] at h
  by_cases c : 24 < l.length
  ·
   rw [if_pos c] at h; exact absurd h (by decide)
  ·
   rw [if_neg c] at h
   have hm' := inL_of hm
   refine ⟨hm'.1, hm'.2, by omega, fun i hi => ?_⟩
   have := firstErr_all h i hi
   unfold pcErr at this
   cases hb : (inL (l.getD i (0, 0)).1 1 1000000 && inL (l.getD i (0, 0)).2 1 1000000) with
   | false => rw [if_pos hb] at this; exact absurd this (by decide)
   | true =>
    rw [if_neg (by rw [hb]; simp)] at this
    by_cases c2 : m < (l.getD i (0, 0)).2
    ·
     rw [if_pos c2] at this; exact absurd this (by decide)
    ·
     simp only [Bool.and_eq_true] at hb
     have a := inL_of hb.1
     have b := inL_of hb.2
     omega
def bndN (l : List (Int × Int)) (m : Int) : Int := if pcsErr l m = 0 then boundZ l m else 0

theorem longZ_rangeA {l : List (Int × Int)} {m : Int} (hg : OkPcs l m) (i : Nat) (hi : i ≤ l.length) : 0 ≤ longZ l i ∧ longZ l i ≤ 1000000 := by
 induction i with
 | zero => exact ⟨Int.le_refl _, by show (0 : Int) ≤ 1000000; omega⟩
 | succ i ih =>
  have := ih (by omega)
  have := hg.at (show i < l.length by omega)
  simp only [longZ, gP]
  omega
theorem areaZ_rangeA {l : List (Int × Int)} {m : Int} (hg : OkPcs l m) (i : Nat) (hi : i ≤ l.length) : 0 ≤ areaZ l i ∧ areaZ l i ≤ 1000000000000 * i := by
 induction i with
 | zero => exact ⟨Int.le_refl _, by show (0 : Int) ≤ _; omega⟩
 | succ i ih =>
  have := ih (by omega)
  have a := hg.at (show i < l.length by omega)
  have b := Int.mul_nonneg (show 0 ≤ (l.getD i (0, 0)).1 by omega) (show 0 ≤ (l.getD i (0, 0)).2 by omega)
  have c : (l.getD i (0, 0)).1 * (l.getD i (0, 0)).2 ≤ 1000000 * 1000000 := Int.mul_le_mul a.1.2 (by have := hg.m2; omega) (by omega) (by omega)
  have e : areaZ l (i + 1) = areaZ l i + (l.getD i (0, 0)).1 * (l.getD i (0, 0)).2 := rfl
  rw [e]
  omega
theorem aloneZ_rangeA {l : List (Int × Int)} {m : Int} (hg : OkPcs l m) (i : Nat) (hi : i ≤ l.length) : 0 ≤ aloneZ l m i ∧ aloneZ l m i ≤ 1000000 * i := by
 induction i with
 | zero => exact ⟨Int.le_refl _, by show (0 : Int) ≤ _; omega⟩
 | succ i ih =>
  have := ih (by omega)
  have a := hg.at (show i < l.length by omega)
  have e : aloneZ l m (i + 1) = aloneZ l m i + if 2 * (l.getD i (0, 0)).2 > m then (l.getD i (0, 0)).1 else 0 := rfl
  rw [e]
  split <;> omega

set_option maxRecDepth 100000 in
set_option maxHeartbeats 8000000 in
theorem lbound_any {l : List (Int × Int)} {m : Int} (v : Value) (w : World) (hv : PairsOf w v l) : Calls Tryz.prog 13 #[v, .int .i64 m] w (RetTwoN (bndN l m) (pcsErr l m) w) := by
 have HV := Lib.hid hv
 obtain ⟨ao, cap, rfl, hE⟩ := hv
 have HE := Lib.hid hE
 clear hE
 by_cases hz : pcsErr l m = 0
 ·
  have HZ := Lib.hid hz
  have HG := Lib.hid (okPcs_of hz)
  have HB : Hid (bndN l m = boundZ l m) := by show _ = _; unfold bndN; rw [if_pos hz]
  clear hz
  have hlen := HG.out.len
  have hm1 := HG.out.m1
  have hm2 := HG.out.m2
  go_enter Tryz.func13, Tryz.ntmps13
  go_wp2_with fail
  refine (checkPieces_any _ _ HV.out).mono ?_
  rw [HZ.out]
  rintro e w1 ⟨rfl, hb1⟩
  go_wp2_with fail
  go_loopw [7, 8, 9, 20] (fun lv sv av iv wr => ∃ (i : Nat), i ≤ l.length ∧ iv = .int .i64 i ∧ lv = .int .i64 (longZ l i) ∧ sv = .int .i64 (areaZ l i) ∧ av = .int .i64 (aloneZ l m i) ∧ Below w.heap.size w wr)
   (fun _ _ _ iv _ => l.length - (intOf iv).toNat)
  case atStart => exact ⟨0, Nat.zero_le _, rfl, rfl, rfl, rfl, hb1⟩
  case round =>
   clear hb1
   obtain ⟨i, hi, rfl, rfl, rfl, rfl, hbel⟩ := hrel
   have hL := longZ_rangeA HG.out i hi
   have hA := areaZ_rangeA HG.out i hi
   have hO := aloneZ_rangeA HG.out i hi
   by_cases hlt : i < l.length
   ·
    obtain ⟨b, off, rfl, hbl, hEE⟩ := HE.out (by omega)
    obtain ⟨g0, g1⟩ := (hEE i hlt).below hbel hbl
    have hlt' : (i : Int) < l.length := by omega
    have hge' : (0 : Int) ≤ i := by omega
    have hbl2 : b < wr.heap.size := Nat.lt_of_lt_of_le hbl hbel.size
    have hp := HG.out.at hlt
    have HL1 : Hid (longZ l (i + 1) = max (longZ l i) (l.getD i (0, 0)).1) := rfl
    have HA1 : Hid (areaZ l (i + 1) = areaZ l i + (l.getD i (0, 0)).1 * (l.getD i (0, 0)).2) := rfl
    have HO1 : Hid (aloneZ l m (i + 1) = aloneZ l m i + if 2 * (l.getD i (0, 0)).2 > m then (l.getD i (0, 0)).1 else 0) := rfl
    clear hEE
    generalize (l.getD i (0, 0)).1 = x at *
    generalize (l.getD i (0, 0)).2 = y at *
    generalize longZ l i = L at *
    generalize areaZ l i = A at *
    generalize aloneZ l m i = O at *
    have hxy0 := Int.mul_nonneg (show 0 ≤ x by omega) (show 0 ≤ y by omega)
    have hxy1 : x * y ≤ 1000000 * 1000000 := Int.mul_le_mul hp.1.2 (by omega) (by omega) (by omega)
    have hw1 : IntKind.i64.wrap (x * y) = x * y := IntWalk.i64_in _ (by omega)
    have hw2 : IntKind.i64.wrap (A + x * y) = A + x * y := IntWalk.i64_in _ (by omega)
    have hw3 : IntKind.i64.wrap (2 * y) = 2 * y := IntWalk.i64_in _ (by omega)
    have hw4 : IntKind.i64.wrap (O + x) = O + x := IntWalk.i64_in _ (by omega)
    have hN := blk_new wr #[.int .i64 x, .int .i64 y] 26
    have hx := hbel.alloc hbel.size (.cells #[.int .i64 x, .int .i64 y] 26)
    have n0 := blk_cell hN 0 (.int .i64 x) rfl
    have n1 := blk_cell hN 1 (.int .i64 y) rfl
    by_cases c : 2 * y > m
    ·
     have t1 : decide (2 * y > m) = true := decide_eq_true c
     have ho := HO1.out
     rw [if_pos c] at ho
     have HO2 := Lib.hid ho
     clear c ho HO1
     go_wp2_with fail
     go_region
     go_wp2_with fail
     exact ⟨⟨i + 1, by omega, by go_num, by rw [HL1.out], by rw [HA1.out], by rw [HO2.out], hx.drew⟩, meas_up hlt⟩
    ·
     have t1 : decide (2 * y > m) = false := decide_eq_false c
     have ho := HO1.out
     rw [if_neg c, Int.add_zero] at ho
     have HO2 := Lib.hid ho
     clear c ho HO1
     go_wp2_with fail
     go_region
     go_wp2_with fail
     exact ⟨⟨i + 1, by omega, by go_num, by rw [HL1.out], by rw [HA1.out], by rw [HO2.out], hx.drew⟩, meas_up hlt⟩
   ·
    obtain rfl : i = l.length := by omega
    have Ht : Hid (bndN l m = max (max (longZ l l.length) ((areaZ l l.length + m - 1) / m)) (aloneZ l m l.length)) := HB.out
    have Hu : Hid (bndN l m = max (longZ l l.length) (max ((areaZ l l.length + m - 1) / m) (aloneZ l m l.length))) := by show _ = _; rw [HB.out]; unfold boundZ; omega
    generalize longZ l l.length = L at *
    generalize areaZ l l.length = A at *
    generalize aloneZ l m l.length = O at *
    generalize bndN l m = Z at *
    have hw1 : IntKind.i64.wrap (A + m) = A + m := IntWalk.i64_in _ (by omega)
    have hw2 : IntKind.i64.wrap (A + m - 1) = A + m - 1 := IntWalk.i64_in _ (by omega)
    have hne : m ≠ 0 := by omega
    have hq0 := Int.ediv_nonneg (show 0 ≤ A + m - 1 by omega) (show 0 ≤ m by omega)
    have hq1 := Int.ediv_le_self m (show 0 ≤ A + m - 1 by omega)
    have hw3 : IntKind.i64.wrap ((A + m - 1) / m) = (A + m - 1) / m := IntWalk.i64_in _ (by omega)
    have hw4 : wrap64 ((A + m - 1) / m) = (A + m - 1) / m := (IntWalk.i64_left _).symm.trans hw3
    clear hq0 hq1
    have hM3 := fun (w : World) (ts : Array TypeId) (t : TypeId) (x y z : Int) => run_max_ints3 (P := Tryz.prog) w ts t .i64 .i64 .i64 x y z
    go_wp2_with fail
    go_ret2
    first | exact ⟨by rw [Hu.out, HZ.out]; rfl, hbel⟩ | exact ⟨by rw [Ht.out, HZ.out]; rfl, hbel⟩
 ·
  have te : (pcsErr l m != 0) = true := bne_iff_ne.2 hz
  have HB : Hid (bndN l m = 0) := by show _ = _; unfold bndN; rw [if_neg hz]
  have HP := checkPieces_any (m := m) _ w HV.out
  generalize pcsErr l m = er at *
  clear hz
  go_enter Tryz.func13, Tryz.ntmps13
  go_wp2_with fail
  refine HP.mono ?_
  rintro e w1 ⟨rfl, hb1⟩
  go_wp2_with fail
  go_ret2
  exact ⟨by rw [HB.out]; rfl, hb1⟩

def atErr (l : List (Int × Int)) (m : Int) (ls : List (Int × Int)) (i : Nat) : Int := if outB l m ls i = true then 1 else if overTo l ls i i = true then 8 else 0
def chkErr (l : List (Int × Int)) (m : Int) (ls : List (Int × Int)) : Int := if pcsErr l m ≠ 0 then pcsErr l m else if ls.length ≠ l.length then 4 else firstErr (atErr l m ls) l.length
def chkLen (l : List (Int × Int)) (m : Int) (ls : List (Int × Int)) : Int := if chkErr l m ls = 0 then endZ l ls l.length else 0
theorem chk_stop {l : List (Int × Int)} {m : Int} {ls : List (Int × Int)} {i : Nat} (h0 : pcsErr l m = 0) (h1 : ls.length = l.length) (hf : firstErr (atErr l m ls) i = 0) (hi : i < l.length) (he : atErr l m ls i ≠ 0) : chkErr l m ls = atErr l m ls i ∧ chkLen l m ls = 0 := by
 have e : chkErr l m ls = atErr l m ls i := by
  unfold chkErr
  rw [if_neg (by simp [h0]), if_neg (by simp [h1]), firstErr_stay (i := i + 1) (by rw [firstErr_step hf]; exact he) hi, firstErr_step hf]
 refine ⟨e, ?_⟩
 unfold chkLen
 rw [if_neg (by rw [e]; exact he)]
theorem chk_end {l : List (Int × Int)} {m : Int} {ls : List (Int × Int)} (h0 : pcsErr l m = 0) (h1 : ls.length = l.length) (hf : firstErr (atErr l m ls) l.length = 0) : chkErr l m ls = 0 ∧ chkLen l m ls = endZ l ls l.length := by
 have e : chkErr l m ls = 0 := by
  unfold chkErr
  rw [if_neg (by simp [h0]), if_neg (by simp [h1]), hf]
 refine ⟨e, ?_⟩
 unfold chkLen
 rw [if_pos e]
theorem chk_pcs {l : List (Int × Int)} {m : Int} {ls : List (Int × Int)} (h0 : pcsErr l m ≠ 0) : chkErr l m ls = pcsErr l m ∧ chkLen l m ls = 0 := by
 have e : chkErr l m ls = pcsErr l m := by unfold chkErr; rw [if_pos h0]
 exact ⟨e, by unfold chkLen; rw [if_neg (by rw [e]; exact h0)]⟩
theorem chk_size {l : List (Int × Int)} {m : Int} {ls : List (Int × Int)} (h0 : pcsErr l m = 0) (h1 : ls.length ≠ l.length) : chkErr l m ls = 4 ∧ chkLen l m ls = 0 := by
 have e : chkErr l m ls = 4 := by unfold chkErr; rw [if_neg (by simp [h0]), if_pos h1]
 exact ⟨e, by unfold chkLen; rw [if_neg (by rw [e]; decide)]⟩
theorem at_ok {l : List (Int × Int)} {m : Int} {ls : List (Int × Int)} {i : Nat} (h : atErr l m ls i = 0) : outB l m ls i = false ∧ overTo l ls i i = false := by
 unfold atErr at h
 cases h1 : outB l m ls i with
 | true => rw [h1, if_pos rfl] at h; exact absurd h (by decide)
 | false =>
  cases h2 : overTo l ls i i with
  | true => rw [h1, h2] at h; exact absurd h (by decide)
  | false => exact ⟨rfl, rfl⟩
theorem at_out {l : List (Int × Int)} {m : Int} {ls : List (Int × Int)} {i : Nat} (h : outB l m ls i = true) : atErr l m ls i = 1 := by unfold atErr; rw [if_pos h]
theorem at_over {l : List (Int × Int)} {m : Int} {ls : List (Int × Int)} {i : Nat} (h : outB l m ls i = false) (h2 : overTo l ls i i = true) : atErr l m ls i = 8 := by unfold atErr; rw [if_neg (by rw [h]; simp), if_pos h2]
theorem at_none {l : List (Int × Int)} {m : Int} {ls : List (Int × Int)} {i : Nat} (h : outB l m ls i = false) (h2 : overTo l ls i i = false) : atErr l m ls i = 0 := by unfold atErr; rw [if_neg (by rw [h]; simp), if_neg (by rw [h2]; simp)]
theorem out_ok {l : List (Int × Int)} {m : Int} {ls : List (Int × Int)} {i : Nat} (h : outB l m ls i = false) : (0 ≤ (ls.getD i (0, 0)).1 ∧ (ls.getD i (0, 0)).1 ≤ 1099511627776) ∧ 0 ≤ (ls.getD i (0, 0)).2 ∧ (ls.getD i (0, 0)).2 ≤ m - (l.getD i (0, 0)).2 := by
 unfold outB gP at h
 simp only [Bool.or_eq_false_iff, Bool.not_eq_false', Bool.and_eq_true, decide_eq_true_eq, decide_eq_false_iff_not] at h
 omega
theorem endZ_rangeA {l : List (Int × Int)} {m : Int} {ls : List (Int × Int)} (hg : OkPcs l m) (i : Nat) (hi : i ≤ l.length) (h : ∀ j, j < i → (ls.getD j (0, 0)).1 ≤ 1099511627776) : 0 ≤ endZ l ls i ∧ endZ l ls i ≤ 1099512627776 := by
 induction i with
 | zero => exact ⟨Int.le_refl _, by show (0 : Int) ≤ _; omega⟩
 | succ i ih =>
  have := ih (by omega) (fun j hj => h j (by omega))
  have a := hg.at (show i < l.length by omega)
  have b := h i (by omega)
  simp only [endZ, gP]
  omega

set_option maxRecDepth 100000 in
set_option maxHeartbeats 16000000 in
theorem checkNestE_any {l : List (Int × Int)} {m : Int} (ls : List (Int × Int)) (v vl : Value) (w : World) (hv : PairsOf w v l) (hl : PairsOf w vl ls) (hcap : CapOk vl) :
  Calls Tryz.prog 11 #[v, .int .i64 m, vl] w (RetTwoN (chkLen l m ls) (chkErr l m ls) w) := by
 have HV := Lib.hid hv
 obtain ⟨aoj, capj, rfl, hJ⟩ := hv
 obtain ⟨aol, capl, rfl, hL⟩ := hl
 have HJE := Lib.hid hJ
 have HLE := Lib.hid hL
 have hcp : ls.length ≤ capl ∧ capl ≤ maxLen := by
  obtain ⟨a, l, c, e, h1, h2⟩ := hcap
  simp only [Value.slice.injEq] at e
  obtain ⟨rfl, rfl, rfl⟩ := e
  exact ⟨h1, h2⟩
 unfold maxLen at hcp
 clear hJ hL hcap
 by_cases hz : pcsErr l m = 0
 ·
  have HZ := Lib.hid hz
  have HG := Lib.hid (okPcs_of hz)
  clear hz
  by_cases hll : ls.length = l.length
  ·
   skip
   have hlen := HG.out.len
   have hm1 := HG.out.m1
   have hm2 := HG.out.m2
   have H1 := Lib.hid hll
   have t1 : ((ls.length : Int) != (l.length : Int)) = false := by simp [hll]
   have hls : ls.length ≤ 24 := by omega
   clear hll
   go_enter Tryz.func11, Tryz.ntmps11
   go_wp2_with fail
   refine (checkPieces_any _ _ HV.out).mono ?_
   rw [HZ.out]
   rintro e w1 ⟨rfl, hb1⟩
   go_wp2_with fail
   go_loopw [9, 27] (fun nv iv wr => ∃ (i : Nat), i ≤ ls.length ∧ iv = .int .i64 i ∧ nv = .int .i64 (endZ l ls i) ∧ Hid (firstErr (atErr l m ls) i = 0) ∧ Below w.heap.size w wr)
    (fun _ iv _ => ls.length - (intOf iv).toNat)
   case atStart => exact ⟨0, Nat.zero_le _, rfl, rfl, rfl, hb1⟩
   case round =>
    clear hb1
    obtain ⟨i, hi, rfl, rfl, hA, hbel⟩ := hrel
    have Hprev : Hid (∀ j, j < i → (0 ≤ (ls.getD j (0, 0)).1 ∧ (ls.getD j (0, 0)).1 ≤ 1099511627776) ∧ 0 ≤ (ls.getD j (0, 0)).2 ∧ (ls.getD j (0, 0)).2 ≤ m - (l.getD j (0, 0)).2) := fun j hj => out_ok (at_ok (firstErr_all hA.out j hj)).1
    have hend := endZ_rangeA (m := m) HG.out i (by rw [← H1.out]; exact hi) (fun j hj => (Hprev.out j hj).1.2)
    by_cases hlt : i < ls.length
    ·
     obtain ⟨b, off, rfl, hbl, hLL⟩ := HLE.out (by omega)
     have hltj : i < l.length := by rw [← H1.out]; exact hlt
     obtain ⟨bj, offj, rfl, hblj, hJJ⟩ := HJE.out (by omega)
     obtain ⟨g0, g1⟩ := (hLL i hlt).below hbel hbl
     obtain ⟨k0, k1⟩ := (hJJ i hltj).below hbel hblj
     have hlt' : (i : Int) < ls.length := by omega
     have hltj' : (i : Int) < l.length := by omega
     have hge' : (0 : Int) ≤ i := by omega
     have hicap : (i : Int) ≤ capl := by omega
     have hbl2 : b < wr.heap.size := Nat.lt_of_lt_of_le hbl hbel.size
     have hblj2 : bj < wr.heap.size := Nat.lt_of_lt_of_le hblj hbel.size
     have hp := HG.out.at hltj
     have Hend1 : Hid (endZ l ls (i + 1) = max (endZ l ls i) ((ls.getD i (0, 0)).1 + (l.getD i (0, 0)).1)) := rfl
     have Hout : Hid (outB l m ls i = (!(decide (0 ≤ (ls.getD i (0, 0)).1) && decide ((ls.getD i (0, 0)).1 ≤ 1099511627776)) || (decide ((ls.getD i (0, 0)).2 < 0) || decide ((ls.getD i (0, 0)).2 > m - (l.getD i (0, 0)).2)))) := rfl
     have Hgood : Hid (outB l m ls i = false → overTo l ls i i = false → firstErr (atErr l m ls) (i + 1) = 0) := fun h h2 => by rw [firstErr_step hA.out]; exact at_none h h2
     have Hov : Hid (∀ k, overlapB l ls i k = (decide ((ls.getD i (0, 0)).1 < (ls.getD k (0, 0)).1 + (l.getD k (0, 0)).1) && (decide ((ls.getD k (0, 0)).1 < (ls.getD i (0, 0)).1 + (l.getD i (0, 0)).1) && (decide ((ls.getD i (0, 0)).2 < (ls.getD k (0, 0)).2 + (l.getD k (0, 0)).2) && decide ((ls.getD k (0, 0)).2 < (ls.getD i (0, 0)).2 + (l.getD i (0, 0)).2))))) := fun k => rfl
     have Hno : Hid (outB l m ls i = true → chkErr l m ls = 1 ∧ chkLen l m ls = 0) := fun h => by
      have e := at_out h
      have := chk_stop HZ.out H1.out hA.out hltj (by rw [e]; decide)
      rwa [e] at this
     have Hno2 : Hid (outB l m ls i = false → overTo l ls i i = true → chkErr l m ls = 8 ∧ chkLen l m ls = 0) := fun h h2 => by
      have e := at_over h h2
      have := chk_stop HZ.out H1.out hA.out hltj (by rw [e]; decide)
      rwa [e] at this
     have HLL := Lib.hid hLL
     have HJJ := Lib.hid hJJ
     clear hLL hJJ
     generalize (ls.getD i (0, 0)).1 = x0 at *
     generalize (ls.getD i (0, 0)).2 = x1 at *
     generalize (l.getD i (0, 0)).1 = r at *
     generalize (l.getD i (0, 0)).2 = d at *
     have hN := blk_new wr #[.int .i64 x0, .int .i64 x1] 45
     have hal := (Below.refl wr.heap.size wr).alloc (Nat.le_refl _) (.cells #[.int .i64 x0, .int .i64 x1] 45)
     have hxa := hbel.alloc hbel.size (.cells #[.int .i64 x0, .int .i64 x1] 45)
     have hwd : IntKind.i64.wrap (m - d) = m - d := IntWalk.i64_in _ (by omega)
     have s0 := blk_cell hN 0 (.int .i64 x0) rfl
     have s1 := blk_cell hN 1 (.int .i64 x1) rfl
     have j0 := (hal.cell (p := ⟨bj, offj + i * 2, none⟩) hblj2).trans k0
     have j1 := (hal.cell (p := ⟨bj, offj + i * 2 + 1, none⟩) hblj2).trans k1
     have Hin : Hid (inL x0 0 1099511627776 = (decide (0 ≤ x0) && decide (x0 ≤ 1099511627776))) := rfl
     cases tx : inL x0 0 1099511627776 with
     | false =>
      have Hv : Hid (chkErr l m ls = 1 ∧ chkLen l m ls = 0) := Hno.out (by rw [Hout.out, ← Hin.out, tx]; rfl)
      have TX := Lib.hid tx
      clear tx
      have HW : Hid (∀ W, Calls Tryz.prog 30 #[.int .i64 x0, .int .i64 0, .int .i64 1099511627776] W (fun e w' => e = .returned (.bool false) ∧ Quiet W w')) := fun W => by rw [← TX.out]; exact withinQ_any x0 0 1099511627776 W
      go_wp2_with fail
      go_quiet ((go_at_call 30; first | exact quiet_at0 (HW.out _) | exact quiet_at (HW.out _)))
      go_wp2_with fail
      go_ret2
      exact ⟨by rw [Hv.out.1, Hv.out.2]; rfl, below_dn hxa _⟩
     | true =>
      have TX := Lib.hid tx
      have HW : Hid (∀ W, Calls Tryz.prog 30 #[.int .i64 x0, .int .i64 0, .int .i64 1099511627776] W (fun e w' => e = .returned (.bool true) ∧ Quiet W w')) := fun W => by rw [← TX.out]; exact withinQ_any x0 0 1099511627776 W
      have hx0 : 0 ≤ x0 ∧ x0 ≤ 1099511627776 := by rw [Hin.out] at tx; simpa using tx
      clear tx
      by_cases c1 : x1 < 0
      ·
       have t2 : decide (x1 < 0) = true := decide_eq_true c1
       have Hv : Hid (chkErr l m ls = 1 ∧ chkLen l m ls = 0) := Hno.out (by rw [Hout.out, ← Hin.out, TX.out, t2]; rfl)
       go_wp2_with fail
       go_quiet ((go_at_call 30; first | exact quiet_at0 (HW.out _) | exact quiet_at (HW.out _)))
       go_wp2_with fail
       go_ret2
       exact ⟨by rw [Hv.out.1, Hv.out.2]; rfl, below_dn hxa _⟩
      ·
       have t2 : decide (x1 < 0) = false := decide_eq_false c1
       by_cases c2 : x1 > m - d
       ·
        have t3 : decide (x1 > m - d) = true := decide_eq_true c2
        have Hv : Hid (chkErr l m ls = 1 ∧ chkLen l m ls = 0) := Hno.out (by rw [Hout.out, ← Hin.out, TX.out, t2, t3]; rfl)
        go_wp2_with fail
        go_quiet ((go_at_call 30; first | exact quiet_at0 (HW.out _) | exact quiet_at (HW.out _)))
        go_wp2_with fail
        go_ret2
        exact ⟨by rw [Hv.out.1, Hv.out.2]; rfl, below_dn hxa _⟩
       ·
        have t3 : decide (x1 > m - d) = false := decide_eq_false c2
        have Hv : Hid (outB l m ls i = false) := by show _ = _; rw [Hout.out, ← Hin.out, TX.out, t2, t3]; rfl
        have hx1r : 0 ≤ x1 ∧ x1 ≤ m - d := by omega
        clear Hout
        go_wp2_with fail
        go_quiet ((go_at_call 30; first | exact quiet_at0 (HW.out _) | exact quiet_at (HW.out _)))
        go_wp2_with fail
        have hNd : ((wr.alloc (.cells #[.int .i64 x0, .int .i64 x1] 45)).drewN nq).heap[wr.heap.size]? = some (.cells #[.int .i64 x0, .int .i64 x1] 45 (0, 0)) := hN
        have hxd := below_dn hxa nq
        have j0d : ((wr.alloc (.cells #[.int .i64 x0, .int .i64 x1] 45)).drewN nq).cell? ⟨bj, offj + i * 2, none⟩ = some (.int .i64 r) := j0
        have j1d : ((wr.alloc (.cells #[.int .i64 x0, .int .i64 x1] 45)).drewN nq).cell? ⟨bj, offj + i * 2 + 1, none⟩ = some (.int .i64 d) := j1
        have hsz1 : wr.heap.size < ((wr.alloc (.cells #[.int .i64 x0, .int .i64 x1] 45)).drewN nq).heap.size := by show wr.heap.size < (wr.alloc _).heap.size; simp
        clear hN hal hxa g0 g1 k0 k1 hbel hbl2 hblj2 s0 s1 j0 j1 t2 t3 c1 c2 hwd Hin
        generalize wr.heap.size = B9 at *
        generalize ((wr.alloc (.cells #[.int .i64 x0, .int .i64 x1] 45)).drewN nq) = W1 at *
        go_loopw [57] (fun kv wq => ∃ (k : Nat), k ≤ i ∧ kv = .int .i64 k ∧ Hid (overTo l ls i k = false) ∧ Below W1.heap.size W1 wq) (fun kv _ => i - (intOf kv).toNat)
        case atStart => exact ⟨0, Nat.zero_le _, rfl, rfl, Below.refl _ _⟩
        case round =>
         obtain ⟨k, hk, rfl, hHt, hxq⟩ := hrel
         have hxw := hxd.trans (hxq.mono hxd.size)
         by_cases hkl : k < i
         ·
          have hkl' : (k : Int) < i := by omega
          have hkg' : (0 : Int) ≤ k := by omega
          have hkj' : (k : Int) < l.length := by omega
          obtain ⟨e0, e1⟩ := (HLL.out k (by omega)).below hxw hbl
          obtain ⟨f0, f1⟩ := (HJJ.out k (by omega)).below hxw hblj
          have hNq := blk_keep hNd hxq hsz1
          have s0 := blk_cell hNq 0 (.int .i64 x0) rfl
          have s1 := blk_cell hNq 1 (.int .i64 x1) rfl
          have j0 := (hxq.cell (World.block_lt_of_cell? (h := j0d))).trans j0d
          have j1 := (hxq.cell (World.block_lt_of_cell? (h := j1d))).trans j1d
          have hblq : b < wr.heap.size := Nat.lt_of_lt_of_le hbl hxw.size
          have hbljq : bj < wr.heap.size := Nat.lt_of_lt_of_le hblj hxw.size
          have hB9q := blk_lt hNq
          have hpk := HG.out.at (show k < l.length by omega)
          have hqk := Hprev.out k hkl
          have Hh2 := Lib.hid (Hov.out k)
          have Hst1 : Hid (overTo l ls i (k + 1) = (overTo l ls i k || overlapB l ls i k)) := rfl
          have Hstop : Hid (overlapB l ls i k = true → chkErr l m ls = 8 ∧ chkLen l m ls = 0) := fun h => Hno2.out Hv.out (over_stop hkl h)
          generalize (ls.getD k (0, 0)).1 = y0 at *
          generalize (ls.getD k (0, 0)).2 = y1 at *
          generalize (l.getD k (0, 0)).1 = rk at *
          generalize (l.getD k (0, 0)).2 = dk at *
          generalize overlapB l ls i k = ov at *
          have hw1 : IntKind.i64.wrap (y0 + rk) = y0 + rk := IntWalk.i64_in _ (by omega)
          have hw2 : IntKind.i64.wrap (x0 + r) = x0 + r := IntWalk.i64_in _ (by omega)
          have hw3 : IntKind.i64.wrap (y1 + dk) = y1 + dk := IntWalk.i64_in _ (by omega)
          have hw4 : IntKind.i64.wrap (x1 + d) = x1 + d := IntWalk.i64_in _ (by omega)
          have hal2 := (Below.refl wr.heap.size wr).alloc (Nat.le_refl _) (.cells #[.int .i64 y0, .int .i64 y1] 45)
          have hxe := hxq.alloc hxq.size (.cells #[.int .i64 y0, .int .i64 y1] 45)
          have hM := blk_new wr #[.int .i64 y0, .int .i64 y1] 45
          have m0 := blk_cell hM 0 (.int .i64 y0) rfl
          have m1 := blk_cell hM 1 (.int .i64 y1) rfl
          have up : ∀ (q o : Nat) (v : Value), q < wr.heap.size → wr.cell? ⟨q, o, none⟩ = some v → (wr.alloc (.cells #[.int .i64 y0, .int .i64 y1] 45)).cell? ⟨q, o, none⟩ = some v := fun q o v hq h => (hal2.cell (p := ⟨q, o, none⟩) hq).trans h
          have a0 := up _ _ _ hB9q s0
          have a1 := up _ _ _ hB9q s1
          have a2 := up _ _ _ hbljq j0
          have a3 := up _ _ _ hbljq j1
          have a4 := up _ _ _ hbljq f0
          have a5 := up _ _ _ hbljq f1
          clear up s0 s1 j0 j1 f0 f1 hal2 hM
          by_cases c1 : x0 < y0 + rk
          ·
           have t1 : decide (x0 < y0 + rk) = true := decide_eq_true c1
           by_cases c2 : y0 < x0 + r
           ·
            have t2 : decide (y0 < x0 + r) = true := decide_eq_true c2
            by_cases c3 : x1 < y1 + dk
            ·
             have t3 : decide (x1 < y1 + dk) = true := decide_eq_true c3
             by_cases c4 : y1 < x1 + d
             ·
              have t4 : decide (y1 < x1 + d) = true := decide_eq_true c4
              have Hw : Hid (chkErr l m ls = 8 ∧ chkLen l m ls = 0) := Hstop.out (by rw [Hh2.out, t1, t2, t3, t4]; rfl)
              go_wp2_with fail
              go_quiet (fail)
              go_wp2_with fail
              go_ret2
              exact ⟨by rw [Hw.out.1, Hw.out.2]; rfl, hxd.trans ((below_dn hxe _).mono hxd.size)⟩
             ·
              have t4 : decide (y1 < x1 + d) = false := decide_eq_false c4
              have Hn : Hid (overTo l ls i (k + 1) = false) := by show _ = _; rw [Hst1.out, Hh2.out, hHt.out, t1, t2, t3, t4]; rfl
              go_wp2_with fail
              go_quiet (fail)
              go_wp2_with fail
              exact ⟨⟨k + 1, by omega, by go_num, Hn, below_dn hxe _⟩, meas_up hkl⟩
            ·
             have t3 : decide (x1 < y1 + dk) = false := decide_eq_false c3
             have Hn : Hid (overTo l ls i (k + 1) = false) := by show _ = _; rw [Hst1.out, Hh2.out, hHt.out, t1, t2, t3]; rfl
             go_wp2_with fail
             go_quiet (fail)
             go_wp2_with fail
             exact ⟨⟨k + 1, by omega, by go_num, Hn, below_dn hxe _⟩, meas_up hkl⟩
           ·
            have t2 : decide (y0 < x0 + r) = false := decide_eq_false c2
            have Hn : Hid (overTo l ls i (k + 1) = false) := by show _ = _; rw [Hst1.out, Hh2.out, hHt.out, t1, t2]; rfl
            go_wp2_with fail
            go_quiet (fail)
            go_wp2_with fail
            exact ⟨⟨k + 1, by omega, by go_num, Hn, below_dn hxe _⟩, meas_up hkl⟩
          ·
           have t1 : decide (x0 < y0 + rk) = false := decide_eq_false c1
           have Hn : Hid (overTo l ls i (k + 1) = false) := by show _ = _; rw [Hst1.out, Hh2.out, hHt.out, t1]; rfl
           go_wp2_with fail
           go_quiet (fail)
           go_wp2_with fail
           exact ⟨⟨k + 1, by omega, by go_num, Hn, below_dn hxe _⟩, meas_up hkl⟩
         ·
          obtain rfl : k = i := by omega
          have hNq := blk_keep hNd hxq hsz1
          have s0 := blk_cell hNq 0 (.int .i64 x0) rfl
          have j0 := (hxq.cell (World.block_lt_of_cell? (h := j0d))).trans j0d
          have hbljq : bj < wr.heap.size := Nat.lt_of_lt_of_le hblj hxw.size
          have hB9q := blk_lt hNq
          have hw2 : IntKind.i64.wrap (x0 + r) = x0 + r := IntWalk.i64_in _ (by omega)
          have Hv1 : Hid (firstErr (atErr l m ls) (k + 1) = 0) := Hgood.out Hv.out hHt.out
          go_wp2_with fail
          go_quiet (fail)
          go_wp2_with fail
          exact ⟨⟨k + 1, by omega, by go_num, by rw [Hend1.out], Hv1, below_dn hxw _⟩, meas_up hlt⟩
    ·
     obtain rfl : i = ls.length := by omega
     have HE := Lib.hid (chk_end HZ.out H1.out (by rw [← H1.out]; exact hA.out))
     have HN : Hid (endZ l ls l.length = endZ l ls ls.length) := by show _ = _; rw [H1.out]
     clear hA
     go_wp2_with fail
     go_ret2
     exact ⟨by rw [HE.out.1, HE.out.2, HN.out]; rfl, hbel⟩
  ·
   have HR := Lib.hid (chk_size (m := m) HZ.out hll)
   have t1 : ((ls.length : Int) != (l.length : Int)) = true := bne_iff_ne.2 (by omega)
   clear hll
   go_enter Tryz.func11, Tryz.ntmps11
   go_wp2_with fail
   refine (checkPieces_any _ _ HV.out).mono ?_
   rw [HZ.out]
   rintro e w1 ⟨rfl, hb1⟩
   go_wp2_with fail
   go_ret2
   exact ⟨by rw [HR.out.1, HR.out.2]; rfl, hb1⟩
 ·
  have te : (pcsErr l m != 0) = true := bne_iff_ne.2 hz
  have HR := Lib.hid (chk_pcs (ls := ls) hz)
  have HP := checkPieces_any (m := m) _ w HV.out
  generalize pcsErr l m = er at *
  clear hz
  go_enter Tryz.func11, Tryz.ntmps11
  go_wp2_with fail
  refine HP.mono ?_
  rintro e w1 ⟨rfl, hb1⟩
  go_wp2_with fail
  go_ret2
  exact ⟨by rw [HR.out.1, HR.out.2]; rfl, hb1⟩

end Go.Proofs.YtofijjomfhmbjaaGreat
