/- Part c of the lemmas and walks. -/
import Derived.Test.YtanmcbbnnjamoaaAb

namespace Go.Proofs.Ytanmcbbnnjamoaa
open Go.RowKit

theorem natAbs_short32 (n : Int) (h1 : -9223372036854775808 ≤ n) (h2 : n ≤ 9223372036854775807) : (dig b32 n.natAbs).length ≤ 2 := dig_length_le b32_two 2 _ (by unfold b32; omega)
theorem dig32_one : (dig b32 1).length ≤ 1 := dig_length_le b32_two 1 _ (by unfold b32; omega)
theorem mkQ_int (n : Int) : mkQ (decide (n < 0)) n.natAbs 1 = (n : Rat) := by
 have h := rat_eq (n : Rat)
 simp only [Rat.num_intCast, Rat.den_intCast] at h
 exact h.symm

set_option maxHeartbeats 1000000 in
theorem qint_any (n : Int) (w : World) (h1 : -9223372036854775808 ≤ n) (h2 : n ≤ 9223372036854775807) : Calls Try.prog 53 #[.int .i64 n] w (RetR (n : Rat) w) := by
 have hal : Below w.heap.size w (w.alloc (.cells #[.bool false, .slice none 0 0, .slice none 0 0] 104)) := (Below.refl _ _).alloc (Nat.le_refl _) _
 have hB0 := blk_new w #[.bool false, .slice none 0 0, .slice none 0 0] 104
 have Hq := Lib.hid (mkQ_int n)
 go_enter Try.func53, Try.ntmps53
 go_wp2_with fail
 refine (magnitude_any n _ h1 h2).mono ?_
 rintro e w1 ⟨v1, rfl, hv1, hb1⟩
 have hx1 := ext_trans hal hb1
 have hB1 := blk_keep hB0 hb1 (by simp)
 go_wp2_with fail
 refine (nat_any 1 _ (by unfold b64; omega)).mono ?_
 rintro e w2 ⟨v2, rfl, hv2, hb2⟩
 have hx2 := ext_trans hx1 hb2
 have hB2 := blk_keep hB1 hb2 (blk_lt hB1)
 go_wp2_with fail
 refine (made_any _ n.natAbs 1 _ _ _ (hv1.below hb2) hv2 (by omega) (by have := natAbs_short32 n h1 h2; omega) (by have := dig32_one; omega)).mono ?_
 rintro e w3 ⟨v, rfl, hv, hb⟩
 rw [Hq.out] at hv
 have hx3 := ext_trans hx2 hb
 have hB3 := blk_keep hB2 hb (blk_lt hB2)
 obtain ⟨d', a1, c1, a2, c2, rfl, hn', hd', hden⟩ := hv.opened
 generalize (n : Rat) = q at *
 clear hv1 hv2 hv hb hb1 hb2 hx1 hx2 hal hB0 hB1 hB2
 have hBl := blk_lt hB3
 have c0 := blk_cell hB3 0 (.bool false) rfl
 have c1 := blk_cell hB3 1 (.slice none 0 0) rfl
 have c2 := blk_cell hB3 2 (.slice none 0 0) rfl
 have f0 := blk_frozen hB3 0
 have f1 := blk_frozen hB3 1
 have f2 := blk_frozen hB3 2
 have HB := Lib.hid hB3
 clear hB3
 go_wp2_with fail
 refine bodyPost_ret (v := .agg #[.bool (decide (q.num < 0)), .slice a1 (dig b32 q.num.natAbs).length _, .slice a2 (dig b32 d').length _]) (by simp [results, Try.results53, go_sem, c0, c1, c2]; first | done | exact ⟨rfl, rfl⟩ | rfl) rfl ⟨_, rfl, ?_, below_store3 hx3 (Nat.le_refl _)⟩
 exact ⟨_, _, d', rfl, store3 HB.out hn', store3 HB.out hd', hden⟩

set_option maxHeartbeats 1000000 in
theorem qnew_any (n d : Int) (w : World) (h1 : -9223372036854775808 ≤ n) (h2 : n ≤ 9223372036854775807) (h3 : -9223372036854775808 ≤ d) (h4 : d ≤ 9223372036854775807) (hd : d ≠ 0) :
  Calls Try.prog 54 #[.int .i64 n, .int .i64 d] w (RetRE ((n : Rat) / (d : Rat)) 0 w) := by
 have hq : mkQ (!(decide (n < 0) == decide (d < 0))) n.natAbs d.natAbs = (n : Rat) / (d : Rat) := new_plain n d hd
 generalize (n : Rat) / (d : Rat) = q at *
 have t : ((d : Int) == 0) = false := beq_eq_false_iff_ne.2 hd
 have hal : Below w.heap.size w (w.alloc (.cells #[.bool false, .slice none 0 0, .slice none 0 0] 104)) := (Below.refl _ _).alloc (Nat.le_refl _) _
 have hB0 := blk_new w #[.bool false, .slice none 0 0, .slice none 0 0] 104
 have Hq := Lib.hid hq
 have hdp : 0 < d.natAbs := by omega
 clear hq
 go_enter Try.func54, Try.ntmps54
 go_wp2_with fail
 refine (magnitude_any n _ h1 h2).mono ?_
 rintro e w1 ⟨v1, rfl, hv1, hb1⟩
 have hx1 := ext_trans hal hb1
 have hB1 := blk_keep hB0 hb1 (by simp)
 go_wp2_with fail
 refine (magnitude_any d _ h3 h4).mono ?_
 rintro e w2 ⟨v2, rfl, hv2, hb2⟩
 have hx2 := ext_trans hx1 hb2
 have hB2 := blk_keep hB1 hb2 (blk_lt hB1)
 go_wp2_with fail
 refine (made_any _ n.natAbs d.natAbs _ _ _ (hv1.below hb2) hv2 hdp (by have := natAbs_short32 n h1 h2; omega) (by have := natAbs_short32 d h3 h4; omega)).mono ?_
 rintro e w3 ⟨v, rfl, hv, hb⟩
 rw [Hq.out] at hv
 have hx3 := ext_trans hx2 hb
 have hB3 := blk_keep hB2 hb (blk_lt hB2)
 obtain ⟨d', a1, c1, a2, c2, rfl, hn', hd', hden⟩ := hv.opened
 clear hv1 hv2 hv hb hb1 hb2 hx1 hx2 hal hB0 hB1 hB2
 have hBl := blk_lt hB3
 have c0 := blk_cell hB3 0 (.bool false) rfl
 have c1 := blk_cell hB3 1 (.slice none 0 0) rfl
 have c2 := blk_cell hB3 2 (.slice none 0 0) rfl
 have f0 := blk_frozen hB3 0
 have f1 := blk_frozen hB3 1
 have f2 := blk_frozen hB3 2
 have HB := Lib.hid hB3
 clear hB3
 go_wp2_with fail
 refine bodyPost_ret (v := .tuple #[.agg #[.bool (decide (q.num < 0)), .slice a1 (dig b32 q.num.natAbs).length _, .slice a2 (dig b32 d').length _], .int .i64 0]) (by simp [results, Try.results54, go_sem, c0, c1, c2]; first | done | exact ⟨⟨rfl, rfl⟩, rfl⟩ | exact ⟨rfl, rfl⟩ | rfl) rfl ⟨_, rfl, ?_, below_store3 hx3 (Nat.le_refl _)⟩
 exact ⟨_, _, d', rfl, store3 HB.out hn', store3 HB.out hd', hden⟩

end Go.Proofs.Ytanmcbbnnjamoaa

namespace Go.Proofs.Ytanmcbbnnjamoaa
open Go.RowKit

def cellOf (w : World) (a : Addr) : Value := (w.cell? a).getD undef
def RB (w : World) (B : Nat) : Prop := ∃ b x i j y k l T, w.heap[B]? = some (.cells #[.bool b, .slice x i j, .slice y k l] T (0, 0))
theorem RB.lt {w : World} {B : Nat} (h : RB w B) : B < w.heap.size := by
 obtain ⟨b, x, i, j, y, k, l, T, h⟩ := h; exact blk_lt h
theorem RB.keep {a b : World} {B n : Nat} (h : RB a B) (hb : Below n a b) (hB : B < n) : RB b B := by
 obtain ⟨b, x, i, j, y, k, l, T, h⟩ := h
 exact ⟨b, x, i, j, y, k, l, T, blk_keep h hb hB⟩
theorem RB.store {w : World} {B : Nat} (h : RB w B) (neg : Bool) (x1 y1 : Option Addr) (i1 j1 k1 l1 : Nat) :
  RB (((w.setCell ⟨B, 0, none⟩ (.bool neg)).setCell ⟨B, 1, none⟩ (.slice x1 i1 j1)).setCell ⟨B, 2, none⟩ (.slice y1 k1 l1)) B := by
 obtain ⟨b, x, i, j, y, k, l, T, h⟩ := h
 exact ⟨neg, x1, i1, j1, y1, k1, l1, T, by exact blk_set (blk_set (blk_set h 0 (.bool neg)) 1 (.slice x1 i1 j1)) 2 (.slice y1 k1 l1)⟩
theorem RB.cell {w : World} {B : Nat} (h : RB w B) : w.cell? ⟨B, 0, none⟩ = some (cellOf w ⟨B, 0, none⟩) ∧ w.cell? ⟨B, 1, none⟩ = some (cellOf w ⟨B, 1, none⟩) ∧ w.cell? ⟨B, 2, none⟩ = some (cellOf w ⟨B, 2, none⟩) ∧
  w.frozen? ⟨B, 0, none⟩ = false ∧ w.frozen? ⟨B, 1, none⟩ = false ∧ w.frozen? ⟨B, 2, none⟩ = false := by
 obtain ⟨b, x, i, j, y, k, l, T, h⟩ := h
 have e : ∀ a v, w.cell? a = some v → w.cell? a = some (cellOf w a) := fun a v h => by unfold cellOf; rw [h]; rfl
 exact ⟨e _ _ (blk_cell h 0 (.bool b) rfl), e _ _ (blk_cell h 1 (.slice x i j) rfl), e _ _ (blk_cell h 2 (.slice y k l) rfl), blk_frozen h 0, blk_frozen h 1, blk_frozen h 2⟩

theorem IsR.stored {w : World} {B : Nat} {neg : Bool} {x1 y1 : Option Addr} {i1 j1 k1 l1 n d' : Nat} {q : Rat}
  (hB : RB w B) (h1 : IsNat .u32 b32 w (.slice x1 i1 j1) n) (h2 : IsNat .u32 b32 w (.slice y1 k1 l1) d') (hd : IsDen d' q.den)
  (hn : decide (q.num < 0) = neg) (hm : q.num.natAbs = n) :
  IsR (((w.setCell ⟨B, 0, none⟩ (.bool neg)).setCell ⟨B, 1, none⟩ (.slice x1 i1 j1)).setCell ⟨B, 2, none⟩ (.slice y1 k1 l1)) (.agg #[.bool neg, .slice x1 i1 j1, .slice y1 k1 l1]) q := by
 subst hn hm
 obtain ⟨b, x, i, j, y, k, l, T, hB⟩ := hB
 exact ⟨_, _, d', rfl, store3 hB h1, store3 hB h2, hd⟩

end Go.Proofs.Ytanmcbbnnjamoaa

namespace Go.Proofs.Ytanmcbbnnjamoaa
open Go.RowKit

def sgnW : Nat := 9223372036854775808
def infR : Nat := 9218868437227405312
def bin52 : Nat := 4503599627370496

theorem f64_sign : Ieee.double.signWeight = sgnW := by decide +kernel
theorem f64_inf : Ieee.double.infRung = infR := by decide +kernel
theorem f64_bin : Ieee.double.binade = bin52 := by decide +kernel
theorem f64_least : Ieee.double.leastPlace = -1074 := by decide +kernel

theorem order_self (b : Nat) : (FloatKind.f64.format.order b b != some .eq) = decide (infR < b % sgnW) := by
 show (Ieee.double.order b b != some .eq) = _
 unfold Ieee.Format.order Ieee.Format.read
 rw [f64_sign, f64_inf, f64_bin]
 generalize b % sgnW = r
 generalize (b / sgnW % 2 == 1) = s
 have hb : bin52 < infR := by unfold bin52 infR; omega
 simp only []
 by_cases h1 : r < bin52
 ·
  have h2 : ¬ infR < r := by omega
  simp [h1, h2, Ieee.Datum.order]
 ·
  by_cases h2 : r < infR
  ·
   have h3 : ¬ infR < r := by omega
   simp [h1, h2, h3, Ieee.Datum.order]
  ·
   by_cases h3 : r = infR
   ·
    subst h3
    simp [h1, Ieee.Datum.order]
   ·
    have h4 : infR < r := by omega
    simp [h1, h2, h3, h4, Ieee.Datum.order]

def maxF : Nat := 9218868437227405311

theorem order_max (r : Nat) (hr : r < sgnW) (hn : ¬ infR < r) : (FloatKind.f64.format.order r maxF == some .gt) = decide (r = infR) := by
 show (Ieee.double.order r maxF == some .gt) = _
 have hm : Ieee.double.read maxF = .number false 9007199254740991 971 := by decide +kernel
 unfold Ieee.Format.order
 rw [hm]
 unfold Ieee.Format.read
 rw [f64_sign, f64_inf, f64_bin, f64_least]
 have e1 : r % sgnW = r := Nat.mod_eq_of_lt hr
 have e2 : r / sgnW = 0 := Nat.div_eq_of_lt hr
 rw [e1, e2]
 have hb : bin52 < infR := by unfold bin52 infR; omega
 simp only []
 have key : ∀ (m : Nat) (i : Int), m ≤ 9007199254740991 → i ≤ 971 → (Ieee.Datum.order (.number false m i) (.number false 9007199254740991 971) == some .gt) = false := by
  intro m i h1 h2
  have h3 : min i 971 = i := by omega
  simp only [Ieee.Datum.order, h3, Ieee.signed]
  have h4 : (i - i).toNat = 0 := by omega
  rw [h4]
  have h5 : (m <<< 0 : Nat) ≤ 9007199254740991 <<< ((971 : Int) - i).toNat := by
   rw [Nat.shiftLeft_eq, Nat.shiftLeft_eq]
   have : 1 ≤ 2 ^ ((971 : Int) - i).toNat := Nat.one_le_two_pow
   calc m * 2 ^ 0 ≤ 9007199254740991 * 1 := by omega
    _ ≤ _ := Nat.mul_le_mul_left _ this
  generalize (m <<< 0 : Nat) = A at *
  generalize (9007199254740991 <<< ((971 : Int) - i).toNat : Nat) = B at *
  have h6 : compare (A : Int) (B : Int) ≠ .gt := by
   intro h
   have := (Int.compare_eq_gt).1 h
   omega
  simpa using h6
 by_cases h1 : r < bin52
 ·
  have h2 : ¬ r = infR := by omega
  simp only [h1, if_true, h2, decide_false]
  exact key r _ (by unfold bin52 at h1; omega) (by omega)
 ·
  by_cases h2 : r < infR
  ·
   have h3 : ¬ r = infR := by omega
   simp only [h1, if_false, h2, if_true, h3, decide_false]
   refine key _ _ ?_ ?_
   ·
    have := Nat.mod_lt r (show 0 < bin52 by unfold bin52; omega)
    unfold bin52 at *; omega
   ·
    unfold bin52 infR at *
    omega
  ·
   have h3 : r = infR := by omega
   simp only [h1, if_false, h2, h3, if_true, decide_true]
   have h4 : ¬ infR < bin52 := by omega
   simp [h4, Ieee.Datum.order]

end Go.Proofs.Ytanmcbbnnjamoaa

namespace Go.Proofs.Ytanmcbbnnjamoaa
open Go.RowKit

set_option maxHeartbeats 1000000 in
theorem isNaN_any (b : Nat) (w : World) : Calls Try.prog 23 #[.float .f64 b] w (fun e w' => e = .returned (.bool (decide (infR < b % sgnW))) ∧ w = w') := by
 have h := order_self b
 generalize decide (infR < b % sgnW) = t at *
 go_enter Try.func23, Try.ntmps23
 go_wp2_with fail
 go_ret
 exact ⟨rfl, rfl⟩

theorem run_Float64bits (b : Nat) (w : World) : (callFunc 25 #[.float .f64 b]).run Try.prog w = .ok (.value (.int .u64 (b : Nat))) w := by
 rw [run_callFunc_extern Try.func25 (by kernel_rfl) (by kernel_rfl) (by kernel_rfl) (e := Extern.MathFloatBits.float64bits) (by kernel_rfl)]
 rfl
theorem run_Float64frombits (b : Nat) (w : World) : (callFunc 57 #[.int .u64 (b : Nat)]).run Try.prog w = .ok (.value (.float .f64 b)) w := by
 rw [run_callFunc_extern Try.func57 (by kernel_rfl) (by kernel_rfl) (by kernel_rfl) (e := Extern.MathFloatBits.float64frombits) (by kernel_rfl)]
 rfl

theorem bits_andNot_sign (b : Nat) (hb : b < b64) : bits .andNot .u64 (b : Int) 9223372036854775808 = ((b % sgnW : Nat) : Int) := by
 unfold b64 at hb
 have h := u64_andNot_nat b 9223372036854775808 (by omega) (by omega)
 have e : b &&& (18446744073709551615 - 9223372036854775808) = b % sgnW := by
  unfold sgnW
  exact Nat.and_two_pow_sub_one_eq_mod b 63
 rw [e] at h
 exact h

set_option maxHeartbeats 1000000 in
theorem abs_any (b : Nat) (w : World) (hb : b < b64) : Calls Try.prog 43 #[.float .f64 b] w (fun e w' => e = .returned (.float .f64 (b % sgnW)) ∧ w = w') := by
 have h1 := run_Float64bits
 have h2 := run_Float64frombits
 have h3 := bits_andNot_sign b hb
 generalize b % sgnW = r at *
 clear hb
 go_enter Try.func43, Try.ntmps43
 go_wp2_with fail
 go_ret
 exact ⟨rfl, rfl⟩

set_option maxHeartbeats 1000000 in
theorem isInf_any (b : Nat) (w : World) (hb : b < b64) (hn : ¬ infR < b % sgnW) : Calls Try.prog 24 #[.float .f64 b, .int .i64 0] w (fun e w' => e = .returned (.bool (decide (b % sgnW = infR))) ∧ w = w') := by
 have h := order_max (b % sgnW) (Nat.mod_lt _ (by unfold sgnW; omega)) hn
 unfold maxF at h
 generalize hd : decide (b % sgnW = infR) = d at *
 have Ha := Lib.hid (fun w => abs_any b w hb)
 clear hd hb hn
 generalize b % sgnW = r at *
 go_enter Try.func24, Try.ntmps24
 go_wp2_with fail
 refine (Ha.out _).mono ?_
 rintro e w' ⟨rfl, rfl⟩
 go_wp2_with fail
 go_ret
 exact ⟨rfl, rfl⟩

def fE (b : Nat) : Nat := b / bin52 % 2048
def fM0 (b : Nat) : Nat := b % bin52
def fM (b : Nat) : Nat := if fE b = 0 then fM0 b else fM0 b + bin52
def fE1 (b : Nat) : Nat := if fE b = 0 then 1 else fE b
def fS (b : Nat) : Bool := decide (b / sgnW = 1)
def fval (b : Nat) : Rat := mkQ (fS b) (fM b * 2 ^ (fE1 b - 1075)) (2 ^ (1075 - fE1 b))

theorem fE_2047 (b : Nat) (hb : b < b64) : fE b = 2047 ↔ infR ≤ b % sgnW := by
 unfold fE infR sgnW bin52
 unfold b64 at hb
 omega

theorem bits_m0 (b : Nat) (hb : b < b64) : bits .and .u64 (b : Int) 4503599627370495 = ((fM0 b : Nat) : Int) := by
 have h := bits_and_nat b 4503599627370495 hb (by unfold b64; omega)
 have e : b &&& 4503599627370495 = fM0 b := Nat.and_two_pow_sub_one_eq_mod b 52
 rw [e] at h
 exact h
theorem bits_e (b : Nat) (hb : b < b64) : bits .and .u64 ((b : Int) / 4503599627370496) 2047 = ((fE b : Nat) : Int) := by
 have h := bits_and_nat (b / 4503599627370496) 2047 (Nat.lt_of_le_of_lt (Nat.div_le_self _ _) hb) (by unfold b64; omega)
 have e : b / 4503599627370496 &&& 2047 = fE b := Nat.and_two_pow_sub_one_eq_mod _ 11
 rw [e] at h
 have e2 : ((b : Int) / 4503599627370496) = ((b / 4503599627370496 : Nat) : Int) := by simp
 rw [e2]
 exact h
theorem bits_m (b : Nat) : bits .or .u64 ((fM0 b : Nat) : Int) 4503599627370496 = ((fM0 b + bin52 : Nat) : Int) := by
 have hlt : fM0 b < bin52 := Nat.mod_lt _ (by unfold bin52; omega)
 have hlt' := hlt
 unfold bin52 at hlt'
 have h := bits_or_nat (fM0 b) 4503599627370496 (by unfold b64; omega) (by unfold b64; omega)
 have e : fM0 b ||| 4503599627370496 = fM0 b + bin52 := by
  have := or_disjoint 1 (fM0 b) 52 (by unfold bin52 at hlt; exact hlt)
  rw [show (1 * 2 ^ 52 : Nat) = 4503599627370496 from by simp] at this
  rw [Nat.or_comm, this]
  unfold bin52
  omega
 rw [e] at h
 exact h


theorem bits_s (b : Nat) : (((b : Int) / 9223372036854775808) == 1) = fS b := by
 unfold fS sgnW
 rw [Bool.eq_iff_iff]
 simp
 omega

theorem fM_lt (b : Nat) : fM b < 2 * bin52 := by
 have hlt : fM0 b < bin52 := Nat.mod_lt _ (by unfold bin52; omega)
 unfold fM; split <;> omega
theorem bin52_b64 : 2 * bin52 < b64 := by unfold bin52 b64; omega

theorem dig_pow_le (m k j : Nat) (hm : m < b64) (hk : k ≤ 64 * j) : (dig b64 (m * 2 ^ k)).length ≤ j + 1 := by
 refine dig_length_le b64_two _ _ ?_
 have h1 : 2 ^ k ≤ b64 ^ j := by rw [b64_pow, ← Nat.pow_mul]; exact Nat.pow_le_pow_right (by omega) hk
 rw [Nat.pow_succ, Nat.mul_comm (b64 ^ j)]
 exact Nat.mul_lt_mul_of_lt_of_le hm h1 (Nat.pow_pos b64_pos)

set_option maxHeartbeats 1000000 in
theorem float_err (b : Nat) (w : World) (hb : b < b64) (he : fE b = 2047) : Calls Try.prog 9 #[.float .f64 b] w (RetRatE 0 1 w) := by
 have hi := (fE_2047 b hb).1 he
 have hal : Below w.heap.size w (w.alloc (.cells #[.bool false, .slice none 0 0, .slice none 0 0] 40)) := (Below.refl _ _).alloc (Nat.le_refl _) _
 by_cases hn : infR < b % sgnW
 ·
  have t : decide (infR < b % sgnW) = true := by simp [hn]
  clear he hi hn hb
  go_enter Try.func9, Try.ntmps9
  go_wp2_with fail
  refine (isNaN_any b _).mono ?_
  rw [t]
  rintro e w' ⟨rfl, rfl⟩
  go_wp2_with fail
  refine bodyPost_ret (v := .tuple #[.agg #[.bool false, .slice none 0 0, .slice none 0 0], .int .i64 1]) (by simp [results, Try.results9, go_sem]) rfl ⟨_, rfl, IsRat.zero _, hal⟩
 ·
  have t : decide (infR < b % sgnW) = false := by simp [hn]
  have t2 : decide (b % sgnW = infR) = true := by simp; omega
  have Hi := Lib.hid (fun w => isInf_any b w hb hn)
  clear he hi hn hb
  go_enter Try.func9, Try.ntmps9
  go_wp2_with fail
  refine (isNaN_any b _).mono ?_
  rw [t]
  rintro e w' ⟨rfl, rfl⟩
  go_wp2_with fail
  refine (Hi.out _).mono ?_
  rw [t2]
  rintro e w' ⟨rfl, rfl⟩
  go_wp2_with fail
  refine bodyPost_ret (v := .tuple #[.agg #[.bool false, .slice none 0 0, .slice none 0 0], .int .i64 1]) (by simp [results, Try.results9, go_sem]) rfl ⟨_, rfl, IsRat.zero _, hal⟩

set_option maxHeartbeats 2000000 in
theorem float_ok (b : Nat) (w : World) (hb : b < b64) (he : fE b ≠ 2047) : Calls Try.prog 9 #[.float .f64 b] w (RetRatE (fval b) 0 w) := by
 have hi : ¬ infR ≤ b % sgnW := fun h => he ((fE_2047 b hb).2 h)
 have t : decide (infR < b % sgnW) = false := by simp; omega
 have t2 : decide (b % sgnW = infR) = false := by simp; omega
 have Hi := Lib.hid (fun w => isInf_any b w hb (by omega))
 have h1 := run_Float64bits
 have e1 := bits_m0 b hb
 have e2 := bits_e b hb
 have e3 := bits_m b
 have e4 := bits_s b
 have hE : (fE b : Int) ≤ 2047 := by have := Nat.mod_lt (b / bin52) (show 0 < 2048 by omega); show ((b / bin52 % 2048 : Nat) : Int) ≤ 2047; omega
 have hal : Below w.heap.size w (w.alloc (.cells #[.bool false, .slice none 0 0, .slice none 0 0] 40)) := (Below.refl _ _).alloc (Nat.le_refl _) _
 have hB0 := blk_new w #[.bool false, .slice none 0 0, .slice none 0 0] 40
 have hM := Nat.lt_trans (fM_lt b) bin52_b64
 obtain ⟨M, hMe⟩ : ∃ M, M = fM b := ⟨_, rfl⟩
 obtain ⟨E, hEe⟩ : ∃ E, E = fE1 b := ⟨_, rfl⟩
 have Hv : Hid (fval b = mkQ (fS b) (M * 2 ^ (E - 1075)) (2 ^ (1075 - E))) := by show fval b = _; rw [hMe, hEe]; rfl
 rw [← hMe] at hM
 have hE1 : E ≤ 2047 := by rw [hEe]; unfold fE1; split <;> omega
 have HM := Lib.hid hM
 by_cases h0 : fE b = 0
 ·
  have c1 : ((fE b : Int) == 0) = true := by simp [h0]
  have hM0 : M = fM0 b := by rw [hMe]; simp [fM, h0]
  have hE0 : E = 1 := by rw [hEe]; simp [fE1, h0]
  rw [← hM0] at e1
  subst hE0
  clear hMe hEe hM0 h0 hi hM e3
  obtain ⟨k, hk⟩ : ∃ k, k = 1075 - 1 := ⟨_, rfl⟩
  have e5 : (1074 : Int) = (k : Int) := by omega
  have hk2 : k ≤ 1075 := by omega
  have Hq : Hid (mkQ (fS b) M (2 ^ k) = fval b) := by
   show mkQ (fS b) M (2 ^ k) = fval b
   rw [Hv.out, ← hk, show 1 - 1075 = 0 from rfl, Nat.pow_zero, Nat.mul_one]
  clear hk
  clear Hv hE1 he
  generalize fE b = eb at *
  go_enter Try.func9, Try.ntmps9
  go_wp2_with fail
  refine (isNaN_any b _).mono ?_
  rw [t]
  rintro e w' ⟨rfl, rfl⟩
  go_wp2_with fail
  refine (Hi.out _).mono ?_
  rw [t2]
  rintro e w' ⟨rfl, rfl⟩
  clear t t2 Hi
  go_wp2_with fail
  refine (word_any M _ HM.out).mono ?_
  rintro e w1 ⟨v1, rfl, hv1, hb1⟩
  have hx1 := ext_trans hal hb1
  have hB1 := blk_keep hB0 hb1 (by simp)
  clear hal hB0
  go_wp2_with fail
  refine (show Calls _ _ #[.int .u64 1] _ _ from word_any 1 _ (by unfold b64; omega)).mono ?_
  rintro e w2 ⟨v2, rfl, hv2, hb2⟩
  have hx2 := ext_trans hx1 hb2
  have hB2 := blk_keep hB1 hb2 (blk_lt hB1)
  have hv12 := hv1.below hb2
  clear hx1 hB1 hb1 hv1
  go_wp2_with fail
  refine (show Calls _ _ #[v2, .int .i64 (k : Nat)] _ _ from left_any 1 k _ _ hv2 (by have := dig_length_le b64_two 1 1 (by unfold b64; omega); omega) (by omega)).mono ?_
  rintro e w3 ⟨v3, rfl, hv3, hb3⟩
  have hx3 := ext_trans hx2 hb3
  have hB3 := blk_keep hB2 hb3 (blk_lt hB2)
  have hv13 := hv12.below hb3
  clear hx2 hB2 hb2 hv12 hv2
  rw [Nat.one_mul] at hv3
  go_wp2_with fail
  refine (reduced_any (fS b) M (2 ^ k) _ _ _ hv13 hv3 (Nat.two_pow_pos _) (by have := dig_length_le b64_two 1 M (by simpa using HM.out); omega) (by have := dig_pow_le 1 k 17 (by unfold b64; omega) (by omega); rw [Nat.one_mul] at this; omega)).mono ?_
  rintro e w4 ⟨v, rfl, hv, hb4⟩
  rw [Hq.out] at hv
  have hx4 := ext_trans hx3 hb4
  have hB4 := blk_keep hB3 hb4 (blk_lt hB3)
  obtain ⟨a1, n1, a2, n2, rfl, hn', hd'⟩ := hv.opened
  have HB4 := Lib.hid hB4
  have hBl := blk_lt hB4
  have c0 := blk_cell hB4 0 (.bool false) rfl
  have c1 := blk_cell hB4 1 (.slice none 0 0) rfl
  have c2 := blk_cell hB4 2 (.slice none 0 0) rfl
  have f0 := blk_frozen hB4 0
  have f1 := blk_frozen hB4 1
  have f2 := blk_frozen hB4 2
  clear hv hb3 hb4 hx3 hB3 hB4 hv13 hv3
  generalize fval b = q at *
  go_wp2_with fail
  refine bodyPost_ret (v := .tuple #[.agg #[.bool (decide (q.num < 0)), .slice a1 (dig b64 q.num.natAbs).length _, .slice a2 (dig b64 (dn q.den)).length _], .int .i64 0]) (by simp [results, Try.results9, go_sem, c0, c1, c2]; first | done | exact ⟨⟨rfl, rfl⟩, rfl⟩ | exact ⟨rfl, rfl⟩ | rfl) rfl ⟨_, rfl, ?_, below_store3 hx4 (Nat.le_refl _)⟩
  exact ⟨_, _, rfl, store3 HB4.out hn', store3 HB4.out hd'⟩
 ·
  have c1 : ((fE b : Int) == 0) = false := by simp; omega
  have hM0 : M = fM0 b + bin52 := by rw [hMe]; simp [fM, h0]
  have hE0 : E = fE b := by rw [hEe]; simp [fE1, h0]
  rw [← hM0] at e3
  rw [← hE0] at e2 c1 hE
  have c2 : ¬ (E = 0) := by omega
  clear hMe hEe hM0 hE0 h0 hi hM
  by_cases h5 : 1075 ≤ E
  ·
   have Hq : Hid (mkQ (fS b) (M * 2 ^ (E - 1075)) 1 = fval b) := by show _ = _; rw [Hv.out, Nat.sub_eq_zero_of_le h5, Nat.pow_zero]
   have e5 : (E : Int) - 1075 = ((E - 1075 : Nat) : Int) := by omega
   have c3 : (1075 : Int) ≤ E := by omega
   clear Hv he
   go_enter Try.func9, Try.ntmps9
   go_wp2_with fail
   refine (isNaN_any b _).mono ?_
   rw [t]
   rintro e w' ⟨rfl, rfl⟩
   go_wp2_with fail
   refine (Hi.out _).mono ?_
   rw [t2]
   rintro e w' ⟨rfl, rfl⟩
   clear t t2 Hi
   go_wp2_with fail
   refine (word_any M _ HM.out).mono ?_
   rintro e w1 ⟨v1, rfl, hv1, hb1⟩
   have hx1 := ext_trans hal hb1
   have hB1 := blk_keep hB0 hb1 (by simp)
   clear hal hB0
   go_wp2_with fail
   refine (left_any M (E - 1075) _ _ hv1 (by have := dig_length_le b64_two 1 M (by simpa using HM.out); omega) (by omega)).mono ?_
   rintro e w2 ⟨v2, rfl, hv2, hb2⟩
   have hx2 := ext_trans hx1 hb2
   have hB2 := blk_keep hB1 hb2 (blk_lt hB1)
   clear hx1 hB1 hb1 hv1
   go_wp2_with fail
   refine (show Calls _ _ #[.int .u64 1] _ _ from word_any 1 _ (by unfold b64; omega)).mono ?_
   rintro e w3 ⟨v3, rfl, hv3, hb3⟩
   have hx3 := ext_trans hx2 hb3
   have hB3 := blk_keep hB2 hb3 (blk_lt hB2)
   have hv13 := hv2.below hb3
   clear hx2 hB2 hb2 hv2
   go_wp2_with fail
   refine (reduced_any (fS b) (M * 2 ^ (E - 1075)) 1 _ _ _ hv13 hv3 (by omega) (by have := dig_pow_le M (E - 1075) 16 HM.out (by omega); omega) (by have := dig_length_le b64_two 1 1 (by unfold b64; omega); omega)).mono ?_
   rintro e w4 ⟨v, rfl, hv, hb4⟩
   rw [Hq.out] at hv
   have hx4 := ext_trans hx3 hb4
   have hB4 := blk_keep hB3 hb4 (blk_lt hB3)
   obtain ⟨a1, n1, a2, n2, rfl, hn', hd'⟩ := hv.opened
   have HB4 := Lib.hid hB4
   have hBl := blk_lt hB4
   have c0 := blk_cell hB4 0 (.bool false) rfl
   have c1 := blk_cell hB4 1 (.slice none 0 0) rfl
   have c2 := blk_cell hB4 2 (.slice none 0 0) rfl
   have f0 := blk_frozen hB4 0
   have f1 := blk_frozen hB4 1
   have f2 := blk_frozen hB4 2
   clear hv hb3 hb4 hx3 hB3 hB4 hv13 hv3
   generalize fval b = q at *
   go_wp2_with fail
   refine bodyPost_ret (v := .tuple #[.agg #[.bool (decide (q.num < 0)), .slice a1 (dig b64 q.num.natAbs).length _, .slice a2 (dig b64 (dn q.den)).length _], .int .i64 0]) (by simp [results, Try.results9, go_sem, c0, c1, c2]; first | done | exact ⟨⟨rfl, rfl⟩, rfl⟩ | exact ⟨rfl, rfl⟩ | rfl) rfl ⟨_, rfl, ?_, below_store3 hx4 (Nat.le_refl _)⟩
   exact ⟨_, _, rfl, store3 HB4.out hn', store3 HB4.out hd'⟩
  ·
   have Hq : Hid (mkQ (fS b) M (2 ^ (1075 - E)) = fval b) := by show _ = _; rw [Hv.out, Nat.sub_eq_zero_of_le (show E ≤ 1075 by omega), Nat.pow_zero, Nat.mul_one]
   obtain ⟨k, hk⟩ : ∃ k, k = 1075 - E := ⟨_, rfl⟩
   have e5 : (1075 : Int) - E = (k : Int) := by omega
   have hk2 : k ≤ 1075 := by omega
   rw [← hk] at Hq
   have c3 : (E : Int) < 1075 := by omega
   have c4 : decide ((1075 : Int) ≤ E) = false := by simp; omega
   clear Hv he hk
   go_enter Try.func9, Try.ntmps9
   go_wp2_with fail
   refine (isNaN_any b _).mono ?_
   rw [t]
   rintro e w' ⟨rfl, rfl⟩
   go_wp2_with fail
   refine (Hi.out _).mono ?_
   rw [t2]
   rintro e w' ⟨rfl, rfl⟩
   clear t t2 Hi
   go_wp2_with fail
   refine (word_any M _ HM.out).mono ?_
   rintro e w1 ⟨v1, rfl, hv1, hb1⟩
   have hx1 := ext_trans hal hb1
   have hB1 := blk_keep hB0 hb1 (by simp)
   clear hal hB0
   go_wp2_with fail
   refine (show Calls _ _ #[.int .u64 1] _ _ from word_any 1 _ (by unfold b64; omega)).mono ?_
   rintro e w2 ⟨v2, rfl, hv2, hb2⟩
   have hx2 := ext_trans hx1 hb2
   have hB2 := blk_keep hB1 hb2 (blk_lt hB1)
   have hv12 := hv1.below hb2
   clear hx1 hB1 hb1 hv1
   go_wp2_with fail
   refine (show Calls _ _ #[v2, .int .i64 (k : Nat)] _ _ from left_any 1 k _ _ hv2 (by have := dig_length_le b64_two 1 1 (by unfold b64; omega); omega) (by omega)).mono ?_
   rintro e w3 ⟨v3, rfl, hv3, hb3⟩
   have hx3 := ext_trans hx2 hb3
   have hB3 := blk_keep hB2 hb3 (blk_lt hB2)
   have hv13 := hv12.below hb3
   clear hx2 hB2 hb2 hv12 hv2
   rw [Nat.one_mul] at hv3
   go_wp2_with fail
   refine (reduced_any (fS b) M (2 ^ k) _ _ _ hv13 hv3 (Nat.two_pow_pos _) (by have := dig_length_le b64_two 1 M (by simpa using HM.out); omega) (by have := dig_pow_le 1 k 17 (by unfold b64; omega) (by omega); rw [Nat.one_mul] at this; omega)).mono ?_
   rintro e w4 ⟨v, rfl, hv, hb4⟩
   rw [Hq.out] at hv
   have hx4 := ext_trans hx3 hb4
   have hB4 := blk_keep hB3 hb4 (blk_lt hB3)
   obtain ⟨a1, n1, a2, n2, rfl, hn', hd'⟩ := hv.opened
   have HB4 := Lib.hid hB4
   have hBl := blk_lt hB4
   have c0 := blk_cell hB4 0 (.bool false) rfl
   have c1 := blk_cell hB4 1 (.slice none 0 0) rfl
   have c2 := blk_cell hB4 2 (.slice none 0 0) rfl
   have f0 := blk_frozen hB4 0
   have f1 := blk_frozen hB4 1
   have f2 := blk_frozen hB4 2
   clear hv hb3 hb4 hx3 hB3 hB4 hv13 hv3
   generalize fval b = q at *
   go_wp2_with fail
   refine bodyPost_ret (v := .tuple #[.agg #[.bool (decide (q.num < 0)), .slice a1 (dig b64 q.num.natAbs).length _, .slice a2 (dig b64 (dn q.den)).length _], .int .i64 0]) (by simp [results, Try.results9, go_sem, c0, c1, c2]; first | done | exact ⟨⟨rfl, rfl⟩, rfl⟩ | exact ⟨rfl, rfl⟩ | rfl) rfl ⟨_, rfl, ?_, below_store3 hx4 (Nat.le_refl _)⟩
   exact ⟨_, _, rfl, store3 HB4.out hn', store3 HB4.out hd'⟩

end Go.Proofs.Ytanmcbbnnjamoaa

namespace Go.Proofs.Ytanmcbbnnjamoaa
open Go.RowKit

theorem RB.isRow {w : World} {B : Nat} (h : RB w B) {k : IntKind} {v : Value} {ds : List Nat} (hv : IsRow k w v ds) (neg : Bool) (x1 y1 : Option Addr) (i1 j1 k1 l1 : Nat) :
  IsRow k (((w.setCell ⟨B, 0, none⟩ (.bool neg)).setCell ⟨B, 1, none⟩ (.slice x1 i1 j1)).setCell ⟨B, 2, none⟩ (.slice y1 k1 l1)) v ds := by
 obtain ⟨b, x, i, j, y, k, l, T, h⟩ := h
 exact store3 h hv
theorem RB.far {w : World} {B B' : Nat} (h : RB w B) (hne : B' ≠ B) (neg : Bool) (x1 y1 : Option Addr) (i1 j1 k1 l1 : Nat) :
  RB (((w.setCell ⟨B', 0, none⟩ (.bool neg)).setCell ⟨B', 1, none⟩ (.slice x1 i1 j1)).setCell ⟨B', 2, none⟩ (.slice y1 k1 l1)) B := by
 obtain ⟨b, x, i, j, y, k, l, T, h⟩ := h
 exact ⟨b, x, i, j, y, k, l, T, by rw [heap_setCell_other _ _ _ _ (Ne.symm hne), heap_setCell_other _ _ _ _ (Ne.symm hne), heap_setCell_other _ _ _ _ (Ne.symm hne)]; exact h⟩
end Go.Proofs.Ytanmcbbnnjamoaa

namespace Go.Proofs.Ytanmcbbnnjamoaa
open Go.RowKit

def fracQ (n d : Int) : Rat := if d ≤ 0 then (n : Rat) else (n : Rat) / (d : Rat)

set_option maxHeartbeats 2000000 in
theorem of_any (n d : Int) (w : World) (h1 : -9223372036854775808 ≤ n) (h2 : n ≤ 9223372036854775807) (h3 : -9223372036854775808 ≤ d) (h4 : d ≤ 9223372036854775807) :
  Calls Try.prog 40 #[.agg #[.int .i64 n, .int .i64 d]] w (RetRat (fracQ n d) w) := by
 by_cases hd : d ≤ 0
 ·
  have Hq : Hid ((n : Rat) = fracQ n d) := by show _ = fracQ n d; unfold fracQ; rw [if_pos hd]
  have hal := ((Below.refl w.heap.size w).alloc (Nat.le_refl _) (.cells #[.int .i64 n, .int .i64 d] 73)).alloc (by simp) (.cells #[.bool false, .slice none 0 0, .slice none 0 0] 40)
  have hB0 := blk_new (w.alloc (.cells #[.int .i64 n, .int .i64 d] 73)) #[.bool false, .slice none 0 0, .slice none 0 0] 40
  rw [World.size_alloc] at hB0
  go_enter Try.func40, Try.ntmps40
  go_wp2_with fail
  refine (int_any n _ h1 h2).mono ?_
  rintro e w1 ⟨v, rfl, hv, hb1⟩
  rw [Hq.out] at hv
  have hx1 := hal.trans (hb1.mono hal.size)
  have hB1 := blk_keep hB0 hb1 (by simp)
  obtain ⟨a1, c1', a2, c2', rfl, n1, n2⟩ := hv.opened
  generalize fracQ n d = q at *
  clear hv hb1 hal hB0
  have hBl := blk_lt hB1
  have c0 := blk_cell hB1 0 (.bool false) rfl
  have c1 := blk_cell hB1 1 (.slice none 0 0) rfl
  have c2 := blk_cell hB1 2 (.slice none 0 0) rfl
  have f0 := blk_frozen hB1 0
  have f1 := blk_frozen hB1 1
  have f2 := blk_frozen hB1 2
  have HB := Lib.hid hB1
  clear hB1
  have hxe := below_store3 (u0 := .bool (decide (q.num < 0))) (u1 := .slice a1 (dig b64 q.num.natAbs).length c1') (u2 := .slice a2 (dig b64 (dn q.den)).length c2') hx1 (Nat.le_succ _)
  go_wp2_with fail
  refine bodyPost_ret (v := .agg #[.bool (decide (q.num < 0)), .slice a1 (dig b64 q.num.natAbs).length _, .slice a2 (dig b64 (dn q.den)).length _]) (by simp [results, Try.results40, go_sem, c0, c1, c2]; first | done | exact ⟨rfl, rfl⟩ | rfl) rfl ⟨_, rfl, ?_, hxe⟩
  exact ⟨_, _, rfl, store3 HB.out n1, store3 HB.out n2⟩
 ·
  have Hq : Hid ((n : Rat) / (d : Rat) = fracQ n d) := by show _ = fracQ n d; unfold fracQ; rw [if_neg hd]
  have hd0 : d ≠ 0 := by omega
  have hal := ((Below.refl w.heap.size w).alloc (Nat.le_refl _) (.cells #[.int .i64 n, .int .i64 d] 73)).alloc (by simp) (.cells #[.bool false, .slice none 0 0, .slice none 0 0] 40)
  have hB0 := blk_new (w.alloc (.cells #[.int .i64 n, .int .i64 d] 73)) #[.bool false, .slice none 0 0, .slice none 0 0] 40
  rw [World.size_alloc] at hB0
  go_enter Try.func40, Try.ntmps40
  go_wp2_with fail
  refine (new_any n d _ h1 h2 h3 h4 hd0).mono ?_
  rintro e w1 ⟨v, rfl, hv, hb1⟩
  rw [Hq.out] at hv
  have hx1 := hal.trans (hb1.mono hal.size)
  have hB1 := blk_keep hB0 hb1 (by simp)
  obtain ⟨a1, c1', a2, c2', rfl, n1, n2⟩ := hv.opened
  generalize fracQ n d = q at *
  clear hv hb1 hal hB0
  have hBl := blk_lt hB1
  have c0 := blk_cell hB1 0 (.bool false) rfl
  have c1 := blk_cell hB1 1 (.slice none 0 0) rfl
  have c2 := blk_cell hB1 2 (.slice none 0 0) rfl
  have f0 := blk_frozen hB1 0
  have f1 := blk_frozen hB1 1
  have f2 := blk_frozen hB1 2
  have HB := Lib.hid hB1
  clear hB1
  have hxe := below_store3 (u0 := .bool (decide (q.num < 0))) (u1 := .slice a1 (dig b64 q.num.natAbs).length c1') (u2 := .slice a2 (dig b64 (dn q.den)).length c2') hx1 (Nat.le_succ _)
  go_wp2_with fail
  refine bodyPost_ret (v := .agg #[.bool (decide (q.num < 0)), .slice a1 (dig b64 q.num.natAbs).length _, .slice a2 (dig b64 (dn q.den)).length _]) (by simp [results, Try.results40, go_sem, hBl, c0, c1, c2]; first | done | exact ⟨rfl, rfl⟩ | rfl) rfl ⟨_, rfl, ?_, hxe.alloc hxe.size _⟩
  exact IsRat.below (w := ((w1.setCell ⟨w.heap.size + 1, 0, none⟩ (.bool (decide (q.num < 0)))).setCell ⟨w.heap.size + 1, 1, none⟩ (.slice a1 (dig b64 q.num.natAbs).length c1')).setCell ⟨w.heap.size + 1, 2, none⟩ (.slice a2 (dig b64 (dn q.den)).length c2')) ⟨_, _, rfl, store3 HB.out n1, store3 HB.out n2⟩ ((Below.refl _ _).alloc (Nat.le_refl _) _)

set_option maxHeartbeats 2000000 in
theorem qof_any (n d : Int) (w : World) (h1 : -9223372036854775808 ≤ n) (h2 : n ≤ 9223372036854775807) (h3 : -9223372036854775808 ≤ d) (h4 : d ≤ 9223372036854775807) :
  Calls Try.prog 41 #[.agg #[.int .i64 n, .int .i64 d]] w (RetR (fracQ n d) w) := by
 by_cases hd : d ≤ 0
 ·
  have Hq : Hid ((n : Rat) = fracQ n d) := by show _ = fracQ n d; unfold fracQ; rw [if_pos hd]
  have hal := ((Below.refl w.heap.size w).alloc (Nat.le_refl _) (.cells #[.int .i64 n, .int .i64 d] 73)).alloc (by simp) (.cells #[.bool false, .slice none 0 0, .slice none 0 0] 104)
  have hB0 := blk_new (w.alloc (.cells #[.int .i64 n, .int .i64 d] 73)) #[.bool false, .slice none 0 0, .slice none 0 0] 104
  rw [World.size_alloc] at hB0
  go_enter Try.func41, Try.ntmps41
  go_wp2_with fail
  refine (qint_any n _ h1 h2).mono ?_
  rintro e w1 ⟨v, rfl, hv, hb1⟩
  rw [Hq.out] at hv
  have hx1 := hal.trans (hb1.mono hal.size)
  have hB1 := blk_keep hB0 hb1 (by simp)
  obtain ⟨d', a1, c1', a2, c2', rfl, n1, n2, hden⟩ := hv.opened
  generalize fracQ n d = q at *
  clear hv hb1 hal hB0
  have hBl := blk_lt hB1
  have c0 := blk_cell hB1 0 (.bool false) rfl
  have c1 := blk_cell hB1 1 (.slice none 0 0) rfl
  have c2 := blk_cell hB1 2 (.slice none 0 0) rfl
  have f0 := blk_frozen hB1 0
  have f1 := blk_frozen hB1 1
  have f2 := blk_frozen hB1 2
  have HB := Lib.hid hB1
  clear hB1
  have hxe := below_store3 (u0 := .bool (decide (q.num < 0))) (u1 := .slice a1 (dig b32 q.num.natAbs).length c1') (u2 := .slice a2 (dig b32 d').length c2') hx1 (Nat.le_succ _)
  go_wp2_with fail
  refine bodyPost_ret (v := .agg #[.bool (decide (q.num < 0)), .slice a1 (dig b32 q.num.natAbs).length _, .slice a2 (dig b32 d').length _]) (by simp [results, Try.results41, go_sem, c0, c1, c2]; first | done | exact ⟨rfl, rfl⟩ | rfl) rfl ⟨_, rfl, ?_, hxe⟩
  exact ⟨_, _, d', rfl, store3 HB.out n1, store3 HB.out n2, hden⟩
 ·
  have Hq : Hid ((n : Rat) / (d : Rat) = fracQ n d) := by show _ = fracQ n d; unfold fracQ; rw [if_neg hd]
  have hd0 : d ≠ 0 := by omega
  have hal := ((Below.refl w.heap.size w).alloc (Nat.le_refl _) (.cells #[.int .i64 n, .int .i64 d] 73)).alloc (by simp) (.cells #[.bool false, .slice none 0 0, .slice none 0 0] 104)
  have hB0 := blk_new (w.alloc (.cells #[.int .i64 n, .int .i64 d] 73)) #[.bool false, .slice none 0 0, .slice none 0 0] 104
  rw [World.size_alloc] at hB0
  go_enter Try.func41, Try.ntmps41
  go_wp2_with fail
  refine (qnew_any n d _ h1 h2 h3 h4 hd0).mono ?_
  rintro e w1 ⟨v, rfl, hv, hb1⟩
  rw [Hq.out] at hv
  have hx1 := hal.trans (hb1.mono hal.size)
  have hB1 := blk_keep hB0 hb1 (by simp)
  obtain ⟨d', a1, c1', a2, c2', rfl, n1, n2, hden⟩ := hv.opened
  generalize fracQ n d = q at *
  clear hv hb1 hal hB0
  have hBl := blk_lt hB1
  have c0 := blk_cell hB1 0 (.bool false) rfl
  have c1 := blk_cell hB1 1 (.slice none 0 0) rfl
  have c2 := blk_cell hB1 2 (.slice none 0 0) rfl
  have f0 := blk_frozen hB1 0
  have f1 := blk_frozen hB1 1
  have f2 := blk_frozen hB1 2
  have HB := Lib.hid hB1
  clear hB1
  have hxe := below_store3 (u0 := .bool (decide (q.num < 0))) (u1 := .slice a1 (dig b32 q.num.natAbs).length c1') (u2 := .slice a2 (dig b32 d').length c2') hx1 (Nat.le_succ _)
  go_wp2_with fail
  refine bodyPost_ret (v := .agg #[.bool (decide (q.num < 0)), .slice a1 (dig b32 q.num.natAbs).length _, .slice a2 (dig b32 d').length _]) (by simp [results, Try.results41, go_sem, hBl, c0, c1, c2]; first | done | exact ⟨rfl, rfl⟩ | rfl) rfl ⟨_, rfl, ?_, hxe.alloc hxe.size _⟩
  exact IsR.below (w := ((w1.setCell ⟨w.heap.size + 1, 0, none⟩ (.bool (decide (q.num < 0)))).setCell ⟨w.heap.size + 1, 1, none⟩ (.slice a1 (dig b32 q.num.natAbs).length c1')).setCell ⟨w.heap.size + 1, 2, none⟩ (.slice a2 (dig b32 d').length c2')) ⟨_, _, d', rfl, store3 HB.out n1, store3 HB.out n2, hden⟩ ((Below.refl _ _).alloc (Nat.le_refl _) _)

theorem fracQ_bits (n d : Int) (h1 : -9223372036854775808 ≤ n) (h2 : n ≤ 9223372036854775807) (h3 : -9223372036854775808 ≤ d) (h4 : d ≤ 9223372036854775807) : (fracQ n d).num.natAbs < b64 ∧ (fracQ n d).den < b64 := by
 unfold fracQ
 split
 ·
  rename_i h
  exact ⟨by simp; unfold b64; omega, by simp; unfold b64; omega⟩
 ·
  rename_i h
  rw [← new_plain n d (by omega)]
  have hd : 0 < d.natAbs := by omega
  rw [mkQ_num _ _ _ hd, mkQ_den _ _ _ hd]
  exact ⟨Nat.lt_of_le_of_lt (Nat.div_le_self _ _) (by unfold b64; omega), Nat.lt_of_le_of_lt (Nat.div_le_self _ _) (by unfold b64; omega)⟩
theorem fracQ_szR (n d : Int) (h1 : -9223372036854775808 ≤ n) (h2 : n ≤ 9223372036854775807) (h3 : -9223372036854775808 ≤ d) (h4 : d ≤ 9223372036854775807) : szR (fracQ n d) 1 := by
 obtain ⟨a, b⟩ := fracQ_bits n d h1 h2 h3 h4
 exact ⟨dig_length_le b64_two 1 _ (by simpa using a), dig_length_le b64_two 1 _ (by simpa using b)⟩
end Go.Proofs.Ytanmcbbnnjamoaa

namespace Go.Proofs.Ytanmcbbnnjamoaa
open Go.RowKit

def noDig (v : Value) : Prop := ∀ x : Int, v ≠ .int .u64 x ∧ v ≠ .int .u32 x
def NoDig (w : World) (g : Nat) : Prop := ∀ (j : Nat) (v : Value), w.cell? ⟨g, j, none⟩ = some v → noDig v

theorem noDig_bool (b : Bool) : noDig (.bool b) := fun _ => ⟨by simp, by simp⟩
theorem noDig_slice (a : Option Addr) (l c : Nat) : noDig (.slice a l c) := fun _ => ⟨by simp, by simp⟩
theorem noDig_i64 (x : Int) : noDig (.int .i64 x) := fun _ => ⟨by simp, by simp⟩
theorem noDig_f32 (x : Nat) : noDig (.float .f32 x) := fun _ => ⟨by simp, by simp⟩
theorem NoDig.of_block {w : World} {g : Nat} {cs : Array Value} {t : TypeId} {fr : Nat × Nat} (hg : w.heap[g]? = some (.cells cs t fr)) (h : ∀ v ∈ cs.toList, noDig v) : NoDig w g := by
 intro j v hv
 rw [cell_of_row w g j cs t fr hg] at hv
 exact h v (by simpa using Array.mem_of_getElem? hv)

def LRow (w : World) (base : Nat) (e : TypeId) (size : Nat) (v : Value) (n : Nat) (xs : List Value) : Prop :=
 w.ownsRow base e size v n xs ∧ ∀ g, v.ownBlock = some g → NoDig w g

theorem LRow.nil (w : World) (base : Nat) (e : TypeId) (size : Nat) : LRow w base e size (.slice none 0 0) 0 [] :=
 ⟨World.ownsRow_nil w base e size, fun g h => by simp [Value.ownBlock] at h⟩
theorem LRow.lt {w : World} {base : Nat} {e : TypeId} {size : Nat} {v : Value} {n : Nat} {xs : List Value} (h : LRow w base e size v n xs) {g : Nat} (hg : v.ownBlock = some g) : g < w.heap.size ∧ base ≤ g := by
 rcases h.1.2 with ⟨rfl, _⟩ | ⟨g', cap, cur, rfl, hb, hh, _⟩
 ·
  simp [Value.ownBlock] at hg
 ·
  simp [Value.ownBlock] at hg
  subst hg
  exact ⟨(Array.getElem?_eq_some_iff.1 hh).1, hb⟩
theorem LRow.keep {w w' : World} {base : Nat} {e : TypeId} {size : Nat} {v : Value} {n : Nat} {xs : List Value} (h : LRow w base e size v n xs) (hk : ∀ g, v.ownBlock = some g → w'.heap[g]? = w.heap[g]?) : LRow w' base e size v n xs := by
 refine ⟨⟨h.1.1, ?_⟩, fun g hg j u hu => h.2 g hg j u ?_⟩
 ·
  rcases h.1.2 with h1 | ⟨g, cap, cur, rfl, hb, hh, h2⟩
  ·
   exact .inl h1
  ·
   exact .inr ⟨g, cap, cur, rfl, hb, (hk g rfl).trans hh, h2⟩
 ·
  rw [← hu]
  exact (World.cell?_of_block (a := ⟨g, j, none⟩) (hk g hg)).symm
theorem LRow.below {w w' : World} {base : Nat} {e : TypeId} {size : Nat} {v : Value} {n : Nat} {xs : List Value} (h : LRow w base e size v n xs) (hb : Below w.heap.size w w') : LRow w' base e size v n xs :=
 h.keep fun g hg => hb.block g (h.lt hg).1
theorem LRow.grown {w w' : World} {base : Nat} {e : TypeId} {size : Nat} {v : Value} {n : Nat} {xs : List Value} {row : Option Nat} (h : LRow w base e size v n xs) (hb : w.grownBy w' row) (hne : ∀ g, v.ownBlock = some g → some g ≠ row) : LRow w' base e size v n xs :=
 h.keep fun g hg => hb.block g (h.lt hg).1 (hne g hg)

theorem IsRow.grown {k : IntKind} (hk : k = .u64 ∨ k = .u32) {w w' : World} {v : Value} {ds : List Nat} {row : Option Nat} (h : IsRow k w v ds) (hg : w.grownBy w' row) (hr : ∀ g, row = some g → NoDig w g) : IsRow k w' v ds := by
 rcases h with ⟨rfl, ao, cap, rfl, h2, h3⟩ | ⟨h0, b, off, cap, rfl, h1, h2, h3, h4⟩
 ·
  exact .inl ⟨rfl, ao, cap, rfl, h2, h3⟩
 ·
  have hne : some b ≠ row := by
   intro e
   have := hr b e.symm off _ (h4 0 h0)
   rcases hk with rfl | rfl
   ·
    exact (this _).1 rfl
   ·
    exact (this _).2 rfl
  refine .inr ⟨h0, b, off, cap, rfl, h1, h2, Nat.lt_of_lt_of_le h3 hg.size, fun j hj => ?_⟩
  rw [← h4 j hj]
  exact World.cell?_of_block (a := ⟨b, off + j, none⟩) (hg.block b h3 hne)

theorem run_append_lrow {P : Program} (w : World) (t ty : TypeId) (base : Nat) (e : TypeId) (i : TypeInfo) (z : Value) (size bytes : Nat) (ht : P.underlying t = some (.slice e)) (hi : P.info? e = some i) (hz : i.zero = some z)
  (hsize : i.size = size) (hby : i.bytes = bytes) (hzs : z.cells.size = size) (hsz : 0 < size) (hzd : ∀ u ∈ z.cells.toList, noDig u)
  (v : Value) (n : Nat) (xs : List Value) (hown : LRow w base e size v n xs)
  (ad : Addr) (m c : Nat) (news : List Value) (hl : news.length = m * size) (hnews : ∀ j u, news[j]? = some u → w.cell? (ad.add j) = some u) (h1 : ∀ u ∈ news, u.oneCell' = true) (hnd : ∀ u ∈ news, noDig u)
  (hm : 0 < m) (h63 : n + m ≤ maxLen) (hbytes : (n + m) * bytes ≤ 140737488355328) (hbase : base ≤ w.heap.size) :
  ∃ g cap w', (Builtin.append_ #[t, t] ty #[v, .slice (some ad) m c]).run P w = .ok (.slice (some ⟨g, 0, none⟩) (n + m) cap) w' ∧
   LRow w' base e size (.slice (some ⟨g, 0, none⟩) (n + m) cap) (n + m) (xs ++ news) ∧ w.grownBy w' v.ownBlock ∧ (v.ownBlock = some g ∨ g = w.heap.size) := by
 obtain ⟨g, cap, w', hr, h2, h3, h4, h5⟩ := run_append_lies (P := P) w t ty base e i z size bytes ht hi hz hsize hby hzs hsz v n xs hown.1 ad m c news hl hnews h1 hm h63 hbytes hbase w.heap.size rfl
 refine ⟨g, cap, w', hr, ⟨h2, ?_⟩, h3, h4⟩
 intro g' hg'
 obtain rfl : g = g' := by simpa [Value.ownBlock] using hg'
 subst hsize
 subst hby
 have h63' : n + m ≤ 9223372036854775807 := by unfold maxLen at h63; omega
 have hzc : ∀ k, ∀ u ∈ (Builtin.zeroCells z.cells k).toList, noDig u := by
  intro k u hu
  refine hzd u ?_
  simp only [Builtin.zeroCells] at hu
  simp at hu
  obtain ⟨j, h1, h2⟩ := hu
  have hp : 0 < z.cells.size := by omega
  have hlt : j % z.cells.size < z.cells.size := Nat.mod_lt _ hp
  rw [← h2, getElem!_pos z.cells _ hlt]
  simp
 rcases hown.1.2 with ⟨rfl, rfl⟩ | ⟨g1, cap1, cur, rfl, hbg, hg, hnc, hcm, hcs, htake⟩
 ·
  have hr2 := run_append_nil (P := P) w t ty e i z ht hi hz ad m c news hl hnews hm (by omega) (by have hb := hbytes; simp only [Nat.zero_add] at hb; omega)
  rw [hr2] at hr
  simp only [Result.ok.injEq, Value.slice.injEq, Option.some.injEq, Addr.mk.injEq] at hr
  obtain ⟨⟨⟨rfl, _⟩, _⟩, rfl⟩ := hr
  refine NoDig.of_block (heap_alloc_new w.drew _) ?_
  intro u hu
  simp only [Array.toList_append, List.mem_append] at hu
  rcases hu with hu | hu
  ·
   exact hnd u (by simpa using hu)
  ·
   exact hzc _ u hu
 ·
  by_cases hroom : n + m ≤ cap1
  ·
   have hfit : n * i.size + news.length ≤ cur.size := by rw [hl, hcs, ← Nat.add_mul]; exact Nat.mul_le_mul_right _ hroom
   have hr2 := run_append_room (P := P) w t ty e i ht hi g1 n cap1 cur hg ad m c news hl hnews h1 hroom hfit
   rw [hr2] at hr
   simp only [Result.ok.injEq, Value.slice.injEq, Option.some.injEq, Addr.mk.injEq] at hr
   obtain ⟨⟨⟨rfl, _⟩, _⟩, rfl⟩ := hr
   have hold : ∀ u ∈ cur.toList, noDig u := by
    intro u hu
    obtain ⟨j, hj, rfl⟩ := List.getElem_of_mem hu
    refine hown.2 g1 rfl j _ ?_
    rw [cell_of_row w g1 j cur e (0, 0) hg]
    simp at hj
    simp [hj]
   refine NoDig.of_block (setRow_heap w g1 cur _ e _ hg) ?_
   intro u hu
   simp only [List.append_assoc, List.mem_append] at hu
   rcases hu with hu | hu | hu
   ·
    exact hold u (List.mem_of_mem_take hu)
   ·
    exact hnd u hu
   ·
    exact hold u (List.mem_of_mem_drop hu)
  ·
   have holds : ∀ j u, xs[j]? = some u → w.cell? ((⟨g1, 0, none⟩ : Addr).add j) = some u := hown.1.cells (g := g1) rfl
   have hr2 := run_append_grow (P := P) w t ty e i z ht hi hz ⟨g1, 0, none⟩ n cap1 xs hown.1.1 holds ad m c news hl hnews (by omega) (by omega) (growslice_fits (by omega) hbytes)
   rw [hr2] at hr
   simp only [Result.ok.injEq, Value.slice.injEq, Option.some.injEq, Addr.mk.injEq] at hr
   obtain ⟨⟨⟨rfl, _⟩, _⟩, rfl⟩ := hr
   have hold : ∀ u ∈ xs, noDig u := by
    intro u hu
    obtain ⟨j, hj, rfl⟩ := List.getElem_of_mem hu
    have hx := holds j xs[j] (by simp [hj])
    have ha : (⟨g1, 0, none⟩ : Addr).add j = ⟨g1, j, none⟩ := by unfold Addr.add; split <;> simp_all
    rw [ha] at hx
    exact hown.2 g1 rfl j _ hx
   refine NoDig.of_block (heap_alloc_new w.drew _) ?_
   intro u hu
   simp only [Array.toList_append, List.mem_append] at hu
   rcases hu with (hu | hu) | hu
   ·
    exact hold u hu
   ·
    exact hnd u hu
   ·
    exact hzc _ u hu

theorem wp_append_lrow {P : Program} (w : World) {o : Oper} {a : Act} {K : Act → World → Prop} {Q : Exit → Act → World → Prop} (s x : Operand) (t : TypeId)
  (ho : o.op = .call { callee := .builtin .append, args := #[s, x], argTypes := #[t, t] })
  (base : Nat) (e : TypeId) (i : TypeInfo) (z : Value) (size bytes : Nat) (ht : P.underlying t = some (.slice e)) (hi : P.info? e = some i) (hz : i.zero = some z)
  (hsize : i.size = size) (hby : i.bytes = bytes) (hzs : z.cells.size = size) (hsz : 0 < size) (hzd : ∀ u ∈ z.cells.toList, noDig u)
  (v : Value) (n : Nat) (xs : List Value) (hs : a.eval s = v) (hown : LRow w base e size v n xs)
  (ad : Addr) (m c : Nat) (news : List Value) (hx : a.eval x = .slice (some ad) m c) (hl : news.length = m * size) (hnews : ∀ j u, news[j]? = some u → w.cell? (ad.add j) = some u) (h1 : ∀ u ∈ news, u.oneCell' = true) (hnd : ∀ u ∈ news, noDig u)
  (hm : 0 < m) (h63 : n + m ≤ maxLen) (hbytes : (n + m) * bytes ≤ 140737488355328) (hbase : base ≤ w.heap.size)
  (h : ∀ g cap w', LRow w' base e size (.slice (some ⟨g, 0, none⟩) (n + m) cap) (n + m) (xs ++ news) → w.grownBy w' v.ownBlock → (v.ownBlock = some g ∨ g = w.heap.size) → K (a.put o.dst (.slice (some ⟨g, 0, none⟩) (n + m) cap)) w') : o.wp P a w K Q := by
 obtain ⟨g, cap, w', hr, h2, h3, h4⟩ := run_append_lrow (P := P) w t o.type base e i z size bytes ht hi hz hsize hby hzs hsz hzd v n xs hown ad m c news hl hnews h1 hnd hm h63 hbytes hbase
 unfold Oper.wp execOp
 simp only [ho, resolve, invoke, builtin, Sem.run_bind, Sem.run_pure, Result.andThen_ok, List.map_toArray, List.map_cons, List.map_nil, hs, hx, hr]
 exact h g cap w' h2 h3 h4

theorem wpList_append_lrow {P : Program} (w : World) {ops : Array Oper} {rest : List Oper} {o : Oper} {a : Act} {Q : Exit → Act → World → Prop} (hgd : o.guard = none) (s x : Operand) (t : TypeId)
  (ho : o.op = .call { callee := .builtin .append, args := #[s, x], argTypes := #[t, t] })
  (base : Nat) (e : TypeId) (i : TypeInfo) (z : Value) (size bytes : Nat) (ht : P.underlying t = some (.slice e)) (hi : P.info? e = some i) (hz : i.zero = some z)
  (hsize : i.size = size) (hby : i.bytes = bytes) (hzs : z.cells.size = size) (hsz : 0 < size) (hzd : ∀ u ∈ z.cells.toList, noDig u)
  (v : Value) (n : Nat) (xs : List Value) (hs : a.eval s = v) (hown : LRow w base e size v n xs)
  (ad : Addr) (m c : Nat) (news : List Value) (hx : a.eval x = .slice (some ad) m c) (hl : news.length = m * size) (hnews : ∀ j u, news[j]? = some u → w.cell? (ad.add j) = some u) (h1 : ∀ u ∈ news, u.oneCell' = true) (hnd : ∀ u ∈ news, noDig u)
  (hm : 0 < m) (h63 : n + m ≤ maxLen) (hbytes : (n + m) * bytes ≤ 140737488355328) (hbase : base ≤ w.heap.size)
  (h : ∀ g cap w', LRow w' base e size (.slice (some ⟨g, 0, none⟩) (n + m) cap) (n + m) (xs ++ news) → w.grownBy w' v.ownBlock → (v.ownBlock = some g ∨ g = w.heap.size) → wpList P ops Q rest (a.put o.dst (.slice (some ⟨g, 0, none⟩) (n + m) cap)) w') : wpList P ops Q (o :: rest) a w :=
 wpList_plain hgd fun _ hK => wp_append_lrow w s x t ho base e i z size bytes ht hi hz hsize hby hzs hsz hzd v n xs hs hown ad m c news hx hl hnews h1 hnd hm h63 hbytes hbase fun g cap w' h2 h3 h4 => hK _ _ (h g cap w' h2 h3 h4)

theorem step_append_lrow {P : Program} (w : World) {ops : Array Oper} {o : Oper} {a : Act} {K : Act → World → Prop} {Q : Exit → Act → World → Prop} {E : Prop} (hgd : o.guard = none) (s x : Operand) (t : TypeId)
  (ho : o.op = .call { callee := .builtin .append, args := #[s, x], argTypes := #[t, t] })
  (base : Nat) (e : TypeId) (i : TypeInfo) (z : Value) (size bytes : Nat) (ht : P.underlying t = some (.slice e)) (hi : P.info? e = some i) (hz : i.zero = some z)
  (hsize : i.size = size) (hby : i.bytes = bytes) (hzs : z.cells.size = size) (hsz : 0 < size) (hzd : ∀ u ∈ z.cells.toList, noDig u)
  (v : Value) (n : Nat) (xs : List Value) (hs : a.eval s = v) (hown : LRow w base e size v n xs)
  (ad : Addr) (m c : Nat) (news : List Value) (hx : a.eval x = .slice (some ad) m c) (hl : news.length = m * size) (hnews : ∀ j u, news[j]? = some u → w.cell? (ad.add j) = some u) (h1 : ∀ u ∈ news, u.oneCell' = true) (hnd : ∀ u ∈ news, noDig u)
  (hm : 0 < m) (h63 : n + m ≤ maxLen) (hbytes : (n + m) * bytes ≤ 140737488355328) (hbase : base ≤ w.heap.size)
  (h : ∀ g cap w', LRow w' base e size (.slice (some ⟨g, 0, none⟩) (n + m) cap) (n + m) (xs ++ news) → w.grownBy w' v.ownBlock → (v.ownBlock = some g ∨ g = w.heap.size) → K (a.put o.dst (.slice (some ⟨g, 0, none⟩) (n + m) cap)) w') :
  if Region.wanted o (yielded ops a.tmps) = true then Oper.wp P o a w K Q else E := by
 have hw : Region.wanted o (yielded ops a.tmps) = true := by simp [Region.wanted, hgd]
 rw [if_pos hw]
 exact wp_append_lrow w s x t ho base e i z size bytes ht hi hz hsize hby hzs hsz hzd v n xs hs hown ad m c news hx hl hnews h1 hnd hm h63 hbytes hbase h

end Go.Proofs.Ytanmcbbnnjamoaa

namespace Go.Proofs.Ytanmcbbnnjamoaa
open Go.RowKit

def EntAt (R : World → Value → Rat → Prop) (w : World) (b o : Nat) (e : Rat × Int) : Prop :=
 ∃ v0 vn vd, w.cell? ⟨b, o, none⟩ = some v0 ∧ w.cell? ⟨b, o + 1, none⟩ = some vn ∧ w.cell? ⟨b, o + 2, none⟩ = some vd ∧ w.cell? ⟨b, o + 3, none⟩ = some (.int .i64 e.2) ∧ R w (.agg #[v0, vn, vd]) e.1
def EntsOf (R : World → Value → Rat → Prop) (w : World) (v : Value) (es : List (Rat × Int)) : Prop :=
 ∃ ao cap, v = .slice ao es.length cap ∧ (0 < es.length → ∃ b off, ao = some ⟨b, off, none⟩ ∧ b < w.heap.size ∧ ∀ i, i < es.length → EntAt R w b (off + i * 4) (es.getD i (0, 0)))

theorem EntAt.below {R : World → Value → Rat → Prop} (hR : ∀ w w' v q, R w v q → Below w.heap.size w w' → R w' v q) {w w' : World} {b o : Nat} {e : Rat × Int} (h : EntAt R w b o e) (hb : Below w.heap.size w w') (hl : b < w.heap.size) : EntAt R w' b o e := by
 obtain ⟨v0, vn, vd, h0, h1, h2, h3, h4⟩ := h
 have c : ∀ j v, w.cell? ⟨b, j, none⟩ = some v → w'.cell? ⟨b, j, none⟩ = some v := fun j v h => (hb.cell (p := ⟨b, j, none⟩) hl).trans h
 exact ⟨v0, vn, vd, c _ _ h0, c _ _ h1, c _ _ h2, c _ _ h3, hR _ _ _ _ h4 hb⟩
theorem EntsOf.below {R : World → Value → Rat → Prop} (hR : ∀ w w' v q, R w v q → Below w.heap.size w w' → R w' v q) {w w' : World} {v : Value} {es : List (Rat × Int)} (h : EntsOf R w v es) (hb : Below w.heap.size w w') : EntsOf R w' v es := by
 obtain ⟨ao, cap, rfl, h⟩ := h
 refine ⟨ao, cap, rfl, fun hl => ?_⟩
 obtain ⟨b, off, rfl, hlt, h⟩ := h hl
 exact ⟨b, off, rfl, Nat.lt_of_lt_of_le hlt hb.size, fun i hi => (h i hi).below hR hb hlt⟩

def rateUp (es : List (Rat × Int)) (T : Rat) : Int := es.foldl (fun acc e => if cmpR e.1 T ≤ 0 then e.2 else acc) 0
theorem rateUp_take (es : List (Rat × Int)) (T : Rat) (i : Nat) (hi : i < es.length) :
  rateUp (es.take (i + 1)) T = if cmpR (es.getD i (0, 0)).1 T ≤ 0 then (es.getD i (0, 0)).2 else rateUp (es.take i) T := by
 unfold rateUp
 rw [List.take_add_one, List.foldl_append]
 simp [hi]

theorem IsRat.belowAll : ∀ (w w' : World) (v : Value) (q : Rat), IsRat w v q → Below w.heap.size w w' → IsRat w' v q := fun _ _ _ _ h hb => h.below hb
theorem IsR.belowAll : ∀ (w w' : World) (v : Value) (q : Rat), IsR w v q → Below w.heap.size w w' → IsR w' v q := fun _ _ _ _ h hb => h.below hb

set_option maxHeartbeats 2000000 in
theorem rate_any (es : List (Rat × Int)) (T : Rat) (ve vT : Value) (w : World) (he : EntsOf IsRat w ve es) (hT : IsRat w vT T) (hs : ∀ i, i < es.length → szR (es.getD i (0, 0)).1 274877906944) (hsT : szR T 274877906944) (hlen : es.length ≤ 1000000) :
  Calls Try.prog 29 #[ve, vT] w (RetInt (rateUp es T) w) := by
 obtain ⟨ao, cap, rfl, hE⟩ := he
 obtain ⟨a1, c1, a2, c2, rfl, n1, n2⟩ := hT.opened
 have HT := Lib.hid hT
 have HS := Lib.hid hs
 have HST := Lib.hid hsT
 have HE := Lib.hid hE
 clear hT hs hsT n1 n2 hE
 generalize hvT : Value.agg #[.bool (decide (T.num < 0)), .slice a1 (dig b64 T.num.natAbs).length c1, .slice a2 (dig b64 (dn T.den)).length c2] = vT' at HT
 have hal : Below w.heap.size w (w.alloc (.cells #[.bool (decide (T.num < 0)), .slice a1 (dig b64 T.num.natAbs).length c1, .slice a2 (dig b64 (dn T.den)).length c2] 40)) := (Below.refl _ _).alloc (Nat.le_refl _) _
 have hB0 := blk_new w #[.bool (decide (T.num < 0)), .slice a1 (dig b64 T.num.natAbs).length c1, .slice a2 (dig b64 (dn T.den)).length c2] 40
 subst hvT
 go_enter Try.func29, Try.ntmps29
 go_wp2_with fail
 go_loopw [5, 10] (fun rv iv wr => ∃ (i : Nat), i ≤ es.length ∧ iv = .int .i64 i ∧ rv = .int .i64 (rateUp (es.take i) T) ∧ Below w.heap.size w wr ∧ Hid (wr.heap[w.heap.size]? = some (.cells #[.bool (decide (T.num < 0)), .slice a1 (dig b64 T.num.natAbs).length c1, .slice a2 (dig b64 (dn T.den)).length c2] 40 (0, 0))))
  (fun _ iv _ => es.length - (intOf iv).toNat)
 case atStart => exact ⟨0, Nat.zero_le _, rfl, by simp [rateUp], hal, hB0⟩
 case round =>
  clear hal hB0
  obtain ⟨i, hi, rfl, rfl, hbel, hB⟩ := hrel
  by_cases hlt : i < es.length
  ·
   obtain ⟨b, off, rfl, hbl, hEE⟩ := HE.out (by omega)
   have hEi := (hEE i hlt).below IsRat.belowAll hbel hbl
   obtain ⟨v0, vn, vd, g0, g1, g2, g3, gR⟩ := hEi
   have HR := Lib.hid gR
   obtain ⟨e1, f1, e2, f2, hag, m1, m2⟩ := gR.opened
   simp only [Value.agg.injEq, Array.mk.injEq, List.cons.injEq, and_true] at hag
   obtain ⟨rfl, rfl, rfl⟩ := hag
   have hst := Lib.hid (rateUp_take es T i hlt)
   have hsz := Lib.hid (HS.out i hlt)
   have hlt' : (i : Int) < es.length := by omega
   have hBl := blk_lt hB.out
   have t0 := blk_cell hB.out 0 (.bool (decide (T.num < 0))) rfl
   have t1 := blk_cell hB.out 1 (.slice a1 (dig b64 T.num.natAbs).length c1) rfl
   have t2 := blk_cell hB.out 2 (.slice a2 (dig b64 (dn T.den)).length c2) rfl
   generalize (es.getD i (0, 0)).1 = x at *
   generalize (es.getD i (0, 0)).2 = y at *
   clear m1 m2 gR hEE
   go_wp2_with fail
   have hal2 : Below wr.heap.size wr (wr.alloc (.cells #[.bool (decide (x.num < 0)), .slice e1 (dig b64 x.num.natAbs).length f1, .slice e2 (dig b64 (dn x.den)).length f2, .int .i64 y] 63)) := (Below.refl _ _).alloc (Nat.le_refl _) _
   refine (cmpRat_any x T _ _ _ (HR.out.below hal2) (HT.out.below (ext_trans hbel hal2)) hsz.out HST.out).mono ?_
   rintro e w2 ⟨rfl, hb2⟩
   have hN := blk_keep (blk_new wr #[.bool (decide (x.num < 0)), .slice e1 (dig b64 x.num.natAbs).length f1, .slice e2 (dig b64 (dn x.den)).length f2, .int .i64 y] 63) hb2 (by simp)
   have n3 := blk_cell hN 3 (.int .i64 y) rfl
   have hx2 := ext_trans hbel (ext_trans hal2 hb2)
   have hB2 := blk_keep hB.out (ext_trans hal2 hb2) hBl
   have HB2 := Lib.hid hB2
   clear hB2 hN t0 t1 t2 g0 g1 g2 g3 hb2 hal2
   by_cases hc : cmpR x T ≤ 0
   ·
    have hc' : decide (cmpR x T ≤ 0) = true := decide_eq_true hc
    have hr : Hid (rateUp (es.take (i + 1)) T = y) := by show _ = y; rw [hst.out, if_pos hc]
    clear hc hst
    generalize cmpR x T = c at *
    go_wp2_with fail
    exact ⟨⟨i + 1, by omega, by go_num, by rw [hr.out], hx2, HB2.out⟩, meas_up hlt⟩
   ·
    have hc' : decide (cmpR x T ≤ 0) = false := decide_eq_false hc
    have hr : Hid (rateUp (es.take (i + 1)) T = rateUp (es.take i) T) := by show _ = _; rw [hst.out, if_neg hc]
    clear hc hst
    generalize cmpR x T = c at *
    go_wp2_with fail
    exact ⟨⟨i + 1, by omega, by go_num, by rw [hr.out], hx2, HB2.out⟩, meas_up hlt⟩
  ·
   obtain rfl : i = es.length := by omega
   rw [List.take_length]
   go_wp2_with fail
   go_ret
   exact ⟨rfl, hbel⟩

end Go.Proofs.Ytanmcbbnnjamoaa

namespace Go.Proofs.Ytanmcbbnnjamoaa
open Go.RowKit

def firstErr (f : Nat → Int) : Nat → Int
 | 0 => 0
 | k + 1 => if firstErr f k = 0 then f k else firstErr f k
theorem firstErr_step {f : Nat → Int} {i : Nat} (h : firstErr f i = 0) : firstErr f (i + 1) = f i := by simp [firstErr, h]
theorem firstErr_stay {f : Nat → Int} {i n : Nat} (h : firstErr f i ≠ 0) (hn : i ≤ n) : firstErr f n = firstErr f i := by
 obtain ⟨k, rfl⟩ : ∃ k, n = i + k := ⟨n - i, by omega⟩
 induction k with
 | zero => rfl
 | succ k ih =>
  have := ih (by omega)
  show (if firstErr f (i + k) = 0 then f (i + k) else firstErr f (i + k)) = _
  rw [this, if_neg h]

def entErr (es : List (Rat × Int)) (i : Nat) : Int :=
 if 0 < i ∧ cmpR (es.getD i (0, 0)).1 (es.getD (i - 1) (0, 0)).1 ≤ 0 then 7
 else if (es.getD i (0, 0)).2 < 0 ∨ 1000 < (es.getD i (0, 0)).2 ∨ (0 < i ∧ (es.getD i (0, 0)).2 < (es.getD (i - 1) (0, 0)).2) then 1 else 0
def tabErr (es : List (Rat × Int)) : Int := if es.length < 1 ∨ 16 < es.length then 4 else firstErr (entErr es) es.length

theorem keepA8 {n : Nat} {W a b : World} {A0 A1 A2 A3 A4 A5 A6 A7 : Addr} {v0 v1 v2 v3 v4 v5 v6 v7 : Value} (hn : n ≤ W.heap.size) (hb : Below a.heap.size a b)
  (h : Below n W a ∧ a.cell? A0 = some v0 ∧ a.cell? A1 = some v1 ∧ a.cell? A2 = some v2 ∧ a.cell? A3 = some v3 ∧ a.cell? A4 = some v4 ∧ a.cell? A5 = some v5 ∧ a.cell? A6 = some v6 ∧ a.cell? A7 = some v7) :
  Below n W b ∧ b.cell? A0 = some v0 ∧ b.cell? A1 = some v1 ∧ b.cell? A2 = some v2 ∧ b.cell? A3 = some v3 ∧ b.cell? A4 = some v4 ∧ b.cell? A5 = some v5 ∧ b.cell? A6 = some v6 ∧ b.cell? A7 = some v7 := by
 obtain ⟨h0, h1, h2, h3, h4, h5, h6, h7, h8⟩ := h
 have e : ∀ A v, a.cell? A = some v → b.cell? A = some v := fun A v h => (hb.cell (World.block_lt_of_cell? (h := h))).trans h
 have hs := h0.size
 exact ⟨h0.trans (hb.mono (by omega)), e _ _ h1, e _ _ h2, e _ _ h3, e _ _ h4, e _ _ h5, e _ _ h6, e _ _ h7, e _ _ h8⟩

set_option maxRecDepth 100000 in
set_option maxHeartbeats 4000000 in
theorem checkTable_any (es : List (Rat × Int)) (ve : Value) (w : World) (he : EntsOf IsRat w ve es) (hs : ∀ i, i < es.length → szR (es.getD i (0, 0)).1 274877906944) :
  Calls Try.prog 18 #[ve] w (RetInt (tabErr es) w) := by
 obtain ⟨ao, cap, rfl, hE⟩ := he
 have HS := Lib.hid hs
 have HE := Lib.hid hE
 clear hs hE
 by_cases h1 : es.length < 1
 ·
  have t1 : decide ((es.length : Int) < 1) = true := by simp; omega
  have Hr : Hid (tabErr es = 4) := by show tabErr es = 4; unfold tabErr; rw [if_pos (.inl h1)]
  clear h1
  go_enter Try.func18, Try.ntmps18
  go_wp2_with fail
  go_ret
  exact ⟨by rw [Hr.out]; rfl, Below.refl _ _⟩
 ·
  by_cases h16 : 16 < es.length
  ·
   have t1 : decide ((es.length : Int) < 1) = false := by simp; omega
   have t2 : decide ((es.length : Int) > 16) = true := by simp; omega
   have Hr : Hid (tabErr es = 4) := by show tabErr es = 4; unfold tabErr; rw [if_pos (.inr h16)]
   clear h1 h16
   go_enter Try.func18, Try.ntmps18
   go_wp2_with fail
   go_ret
   exact ⟨by rw [Hr.out]; rfl, Below.refl _ _⟩
  ·
   have t1 : decide ((es.length : Int) < 1) = false := by simp; omega
   have t2 : decide ((es.length : Int) > 16) = false := by simp; omega
   have Hr : Hid (tabErr es = firstErr (entErr es) es.length) := by show tabErr es = _; unfold tabErr; rw [if_neg (by omega)]
   have hlen : es.length ≤ 16 := by omega
   obtain ⟨b, off, rfl, hbl, hEE⟩ := HE.out (by omega)
   have HEE := Lib.hid hEE
   clear HE h1 h16 hEE
   go_enter Try.func18, Try.ntmps18
   go_wp2_with fail
   go_loopw [15] (fun iv wr => ∃ (i : Nat), i ≤ es.length ∧ iv = .int .i64 i ∧ Hid (firstErr (entErr es) i = 0) ∧ Below w.heap.size w wr)
    (fun iv _ => es.length - (intOf iv).toNat)
   case atStart => exact ⟨0, Nat.zero_le _, rfl, rfl, Below.refl _ _⟩
   case round =>
    obtain ⟨i, hi, rfl, hF, hbel⟩ := hrel
    by_cases hlt : i < es.length
    ·
     have hEi := (HEE.out i hlt).below IsRat.belowAll hbel hbl
     obtain ⟨v0, vn, vd, g0, g1, g2, g3, gR⟩ := hEi
     have HR := Lib.hid gR
     obtain ⟨e1, f1, e2, f2, hag, m1, m2⟩ := gR.opened
     simp only [Value.agg.injEq, Array.mk.injEq, List.cons.injEq, and_true] at hag
     obtain ⟨rfl, rfl, rfl⟩ := hag
     have hst := Lib.hid (firstErr_step hF.out)
     have hstay : Hid (entErr es i ≠ 0 → tabErr es = entErr es i) := fun h => by
      rw [Hr.out, ← hst.out]
      exact firstErr_stay (by rw [hst.out]; exact h) hlt
     have hsz := Lib.hid (HS.out i hlt)
     have hlt' : (i : Int) < es.length := by omega
     have hbl2 : b < wr.heap.size := Nat.lt_of_lt_of_le hbl hbel.size
     clear m1 m2 gR
     rcases Nat.eq_zero_or_pos i with hi0 | hi0
     ·
      have hent : entErr es i = if (es.getD i (0, 0)).2 < 0 ∨ 1000 < (es.getD i (0, 0)).2 then 1 else 0 := by
       unfold entErr
       rw [if_neg (by omega)]
       simp [hi0]
      have ti : decide (0 < i) = false := by simp [hi0]
      have Hent := Lib.hid hent
      clear hent hi0
      generalize (es.getD i (0, 0)).1 = x at *
      generalize (es.getD i (0, 0)).2 = y at *
      have hW2 : Below w.heap.size w (((wr.alloc (.cells #[.bool (decide (x.num < 0)), .slice e1 (dig b64 x.num.natAbs).length f1, .slice e2 (dig b64 (dn x.den)).length f2, .int .i64 y] 63)).drew).drew) := (hbel.alloc hbel.size _).drew.drew
      by_cases hy1 : y < 0
      ·
       have ty1 : decide (y < 0) = true := decide_eq_true hy1
       have Hv : Hid (tabErr es = 1) := by
        have h : entErr es i = 1 := by rw [Hent.out]; rw [if_pos (.inl hy1)]
        show tabErr es = 1
        rw [hstay.out (by rw [h]; decide), h]
       clear hy1
       go_wp2_with fail
       go_region
       go_wp2_with fail
       go_region
       go_wp2_with fail
       go_ret
       exact ⟨by rw [Hv.out]; rfl, hW2⟩
      ·
       have ty1 : decide (y < 0) = false := decide_eq_false hy1
       by_cases hy2 : 1000 < y
       ·
        have ty2 : decide (y > 1000) = true := decide_eq_true hy2
        have Hv : Hid (tabErr es = 1) := by
         have h : entErr es i = 1 := by rw [Hent.out]; rw [if_pos (.inr hy2)]
         show tabErr es = 1
         rw [hstay.out (by rw [h]; decide), h]
        clear hy1 hy2
        go_wp2_with fail
        go_region
        go_wp2_with fail
        go_region
        go_wp2_with fail
        go_ret
        exact ⟨by rw [Hv.out]; rfl, hW2⟩
       ·
        have ty2 : decide (y > 1000) = false := decide_eq_false hy2
        have Hno : Hid (¬ (y < 0 ∨ 1000 < y)) := by show ¬ _; omega
        clear hy1 hy2
        go_wp2_with fail
        go_region
        go_wp2_with fail
        have Hv : Hid (firstErr (entErr es) (i + 1) = 0) := by
         show _ = _
         rw [hst.out, Hent.out]
         rw [if_neg Hno.out]
        go_region
        go_wp2_with fail
        exact ⟨⟨i + 1, by omega, by go_num, Hv.out, hW2⟩, meas_up hlt⟩
     ·
      have ti : decide (0 < i) = true := by simp [hi0]
      obtain ⟨j, hj⟩ : ∃ j, i = j + 1 := ⟨i - 1, by omega⟩
      have hEj := (HEE.out j (by omega)).below IsRat.belowAll hbel hbl
      obtain ⟨v0, vn, vd, k0, k1, k2, k3, kR⟩ := hEj
      have KR := Lib.hid kR
      obtain ⟨e3, f3, e4, f4, hag, m1, m2⟩ := kR.opened
      simp only [Value.agg.injEq, Array.mk.injEq, List.cons.injEq, and_true] at hag
      obtain ⟨rfl, rfl, rfl⟩ := hag
      have hszj := Lib.hid (HS.out j (by omega))
      have Hent : Hid (entErr es i = if cmpR (es.getD i (0, 0)).1 (es.getD j (0, 0)).1 ≤ 0 then 7 else if (es.getD i (0, 0)).2 < 0 ∨ 1000 < (es.getD i (0, 0)).2 ∨ (es.getD i (0, 0)).2 < (es.getD j (0, 0)).2 then 1 else 0) := by
       show entErr es i = _
       unfold entErr
       have e : i - 1 = j := by omega
       simp [hi0, e]
      have e1' : IntKind.i64.wrap ((i : Int) - 1) = (j : Int) := by rw [show (i : Int) - 1 = (j : Int) by omega]; exact IntWalk.i64_in _ (by omega)
      have hj2 : (j : Int) < es.length := by omega
      have hj0 : (0 : Int) ≤ j := by omega
      clear m1 m2 kR hi0 hj
      generalize (es.getD i (0, 0)).1 = x at *
      generalize (es.getD i (0, 0)).2 = y at *
      generalize (es.getD j (0, 0)).1 = x0 at *
      generalize (es.getD j (0, 0)).2 = y0 at *
      have hal2 : Below wr.heap.size wr (wr.alloc (.cells #[.bool (decide (x.num < 0)), .slice e1 (dig b64 x.num.natAbs).length f1, .slice e2 (dig b64 (dn x.den)).length f2, .int .i64 y] 63)) := (Below.refl _ _).alloc (Nat.le_refl _) _
      have hN := blk_new wr #[.bool (decide (x.num < 0)), .slice e1 (dig b64 x.num.natAbs).length f1, .slice e2 (dig b64 (dn x.den)).length f2, .int .i64 y] 63
      have hk : ∀ (j : Nat) (v : Value), wr.cell? ⟨b, j, none⟩ = some v → (wr.alloc (.cells #[.bool (decide (x.num < 0)), .slice e1 (dig b64 x.num.natAbs).length f1, .slice e2 (dig b64 (dn x.den)).length f2, .int .i64 y] 63)).cell? ⟨b, j, none⟩ = some v := fun j v h => (hal2.cell (p := ⟨b, j, none⟩) hbl2).trans h
      have s0 : (wr.alloc (.cells #[.bool (decide (x.num < 0)), .slice e1 (dig b64 x.num.natAbs).length f1, .slice e2 (dig b64 (dn x.den)).length f2, .int .i64 y] 63)).drew.cell? ⟨wr.heap.size, 0, none⟩ = some (.bool (decide (x.num < 0))) := blk_cell hN 0 _ rfl
      have s1 : (wr.alloc (.cells #[.bool (decide (x.num < 0)), .slice e1 (dig b64 x.num.natAbs).length f1, .slice e2 (dig b64 (dn x.den)).length f2, .int .i64 y] 63)).drew.cell? ⟨wr.heap.size, 1, none⟩ = some (.slice e1 (dig b64 x.num.natAbs).length f1) := blk_cell hN 1 _ rfl
      have s2 : (wr.alloc (.cells #[.bool (decide (x.num < 0)), .slice e1 (dig b64 x.num.natAbs).length f1, .slice e2 (dig b64 (dn x.den)).length f2, .int .i64 y] 63)).drew.cell? ⟨wr.heap.size, 2, none⟩ = some (.slice e2 (dig b64 (dn x.den)).length f2) := blk_cell hN 2 _ rfl
      have s3 : (wr.alloc (.cells #[.bool (decide (x.num < 0)), .slice e1 (dig b64 x.num.natAbs).length f1, .slice e2 (dig b64 (dn x.den)).length f2, .int .i64 y] 63)).drew.cell? ⟨wr.heap.size, 3, none⟩ = some (.int .i64 y) := blk_cell hN 3 _ rfl
      go_wp2_with fail
      go_region_held3 (fun w' => Below wr.heap.size wr w' ∧ w'.cell? ⟨wr.heap.size, 0, none⟩ = some (.bool (decide (x.num < 0))) ∧ w'.cell? ⟨wr.heap.size, 1, none⟩ = some (.slice e1 (dig b64 x.num.natAbs).length f1) ∧ w'.cell? ⟨wr.heap.size, 2, none⟩ = some (.slice e2 (dig b64 (dn x.den)).length f2) ∧ w'.cell? ⟨b, off + j * 4, none⟩ = some (.bool (decide (x0.num < 0))) ∧ w'.cell? ⟨b, off + j * 4 + 1, none⟩ = some (.slice e3 (dig b64 x0.num.natAbs).length f3) ∧ w'.cell? ⟨b, off + j * 4 + 2, none⟩ = some (.slice e4 (dig b64 (dn x0.den)).length f4) ∧ w'.cell? ⟨b, off + j * 4 + 3, none⟩ = some (.int .i64 y0) ∧ w'.cell? ⟨wr.heap.size, 3, none⟩ = some (.int .i64 y))
       (first | exact ⟨hal2.drew, s0, s1, s2, hk _ _ k0, hk _ _ k1, hk _ _ k2, hk _ _ k3, s3⟩ | exact keepA8 (Nat.le_refl _) hb2 (by assumption))
       (first | (go_at_call 14; refine (cmpRat_any x x0 _ _ _ (HR.out.below (And.left (by assumption))) (KR.out.below (And.left (by assumption))) hsz.out hszj.out).mono ?_; rintro e w2 ⟨rfl, hb2⟩))
      rename_i hS2
      obtain ⟨hW2, s0', s1', s2', k0', k1', k2', k3', s3'⟩ := hS2
      have hW3 := ext_trans hbel hW2
      clear s0 s1 s2 s3 k0 k1 k2 k3 g0 g1 g2 g3 hk hN hal2 hb2 s0' s1' s2' k0' k1' k2' hW2
      by_cases hc : cmpR x x0 ≤ 0
      ·
       have hc' : decide (cmpR x x0 ≤ 0) = true := decide_eq_true hc
       have Hv : Hid (tabErr es = 7) := by
        have h : entErr es i = 7 := by rw [Hent.out]; rw [if_pos hc]
        show tabErr es = 7
        rw [hstay.out (by rw [h]; decide), h]
       clear hc
       generalize cmpR x x0 = c at *
       rw [hc']
       go_wp2_with fail
       go_ret
       exact ⟨by rw [Hv.out]; rfl, hW3⟩
      ·
       have hc' : decide (cmpR x x0 ≤ 0) = false := decide_eq_false hc
       replace Hent : Hid (entErr es i = if y < 0 ∨ 1000 < y ∨ y < y0 then 1 else 0) := by show _ = _; rw [Hent.out, if_neg hc]
       clear hc
       generalize cmpR x x0 = c at *
       rw [hc']
       by_cases hy1 : y < 0
       ·
        have ty1 : decide (y < 0) = true := decide_eq_true hy1
        have Hv : Hid (tabErr es = 1) := by
         have h : entErr es i = 1 := by rw [Hent.out]; rw [if_pos (.inl hy1)]
         show tabErr es = 1
         rw [hstay.out (by rw [h]; decide), h]
        clear hy1
        go_wp2_with fail
        go_region
        go_wp2_with fail
        go_ret
        exact ⟨by rw [Hv.out]; rfl, hW3.drew⟩
       ·
        have ty1 : decide (y < 0) = false := decide_eq_false hy1
        by_cases hy2 : 1000 < y
        ·
         have ty2 : decide (y > 1000) = true := decide_eq_true hy2
         have Hv : Hid (tabErr es = 1) := by
          have h : entErr es i = 1 := by rw [Hent.out]; rw [if_pos (.inr (.inl hy2))]
          show tabErr es = 1
          rw [hstay.out (by rw [h]; decide), h]
         clear hy1 hy2
         go_wp2_with fail
         go_region
         go_wp2_with fail
         go_ret
         exact ⟨by rw [Hv.out]; rfl, hW3.drew⟩
        ·
         have ty2 : decide (y > 1000) = false := decide_eq_false hy2
         by_cases hy3 : y < y0
         ·
          have ty3 : decide (y < y0) = true := decide_eq_true hy3
          have Hv : Hid (tabErr es = 1) := by
           have h : entErr es i = 1 := by rw [Hent.out]; rw [if_pos (.inr (.inr hy3))]
           show tabErr es = 1
           rw [hstay.out (by rw [h]; decide), h]
          clear hy1 hy2 hy3
          go_wp2_with fail
          go_region
          go_wp2_with fail
          go_ret
          exact ⟨by rw [Hv.out]; rfl, hW3.drew⟩
         ·
          have ty3 : decide (y < y0) = false := decide_eq_false hy3
          have Hno : Hid (¬ (y < 0 ∨ 1000 < y ∨ y < y0)) := by show ¬ _; omega
          clear hy1 hy2 hy3
          have Hv : Hid (firstErr (entErr es) (i + 1) = 0) := by
           show _ = _
           rw [hst.out, Hent.out]
           rw [if_neg Hno.out]
          go_wp2_with fail
          go_region
          go_wp2_with fail
          exact ⟨⟨i + 1, by omega, by go_num, Hv.out, hW3.drew⟩, meas_up hlt⟩
    ·
     obtain rfl : i = es.length := by omega
     have Hf : Hid (tabErr es = 0) := by show tabErr es = 0; rw [Hr.out, hF.out]
     clear hF
     go_wp2_with fail
     go_ret
     exact ⟨by rw [Hf.out]; rfl, hbel⟩

end Go.Proofs.Ytanmcbbnnjamoaa

namespace Go.Proofs.Ytanmcbbnnjamoaa
open Go.RowKit

def PairAt (w : World) (b o : Nat) (r : Int × Int) : Prop := w.cell? ⟨b, o, none⟩ = some (.int .i64 r.1) ∧ w.cell? ⟨b, o + 1, none⟩ = some (.int .i64 r.2)
def PairsOf (w : World) (v : Value) (ps : List (Int × Int)) : Prop :=
 ∃ ao cap, v = .slice ao ps.length cap ∧ (0 < ps.length → ∃ b off, ao = some ⟨b, off, none⟩ ∧ b < w.heap.size ∧ ∀ i, i < ps.length → PairAt w b (off + i * 2) (ps.getD i (0, 0)))
theorem PairAt.below {w w' : World} {b o : Nat} {r : Int × Int} (h : PairAt w b o r) (hb : Below w.heap.size w w') (hl : b < w.heap.size) : PairAt w' b o r :=
 ⟨(hb.cell (p := ⟨b, o, none⟩) hl).trans h.1, (hb.cell (p := ⟨b, o + 1, none⟩) hl).trans h.2⟩
theorem PairsOf.below {w w' : World} {v : Value} {ps : List (Int × Int)} (h : PairsOf w v ps) (hb : Below w.heap.size w w') : PairsOf w' v ps := by
 obtain ⟨ao, cap, rfl, h⟩ := h
 refine ⟨ao, cap, rfl, fun hl => ?_⟩
 obtain ⟨b, off, rfl, hlt, h⟩ := h hl
 exact ⟨b, off, rfl, Nat.lt_of_lt_of_le hlt hb.size, fun i hi => (h i hi).below hb hlt⟩

def jobErr (js : List (Int × Int)) (i : Nat) : Int :=
 if (js.getD i (0, 0)).1 < 0 ∨ 1000000 < (js.getD i (0, 0)).1 ∨ (js.getD i (0, 0)).2 < 0 ∨ 1000000 < (js.getD i (0, 0)).2 then 1 else 0
def jobsErr (js : List (Int × Int)) (ovens : Int) : Int :=
 if 64 < js.length then 4 else if ovens < 1 ∨ 8 < ovens then 1 else firstErr (jobErr js) js.length

set_option maxHeartbeats 2000000 in
theorem checkJobs_any (js : List (Int × Int)) (ovens : Int) (vj : Value) (w : World) (hj : PairsOf w vj js) : Calls Try.prog 38 #[vj, .int .i64 ovens] w (RetInt (jobsErr js ovens) w) := by
 obtain ⟨ao, cap, rfl, hE⟩ := hj
 have HE := Lib.hid hE
 clear hE
 by_cases h1 : 64 < js.length
 ·
  have t1 : decide ((js.length : Int) > 64) = true := by simp; omega
  have Hr : Hid (jobsErr js ovens = 4) := by show _ = _; unfold jobsErr; rw [if_pos h1]
  clear h1
  go_enter Try.func38, Try.ntmps38
  go_wp2_with fail
  go_ret
  exact ⟨by rw [Hr.out]; rfl, Below.refl _ _⟩
 ·
  have t1 : decide ((js.length : Int) > 64) = false := by simp; omega
  by_cases h2 : ovens < 1
  ·
   have t2 : decide (ovens < 1) = true := decide_eq_true h2
   have Hr : Hid (jobsErr js ovens = 1) := by show _ = _; unfold jobsErr; rw [if_neg h1, if_pos (.inl h2)]
   clear h1 h2
   go_enter Try.func38, Try.ntmps38
   go_wp2_with fail
   go_ret
   exact ⟨by rw [Hr.out]; rfl, Below.refl _ _⟩
  ·
   have t2 : decide (ovens < 1) = false := decide_eq_false h2
   by_cases h3 : 8 < ovens
   ·
    have t3 : decide (ovens > 8) = true := decide_eq_true h3
    have Hr : Hid (jobsErr js ovens = 1) := by show _ = _; unfold jobsErr; rw [if_neg h1, if_pos (.inr h3)]
    clear h1 h2 h3
    go_enter Try.func38, Try.ntmps38
    go_wp2_with fail
    go_ret
    exact ⟨by rw [Hr.out]; rfl, Below.refl _ _⟩
   ·
    have t3 : decide (ovens > 8) = false := decide_eq_false h3
    have Hr : Hid (jobsErr js ovens = firstErr (jobErr js) js.length) := by show _ = _; unfold jobsErr; rw [if_neg h1, if_neg (by omega)]
    have hlen : js.length ≤ 64 := by omega
    clear h1 h2 h3
    go_enter Try.func38, Try.ntmps38
    go_wp2_with fail
    go_loopw [20] (fun iv wr => ∃ (i : Nat), i ≤ js.length ∧ iv = .int .i64 i ∧ Hid (firstErr (jobErr js) i = 0) ∧ Below w.heap.size w wr)
     (fun iv _ => js.length - (intOf iv).toNat)
    case atStart => exact ⟨0, Nat.zero_le _, rfl, rfl, Below.refl _ _⟩
    case round =>
     obtain ⟨i, hi, rfl, hF, hbel⟩ := hrel
     by_cases hlt : i < js.length
     ·
      obtain ⟨b, off, rfl, hbl, hEE⟩ := HE.out (by omega)
      obtain ⟨g0, g1⟩ := (hEE i hlt).below hbel hbl
      have hst := Lib.hid (firstErr_step hF.out)
      have hstay : Hid (jobErr js i ≠ 0 → jobsErr js ovens = jobErr js i) := fun h => by
       rw [Hr.out, ← hst.out]
       exact firstErr_stay (by rw [hst.out]; exact h) hlt
      have hlt' : (i : Int) < js.length := by omega
      have hge' : (0 : Int) ≤ i := by omega
      have hbl2 : b < wr.heap.size := Nat.lt_of_lt_of_le hbl hbel.size
      have Hent : Hid (jobErr js i = if (js.getD i (0, 0)).1 < 0 ∨ 1000000 < (js.getD i (0, 0)).1 ∨ (js.getD i (0, 0)).2 < 0 ∨ 1000000 < (js.getD i (0, 0)).2 then 1 else 0) := rfl
      generalize (js.getD i (0, 0)).1 = r at *
      generalize (js.getD i (0, 0)).2 = m at *
      have hal := hbel.alloc hbel.size (.cells #[.int .i64 r, .int .i64 m] 68)
      clear hEE
      have bad : (r < 0 ∨ 1000000 < r ∨ m < 0 ∨ 1000000 < m) → Hid (jobsErr js ovens = 1) := fun hb => by
       have h : jobErr js i = 1 := by rw [Hent.out, if_pos hb]
       show jobsErr js ovens = 1
       rw [hstay.out (by rw [h]; decide), h]
      by_cases c1 : r < 0
      ·
       have t4 : decide (r < 0) = true := decide_eq_true c1
       have Hv := bad (.inl c1)
       clear c1 bad
       go_wp2_with fail
       go_ret
       exact ⟨by rw [Hv.out]; rfl, hal⟩
      ·
       have t4 : decide (r < 0) = false := decide_eq_false c1
       by_cases c2 : 1000000 < r
       ·
        have t5 : decide (r > 1000000) = true := decide_eq_true c2
        have Hv := bad (.inr (.inl c2))
        clear c1 c2 bad
        go_wp2_with fail
        go_ret
        exact ⟨by rw [Hv.out]; rfl, hal⟩
       ·
        have t5 : decide (r > 1000000) = false := decide_eq_false c2
        by_cases c3 : m < 0
        ·
         have t6 : decide (m < 0) = true := decide_eq_true c3
         have Hv := bad (.inr (.inr (.inl c3)))
         clear c1 c2 c3 bad
         go_wp2_with fail
         go_ret
         exact ⟨by rw [Hv.out]; rfl, hal⟩
        ·
         have t6 : decide (m < 0) = false := decide_eq_false c3
         by_cases c4 : 1000000 < m
         ·
          have t7 : decide (m > 1000000) = true := decide_eq_true c4
          have Hv := bad (.inr (.inr (.inr c4)))
          clear c1 c2 c3 c4 bad
          go_wp2_with fail
          go_ret
          exact ⟨by rw [Hv.out]; rfl, hal⟩
         ·
          have t7 : decide (m > 1000000) = false := decide_eq_false c4
          have Hv : Hid (firstErr (jobErr js) (i + 1) = 0) := by
           show _ = _
           rw [hst.out, Hent.out, if_neg (by omega)]
          clear c1 c2 c3 c4 bad
          go_wp2_with fail
          exact ⟨⟨i + 1, by omega, by go_num, Hv.out, hal⟩, meas_up hlt⟩
     ·
      obtain rfl : i = js.length := by omega
      have Hf : Hid (jobsErr js ovens = 0) := by show jobsErr js ovens = 0; rw [Hr.out, hF.out]
      clear hF
      go_wp2_with fail
      go_ret
      exact ⟨by rw [Hf.out]; rfl, hbel⟩

structure GoodJobs (js : List (Int × Int)) (ovens : Int) : Prop where
 len : js.length ≤ 64
 o1 : 1 ≤ ovens
 o8 : ovens ≤ 8
 job : ∀ i, i < js.length → 0 ≤ (js.getD i (0, 0)).1 ∧ (js.getD i (0, 0)).1 ≤ 1000000 ∧ 0 ≤ (js.getD i (0, 0)).2 ∧ (js.getD i (0, 0)).2 ≤ 1000000

end Go.Proofs.Ytanmcbbnnjamoaa

namespace Go.Proofs.Ytanmcbbnnjamoaa
open Go.RowKit

def gapB (n : Int) : Bool := decide (1 ≤ n) && decide (n ≤ 86400)
def timeB (n : Int) : Bool := decide (0 ≤ n) && decide (n ≤ 1073741824)
def RetBoolS (b : Bool) (w : World) (e : Ending) (w' : World) : Prop := e = .returned (.bool b) ∧ w = w'
def RetIE (n err : Int) (w : World) (e : Ending) (w' : World) : Prop := e = .returned (.tuple #[.int .i64 n, .int .i64 err]) ∧ Below w.heap.size w w'

theorem gap_any (n : Int) (w : World) : Calls Try.prog 19 #[.int .i64 n] w (RetBoolS (gapB n) w) := by
 by_cases h : 1 ≤ n
 ·
  have t : decide (n ≥ 1) = true := decide_eq_true h
  have Hr : Hid (gapB n = decide (n ≤ 86400)) := by show gapB n = _; unfold gapB; simp [h]
  clear h
  go_enter Try.func19, Try.ntmps19
  go_wp2_with fail
  go_ret
  exact ⟨by rw [Hr.out]; rfl, rfl⟩
 ·
  have t : decide (n ≥ 1) = false := decide_eq_false h
  have Hr : Hid (gapB n = false) := by show gapB n = _; unfold gapB; simp [h]
  clear h
  go_enter Try.func19, Try.ntmps19
  go_wp2_with fail
  go_ret
  exact ⟨by rw [Hr.out]; rfl, rfl⟩

theorem time_any (n : Int) (w : World) : Calls Try.prog 21 #[.int .i64 n] w (RetBoolS (timeB n) w) := by
 by_cases h : 0 ≤ n
 ·
  have t : decide (n ≥ 0) = true := decide_eq_true h
  have Hr : Hid (timeB n = decide (n ≤ 1073741824)) := by show timeB n = _; unfold timeB; simp [h]
  clear h
  go_enter Try.func21, Try.ntmps21
  go_wp2_with fail
  go_ret
  exact ⟨by rw [Hr.out]; rfl, rfl⟩
 ·
  have t : decide (n ≥ 0) = false := decide_eq_false h
  have Hr : Hid (timeB n = false) := by show timeB n = _; unfold timeB; simp [h]
  clear h
  go_enter Try.func21, Try.ntmps21
  go_wp2_with fail
  go_ret
  exact ⟨by rw [Hr.out]; rfl, rfl⟩

def rateV (es : List (Rat × Int)) (T : Rat) : Int := if tabErr es = 0 then rateUp es T else 0

set_option maxHeartbeats 1000000 in
theorem rateAt_any (es : List (Rat × Int)) (T : Rat) (ve vT : Value) (w : World) (he : EntsOf IsRat w ve es) (hT : IsRat w vT T) (hs : ∀ i, i < es.length → szR (es.getD i (0, 0)).1 274877906944) (hsT : szR T 274877906944) (hlen : es.length ≤ 1000000) :
  Calls Try.prog 10 #[ve, vT] w (RetIE (rateV es T) (tabErr es) w) := by
 obtain ⟨a1, c1, a2, c2, rfl, n1, n2⟩ := hT.opened
 have HT := Lib.hid hT
 have HE := Lib.hid he
 have HS := Lib.hid hs
 have HST := Lib.hid hsT
 clear hT hs hsT n1 n2 he
 have hal : Below w.heap.size w (w.alloc (.cells #[.bool (decide (T.num < 0)), .slice a1 (dig b64 T.num.natAbs).length c1, .slice a2 (dig b64 (dn T.den)).length c2] 40)) := (Below.refl _ _).alloc (Nat.le_refl _) _
 have hB0 := blk_new w #[.bool (decide (T.num < 0)), .slice a1 (dig b64 T.num.natAbs).length c1, .slice a2 (dig b64 (dn T.den)).length c2] 40
 by_cases h0 : tabErr es = 0
 ·
  have t0 : (tabErr es != 0) = false := by simp [h0]
  have Hv : Hid (rateV es T = rateUp es T) := by show rateV es T = _; unfold rateV; rw [if_pos h0]
  have H0 := Lib.hid h0
  clear h0
  go_enter Try.func10, Try.ntmps10
  go_wp2_with fail
  refine (checkTable_any es _ _ (HE.out.below IsRat.belowAll hal) HS.out).mono ?_
  rintro e w1 ⟨rfl, hb1⟩
  have hx1 := ext_trans hal hb1
  have hB1 := blk_keep hB0 hb1 (by simp)
  have t0' := blk_cell hB1 0 (.bool (decide (T.num < 0))) rfl
  have t1 := blk_cell hB1 1 (.slice a1 (dig b64 T.num.natAbs).length c1) rfl
  have t2 := blk_cell hB1 2 (.slice a2 (dig b64 (dn T.den)).length c2) rfl
  generalize tabErr es = te at *
  go_wp2_with fail
  refine (rate_any es T _ _ _ (HE.out.below IsRat.belowAll hx1) (HT.out.below hx1) HS.out HST.out hlen).mono ?_
  rintro e w2 ⟨rfl, hb2⟩
  go_wp2_with fail
  go_ret2
  exact ⟨by rw [Hv.out, H0.out]; rfl, ext_trans hx1 hb2⟩
 ·
  have t0 : (tabErr es != 0) = true := by simp [h0]
  have Hv : Hid (rateV es T = 0) := by show rateV es T = _; unfold rateV; rw [if_neg h0]
  clear h0
  go_enter Try.func10, Try.ntmps10
  go_wp2_with fail
  refine (checkTable_any es _ _ (HE.out.below IsRat.belowAll hal) HS.out).mono ?_
  rintro e w1 ⟨rfl, hb1⟩
  have hx1 := ext_trans hal hb1
  generalize tabErr es = te at *
  go_wp2_with fail
  go_ret2
  exact ⟨by rw [Hv.out]; rfl, hx1⟩

end Go.Proofs.Ytanmcbbnnjamoaa

namespace Go.Proofs.Ytanmcbbnnjamoaa
open Go.RowKit

def sgn32 : Nat := 2147483648
def inf32 : Nat := 2139095040
def bin23 : Nat := 8388608
theorem f32_sign : Ieee.single.signWeight = sgn32 := by decide +kernel
theorem f32_inf : Ieee.single.infRung = inf32 := by decide +kernel
theorem f32_bin : Ieee.single.binade = bin23 := by decide +kernel
theorem f32_least : Ieee.single.leastPlace = -149 := by decide +kernel

def tempOk (b : Nat) : Bool := decide (b % sgn32 < inf32)

theorem cut_zero (neg : Bool) (n : Nat) : Ieee.Toward.even.cut neg n 0 = n := by
 unfold Ieee.Toward.cut
 have e : min 0 (n.log2 + 2) = 0 := by omega
 simp only [e]
 have e1 : (1 <<< 0 : Nat) = 1 := rfl
 rw [e1]
 simp [Nat.mod_one]

theorem word_double (s : Bool) (r : Nat) (hr : r ≤ infR) : Ieee.double.word s r < b64 ∧ (fE (Ieee.double.word s r) = 2047 ↔ r = infR) ∧ (Ieee.double.word s r) % sgnW = r := by
 unfold Ieee.Format.word
 rw [f64_sign]
 unfold infR at *
 unfold fE sgnW b64 bin52
 cases s
 ·
  simp only [Bool.false_eq_true, if_false]
  omega
 ·
  simp only [if_true]
  omega

theorem nearest_double (s : Bool) (m : Nat) (p : Int) (hm : m < 16777216) (hp1 : -149 ≤ p) (hp2 : p ≤ 104) : ∃ r, r < infR ∧ Ieee.double.nearest s m p = Ieee.double.word s r := by
 unfold Ieee.Format.nearest
 by_cases h0 : m = 0
 ·
  exact ⟨0, by unfold infR; omega, by rw [if_pos h0]⟩
 ·
  rw [if_neg h0]
  have hlog : m.log2 < 24 := (Nat.log2_lt h0).2 hm
  have hself := Nat.lt_log2_self (n := m)
  rw [f64_least, f64_bin, f64_inf]
  have hf : (Ieee.double.fractionBits : Int) = 52 := rfl
  rw [hf]
  generalize hl : max (p + (m.log2 : Int) - 52) (-1074) = last
  have h1 : last ≤ p := by omega
  have h2 : last ≤ 75 := by omega
  have h3 : -1074 ≤ last := by omega
  have e1 : (last - p).toNat = 0 := by omega
  simp only [e1, cut_zero]
  have hk : (p - last).toNat + m.log2 ≤ 52 := by omega
  have hsh : m <<< (p - last).toNat < 9007199254740992 := by
   rw [Nat.shiftLeft_eq]
   have a : m * 2 ^ (p - last).toNat < 2 ^ (m.log2 + 1) * 2 ^ (p - last).toNat := Nat.mul_lt_mul_of_pos_right hself (Nat.two_pow_pos _)
   rw [← Nat.pow_add] at a
   have c : 2 ^ (m.log2 + 1 + (p - last).toNat) ≤ 2 ^ 53 := Nat.pow_le_pow_right (by omega) (by omega)
   have d : (2 : Nat) ^ 53 = 9007199254740992 := by decide
   omega
  generalize m <<< (p - last).toNat = kept at *
  have ht : (last - -1074).toNat ≤ 1149 := by omega
  generalize (last - -1074).toNat = t at *
  refine ⟨min (t * bin52 + kept) infR, ?_, rfl⟩
  have : t * bin52 ≤ 1149 * bin52 := Nat.mul_le_mul_right _ ht
  have hI : infR = 2047 * bin52 := by decide
  have hK : kept < 2 * bin52 := by
   have : (9007199254740992 : Nat) = 2 * bin52 := by decide
   omega
  have hP : 0 < bin52 := by decide
  generalize t * bin52 = A at *
  generalize bin52 = B at *
  omega

theorem conv_fin (b : Nat) (h : tempOk b = true) : ∃ r, floatToFloatBits .f32 b .f64 = some r ∧ r < b64 ∧ fE r ≠ 2047 := by
 have h1 : b % sgn32 < inf32 := by simpa [tempOk] using h
 obtain ⟨s, m, p, hd, hm, hp1, hp2⟩ : ∃ s m p, FloatKind.f32.decode b = .number s m p ∧ m < 16777216 ∧ -149 ≤ p ∧ p ≤ 104 := by
  show ∃ s m p, Ieee.single.read b = .number s m p ∧ _
  unfold Ieee.Format.read
  rw [f32_sign, f32_inf, f32_bin, f32_least]
  generalize b % sgn32 = r at *
  generalize (b / sgn32 % 2 == 1) = sg
  simp only []
  by_cases h2 : r < bin23
  ·
   rw [if_pos h2]
   exact ⟨_, _, _, rfl, by unfold bin23 at h2; omega, by omega, by omega⟩
  ·
   rw [if_neg h2, if_pos h1]
   refine ⟨_, _, _, rfl, ?_, ?_, ?_⟩
   ·
    unfold bin23; omega
   ·
    omega
   ·
    unfold inf32 at h1; unfold bin23 at *; omega
 obtain ⟨r, hr, he⟩ := nearest_double s m p hm hp1 hp2
 have he' : FloatKind.f64.encode (.number s m p) = Ieee.double.word s r := he
 obtain ⟨w1, w2, w3⟩ := word_double s r (Nat.le_of_lt hr)
 have hfin : (FloatKind.f64.decode (Ieee.double.word s r)).isInfinity = false := by
  show (Ieee.double.read (Ieee.double.word s r)).isInfinity = false
  unfold Ieee.Format.read
  rw [f64_sign, f64_inf, f64_bin, f64_least, w3]
  simp only []
  by_cases h2 : r < bin52
  ·
   rw [if_pos h2]; rfl
  ·
   rw [if_neg h2, if_pos hr]; rfl
 refine ⟨Ieee.double.word s r, ?_, w1, fun h => ?_⟩
 ·
  unfold floatToFloatBits
  rw [if_neg (by decide), hd]
  simp only []
  rw [he', hfin]
  rfl
 ·
  have := w2.1 h; omega

theorem conv_inf (b : Nat) (h : b % sgn32 = inf32) : ∃ r, floatToFloatBits .f32 b .f64 = some r ∧ r < b64 ∧ fE r = 2047 := by
 obtain ⟨s, hd⟩ : ∃ s, FloatKind.f32.decode b = .infinity s := by
  show ∃ s, Ieee.single.read b = .infinity s
  unfold Ieee.Format.read
  rw [f32_sign, f32_inf, f32_bin, f32_least, h]
  simp only []
  rw [if_neg (by unfold inf32 bin23; omega), if_neg (by omega), if_pos trivial]
  exact ⟨_, rfl⟩
 obtain ⟨w1, w2, _⟩ := word_double s infR (Nat.le_refl _)
 refine ⟨Ieee.double.word s infR, ?_, w1, w2.2 rfl⟩
 unfold floatToFloatBits
 rw [if_neg (by decide), hd]
 simp only []
 show some (Ieee.double.write (.infinity s)) = _
 unfold Ieee.Format.write
 rw [f64_inf]

theorem conv_nan (b : Nat) (h1 : ¬ b % sgn32 < inf32) (h2 : b % sgn32 ≠ inf32) : ∃ s t, FloatKind.f32.decode b = .nan s t := by
 show ∃ s t, Ieee.single.read b = .nan s t
 unfold Ieee.Format.read
 rw [f32_sign, f32_inf, f32_bin, f32_least]
 simp only []
 rw [if_neg (by unfold inf32 at h1; unfold bin23; omega), if_neg h1, if_neg h2]
 exact ⟨_, _, rfl⟩

def nanOf (b : Nat) (w : World) : Nat := (Question.nanConv .f64 b).cut (w.tape w.drawn (.nanConv .f64 b))
theorem nanOf_ok (b : Nat) (w : World) : nanOf b w < b64 ∧ fE (nanOf b w) = 2047 := by
 unfold nanOf Question.cut
 simp only []
 generalize w.tape w.drawn (.nanConv .f64 b) = t
 have h1 : (t / 2) % (2 ^ 52 - 1) < 4503599627370495 := Nat.mod_lt _ (by omega)
 generalize (t / 2) % (2 ^ 52 - 1) = x at *
 have h2 : t % 2 < 2 := Nat.mod_lt _ (by omega)
 generalize t % 2 = y at *
 unfold fE b64 bin52
 omega

theorem run_conv_nan (b : Nat) (h1 : ¬ b % sgn32 < inf32) (h2 : b % sgn32 ≠ inf32) (w : World) :
  (convert 34 43 (.float .f32 b)).run Try.prog w = .ok (.float .f64 (nanOf b w)) w.drew := by
 obtain ⟨s, t, hd⟩ := conv_nan b h1 h2
 have hs : Try.prog.underlying 34 = some (.float .f32) := Try.underlying34
 have hk : Try.prog.underlying 43 = some (.float .f64) := Try.underlying43
 simp [convert, run_underlying hs, run_underlying hk, Conv.floatToFloat, hd, Question.forced, nanOf]
theorem run_conv (b r : Nat) (h : floatToFloatBits .f32 b .f64 = some r) (w : World) :
  (convert 34 43 (.float .f32 b)).run Try.prog w = .ok (.float .f64 r) w :=
 run_convert_float_float w _ _ .f32 .f64 b r (by rw [Try.underlying34]; rfl) Try.underlying43 h

end Go.Proofs.Ytanmcbbnnjamoaa

namespace Go.Proofs.Ytanmcbbnnjamoaa
open Go.RowKit

def tempQ (b : Nat) : Rat := if tempOk b = true then fval ((floatToFloatBits .f32 b .f64).getD 0) else 0
def RetRB (q : Rat) (ok : Bool) (w : World) (e : Ending) (w' : World) : Prop :=
 ∃ v, e = .returned (.tuple #[v, .bool ok]) ∧ IsRat w' v q ∧ Below w.heap.size w w'

theorem fval_parts (b : Nat) (hE : fE b ≠ 2047) : (dig b64 (fM b * 2 ^ (fE1 b - 1075))).length ≤ 17 ∧ (dig b64 (2 ^ (1075 - fE1 b))).length ≤ 18 := by
 have hM := Nat.lt_trans (fM_lt b) bin52_b64
 have hE1 : fE1 b ≤ 2047 := by
  unfold fE1
  split
  ·
   omega
  ·
   have := Nat.mod_lt (b / bin52) (show 0 < 2048 by omega)
   unfold fE at *
   omega
 refine ⟨dig_pow_le _ _ 16 hM (by omega), ?_⟩
 have := dig_pow_le 1 (1075 - fE1 b) 17 (by unfold b64; omega) (by omega)
 rwa [Nat.one_mul] at this
theorem mkQ_szR (s : Bool) (n d k : Nat) (hd : 0 < d) (h1 : (dig b64 n).length ≤ k) (h2 : (dig b64 d).length ≤ k) : szR (mkQ s n d) k := by
 unfold szR
 rw [mkQ_num _ _ _ hd, mkQ_den _ _ _ hd]
 exact ⟨Nat.le_trans (dig_length_mono b64_two (Nat.div_le_self _ _)) h1, Nat.le_trans (dig_length_mono b64_two (Nat.div_le_self _ _)) h2⟩
theorem fval_szR (b : Nat) (hE : fE b ≠ 2047) : szR (fval b) 18 := by
 obtain ⟨h1, h2⟩ := fval_parts b hE
 exact mkQ_szR _ _ _ _ (Nat.two_pow_pos _) (by omega) h2
theorem zero_szR : szR 0 1 := ⟨by show (dig b64 0).length ≤ 1; simp [dig_zero], by show (dig b64 1).length ≤ 1; exact dig_length_le b64_two 1 1 (by unfold b64; omega)⟩
theorem tempQ_szR (b : Nat) : szR (tempQ b) 18 := by
 unfold tempQ
 by_cases h : tempOk b = true
 ·
  rw [if_pos h]
  obtain ⟨r, hr, _, hE⟩ := conv_fin b h
  rw [hr]
  exact fval_szR r hE
 ·
  rw [if_neg h]
  exact ⟨Nat.le_trans zero_szR.1 (by omega), Nat.le_trans zero_szR.2 (by omega)⟩
set_option maxHeartbeats 1000000 in
theorem exact_good (b r : Nat) (w : World) (hc : ∀ w, (convert 34 43 (.float .f32 b)).run Try.prog w = .ok (.float .f64 r) w) (q : Rat) (err : Int) (ok : Bool) (hok : (err == 0) = ok)
  (hF : ∀ w, Calls Try.prog 9 #[.float .f64 r] w (RetRatE q err w)) :
  Calls Try.prog 31 #[.float .f32 b] w (RetRB q ok w) := by
 have hal : Below w.heap.size w (w.alloc (.cells #[.bool false, .slice none 0 0, .slice none 0 0] 40)) := (Below.refl _ _).alloc (Nat.le_refl _) _
 have hB0 := blk_new w #[.bool false, .slice none 0 0, .slice none 0 0] 40
 have HF := Lib.hid hF
 clear hF
 go_enter Try.func31, Try.ntmps31
 go_wp2_with (simp only [hc])
 refine (HF.out _).mono ?_
 rintro e w1 ⟨v, rfl, hv, hb1⟩
 have hx1 := ext_trans hal hb1
 have hB1 := blk_keep hB0 hb1 (by simp)
 obtain ⟨a1, c1', a2, c2', rfl, n1, n2⟩ := hv.opened
 clear hv hb1 hal hB0
 have hBl := blk_lt hB1
 have c0 := blk_cell hB1 0 (.bool false) rfl
 have c1 := blk_cell hB1 1 (.slice none 0 0) rfl
 have c2 := blk_cell hB1 2 (.slice none 0 0) rfl
 have f0 := blk_frozen hB1 0
 have f1 := blk_frozen hB1 1
 have f2 := blk_frozen hB1 2
 have HB := Lib.hid hB1
 clear hB1
 have hxe := below_store3 (u0 := .bool (decide (q.num < 0))) (u1 := .slice a1 (dig b64 q.num.natAbs).length c1') (u2 := .slice a2 (dig b64 (dn q.den)).length c2') hx1 (Nat.le_refl _)
 go_wp2_with fail
 refine bodyPost_ret (v := .tuple #[.agg #[.bool (decide (q.num < 0)), .slice a1 (dig b64 q.num.natAbs).length _, .slice a2 (dig b64 (dn q.den)).length _], .bool ok]) (by simp [results, Try.results31, go_sem, hBl, c0, c1, c2]; first | done | exact ⟨⟨rfl, rfl⟩, rfl⟩ | exact ⟨rfl, rfl⟩ | rfl) rfl ⟨_, rfl, ?_, hxe.alloc hxe.size _⟩
 exact IsRat.below (w := ((w1.setCell ⟨w.heap.size, 0, none⟩ (.bool (decide (q.num < 0)))).setCell ⟨w.heap.size, 1, none⟩ (.slice a1 (dig b64 q.num.natAbs).length c1')).setCell ⟨w.heap.size, 2, none⟩ (.slice a2 (dig b64 (dn q.den)).length c2')) ⟨_, _, rfl, store3 HB.out n1, store3 HB.out n2⟩ ((Below.refl _ _).alloc (Nat.le_refl _) _)

set_option maxHeartbeats 1000000 in
theorem exact_nan (b : Nat) (w : World) (hc : ∀ w, (convert 34 43 (.float .f32 b)).run Try.prog w = .ok (.float .f64 (nanOf b w)) w.drew) (q : Rat)
  (hF : ∀ x w, Calls Try.prog 9 #[.float .f64 (nanOf b x)] w (RetRatE q 1 w)) :
  Calls Try.prog 31 #[.float .f32 b] w (RetRB q false w) := by
 have hal : Below w.heap.size w (w.alloc (.cells #[.bool false, .slice none 0 0, .slice none 0 0] 40)) := (Below.refl _ _).alloc (Nat.le_refl _) _
 have hB0 := blk_new w #[.bool false, .slice none 0 0, .slice none 0 0] 40
 have HF := Lib.hid hF
 clear hF
 go_enter Try.func31, Try.ntmps31
 go_wp2_with (simp only [hc])
 refine (HF.out _ _).mono ?_
 rintro e w1 ⟨v, rfl, hv, hb1⟩
 have hx1 := ext_trans (ext_trans hal (Below.refl _ _).drew) hb1
 have hB1 := blk_keep (w := (w.alloc (.cells #[.bool false, .slice none 0 0, .slice none 0 0] 40)).drew) hB0 hb1 (by simp)
 obtain ⟨a1, c1', a2, c2', rfl, n1, n2⟩ := hv.opened
 clear hv hb1 hal hB0
 have hBl := blk_lt hB1
 have c0 := blk_cell hB1 0 (.bool false) rfl
 have c1 := blk_cell hB1 1 (.slice none 0 0) rfl
 have c2 := blk_cell hB1 2 (.slice none 0 0) rfl
 have f0 := blk_frozen hB1 0
 have f1 := blk_frozen hB1 1
 have f2 := blk_frozen hB1 2
 have HB := Lib.hid hB1
 clear hB1
 have hxe := below_store3 (u0 := .bool (decide (q.num < 0))) (u1 := .slice a1 (dig b64 q.num.natAbs).length c1') (u2 := .slice a2 (dig b64 (dn q.den)).length c2') hx1 (Nat.le_refl _)
 go_wp2_with fail
 refine bodyPost_ret (v := .tuple #[.agg #[.bool (decide (q.num < 0)), .slice a1 (dig b64 q.num.natAbs).length _, .slice a2 (dig b64 (dn q.den)).length _], .bool false]) (by simp [results, Try.results31, go_sem, hBl, c0, c1, c2]; first | done | exact ⟨⟨rfl, rfl⟩, rfl⟩ | exact ⟨rfl, rfl⟩ | rfl) rfl ⟨_, rfl, ?_, hxe.alloc hxe.size _⟩
 exact IsRat.below (w := ((w1.setCell ⟨w.heap.size, 0, none⟩ (.bool (decide (q.num < 0)))).setCell ⟨w.heap.size, 1, none⟩ (.slice a1 (dig b64 q.num.natAbs).length c1')).setCell ⟨w.heap.size, 2, none⟩ (.slice a2 (dig b64 (dn q.den)).length c2')) ⟨_, _, rfl, store3 HB.out n1, store3 HB.out n2⟩ ((Below.refl _ _).alloc (Nat.le_refl _) _)


theorem exact_any (b : Nat) (w : World) : Calls Try.prog 31 #[.float .f32 b] w (RetRB (tempQ b) (tempOk b) w) := by
 by_cases h : tempOk b = true
 ·
  obtain ⟨r, hr, hb, hE⟩ := conv_fin b h
  have e : tempQ b = fval r := by unfold tempQ; rw [if_pos h, hr]; rfl
  rw [e, h]
  exact exact_good b r w (run_conv b r hr) _ 0 _ rfl (fun w => float_ok r w hb hE)
 ·
  have e : tempQ b = 0 := by unfold tempQ; rw [if_neg h]
  have h' : tempOk b = false := by simpa using h
  rw [e, h']
  have h1 : ¬ b % sgn32 < inf32 := by simpa [tempOk] using h
  by_cases h2 : b % sgn32 = inf32
  ·
   obtain ⟨r, hr, hb, hE⟩ := conv_inf b h2
   exact exact_good b r w (run_conv b r hr) _ 1 _ rfl (fun w => float_err r w hb hE)
  ·
   exact exact_nan b w (run_conv_nan b h1 h2) 0 (fun x w => float_err _ w (nanOf_ok b x).1 (nanOf_ok b x).2)

end Go.Proofs.Ytanmcbbnnjamoaa

namespace Go.Proofs.Ytanmcbbnnjamoaa
open Go.RowKit

def RdAt (w : World) (b o : Nat) (r : Int × Nat) : Prop := w.cell? ⟨b, o, none⟩ = some (.int .i64 r.1) ∧ w.cell? ⟨b, o + 1, none⟩ = some (.float .f32 r.2)
def LogOf (w : World) (v : Value) (ls : List (Int × Nat)) : Prop :=
 ∃ ao cap, v = .slice ao ls.length cap ∧ (0 < ls.length → ∃ b off, ao = some ⟨b, off, none⟩ ∧ b < w.heap.size ∧ ∀ i, i < ls.length → RdAt w b (off + i * 2) (ls.getD i (0, 0)))
theorem RdAt.below {w w' : World} {b o : Nat} {r : Int × Nat} (h : RdAt w b o r) (hb : Below w.heap.size w w') (hl : b < w.heap.size) : RdAt w' b o r :=
 ⟨(hb.cell (p := ⟨b, o, none⟩) hl).trans h.1, (hb.cell (p := ⟨b, o + 1, none⟩) hl).trans h.2⟩
theorem LogOf.below {w w' : World} {v : Value} {ls : List (Int × Nat)} (h : LogOf w v ls) (hb : Below w.heap.size w w') : LogOf w' v ls := by
 obtain ⟨ao, cap, rfl, h⟩ := h
 refine ⟨ao, cap, rfl, fun hl => ?_⟩
 obtain ⟨b, off, rfl, hlt, h⟩ := h hl
 exact ⟨b, off, rfl, Nat.lt_of_lt_of_le hlt hb.size, fun i hi => (h i hi).below hb hlt⟩

theorem run_store_f32 (a : Addr) (x : Nat) (m : Mode) (w : World) : (store a (.float .f32 x) m).run Try.prog w = stored Try.prog w a (.float .f32 x) m := run_store _ w a _ m rfl

def rdErr (ls : List (Int × Nat)) (i : Nat) : Int :=
 if timeB (ls.getD i (0, 0)).1 = false ∨ tempOk (ls.getD i (0, 0)).2 = false then 1
 else if 0 < i ∧ (ls.getD i (0, 0)).1 ≤ (ls.getD (i - 1) (0, 0)).1 then 7 else 0
def logErr (ls : List (Int × Nat)) : Int := if 256 < ls.length then 4 else firstErr (rdErr ls) ls.length

set_option maxRecDepth 100000 in
set_option maxHeartbeats 4000000 in
theorem checkLog_any (ls : List (Int × Nat)) (vl : Value) (w : World) (hl : LogOf w vl ls) : Calls Try.prog 20 #[vl] w (RetInt (logErr ls) w) := by
 obtain ⟨ao, cap, rfl, hE⟩ := hl
 have HE := Lib.hid hE
 clear hE
 by_cases h1 : 256 < ls.length
 ·
  have t1 : decide ((ls.length : Int) > 256) = true := by simp; omega
  have Hr : Hid (logErr ls = 4) := by show logErr ls = 4; unfold logErr; rw [if_pos h1]
  clear h1
  go_enter Try.func20, Try.ntmps20
  go_wp2_with fail
  go_ret
  exact ⟨by rw [Hr.out]; rfl, Below.refl _ _⟩
 ·
  have t1 : decide ((ls.length : Int) > 256) = false := by simp; omega
  have Hr : Hid (logErr ls = firstErr (rdErr ls) ls.length) := by show logErr ls = _; unfold logErr; rw [if_neg h1]
  have hlen : ls.length ≤ 256 := by omega
  have hsf := run_store_f32
  clear h1
  go_enter Try.func20, Try.ntmps20
  go_wp2_with fail
  go_loopw [12] (fun iv wr => ∃ (i : Nat), i ≤ ls.length ∧ iv = .int .i64 i ∧ Hid (firstErr (rdErr ls) i = 0) ∧ Below w.heap.size w wr)
   (fun iv _ => ls.length - (intOf iv).toNat)
  case atStart => exact ⟨0, Nat.zero_le _, rfl, rfl, Below.refl _ _⟩
  case round =>
   obtain ⟨i, hi, rfl, hF, hbel⟩ := hrel
   by_cases hlt : i < ls.length
   ·
    obtain ⟨b, off, rfl, hbl, hEE⟩ := HE.out (by omega)
    obtain ⟨g0, g1⟩ := (hEE i hlt).below hbel hbl
    have hst := Lib.hid (firstErr_step hF.out)
    have hstay : Hid (rdErr ls i ≠ 0 → logErr ls = rdErr ls i) := fun h => by
     rw [Hr.out, ← hst.out]
     exact firstErr_stay (by rw [hst.out]; exact h) hlt
    have hlt' : (i : Int) < ls.length := by omega
    have hge' : (0 : Int) ≤ i := by omega
    have hbl2 : b < wr.heap.size := Nat.lt_of_lt_of_le hbl hbel.size
    have HEE := Lib.hid hEE
    have Hent0 : Hid (rdErr ls i = if timeB (ls.getD i (0, 0)).1 = false ∨ tempOk (ls.getD i (0, 0)).2 = false then 1 else if 0 < i ∧ (ls.getD i (0, 0)).1 ≤ (ls.getD (i - 1) (0, 0)).1 then 7 else 0) := rfl
    clear hEE
    generalize hty : (ls.getD i (0, 0)).1 = ty at *
    generalize (ls.getD i (0, 0)).2 = bt at *
    clear hty
    have hal := (Below.refl w.heap.size w |>.trans hbel).alloc hbel.size (.cells #[.int .i64 ty, .float .f32 bt] 36)
    have hN := blk_new wr #[.int .i64 ty, .float .f32 bt] 36
    go_wp2_with fail
    refine (exact_any bt _).mono ?_
    rintro e w2 ⟨v, rfl, hv, hb2⟩
    have hN2 := blk_keep hN hb2 (by simp)
    have hx2 := hal.trans (hb2.mono hal.size)
    have hal2 : Below wr.heap.size wr w2 := (((Below.refl wr.heap.size wr).alloc (Nat.le_refl _) _).trans (hb2.mono (by simp)))
    obtain ⟨a1, c1, a2, c2, rfl, n1, n2⟩ := hv.opened
    have m0 := blk_cell hN2 0 (.int .i64 ty) rfl
    have hNl := blk_lt hN2
    generalize tempQ bt = q at *
    clear hv n1 n2 hb2 hN hal
    go_wp2_with fail
    refine (time_any ty _).mono ?_
    rintro e w' ⟨rfl, rfl⟩
    have hx3 := hx2.alloc hx2.size (.cells #[.bool (decide (q.num < 0)), .slice a1 (dig b64 q.num.natAbs).length c1, .slice a2 (dig b64 (dn q.den)).length c2] 40)
    cases hT : timeB ty with
    | false =>
     have Hv : Hid (logErr ls = 1) := by
      have h : rdErr ls i = 1 := by rw [Hent0.out, if_pos (.inl hT)]
      show logErr ls = 1
      rw [hstay.out (by rw [h]; decide), h]
     clear hT
     go_wp2_with fail
     go_ret
     exact ⟨by rw [Hv.out]; rfl, hx3⟩
    | true =>
     cases hK : tempOk bt with
     | false =>
      have Hv : Hid (logErr ls = 1) := by
       have h : rdErr ls i = 1 := by rw [Hent0.out, if_pos (.inr hK)]
       show logErr ls = 1
       rw [hstay.out (by rw [h]; decide), h]
      clear hT hK
      go_wp2_with fail
      go_ret
      exact ⟨by rw [Hv.out]; rfl, hx3⟩
     | true =>
      have Hent : Hid (rdErr ls i = if 0 < i ∧ ty ≤ (ls.getD (i - 1) (0, 0)).1 then 7 else 0) := by
       show _ = _
       rw [Hent0.out, if_neg (by rw [hT, hK]; simp)]
      clear hT hK Hent0
      rcases Nat.eq_zero_or_pos i with hi0 | hi0
      ·
       have ti : decide (0 < i) = false := by simp [hi0]
       have Hv : Hid (firstErr (rdErr ls) (i + 1) = 0) := by
        show _ = _
        rw [hst.out, Hent.out, if_neg (by omega)]
       clear hi0
       go_wp2_with fail
       go_region
       go_wp2_with fail
       exact ⟨⟨i + 1, by omega, by go_num, Hv.out, hx3.drew⟩, meas_up hlt⟩
      ·
       have ti : decide (0 < i) = true := by simp [hi0]
       obtain ⟨j, hj⟩ : ∃ j, i = j + 1 := ⟨i - 1, by omega⟩
       obtain ⟨k0, k1⟩ := (HEE.out j (by omega)).below hx2 hbl
       have e1' : IntKind.i64.wrap ((i : Int) - 1) = (j : Int) := by rw [show (i : Int) - 1 = (j : Int) by omega]; exact IntWalk.i64_in _ (by omega)
       have e2' : (i : Int) - 1 = (j : Int) := by omega
       have hj2 : (j : Int) < ls.length := by omega
       have hj0 : (0 : Int) ≤ j := by omega
       have hbl3 : b < w2.heap.size := Nat.lt_of_lt_of_le hbl hx2.size
       have e3 : i - 1 = j := by omega
       rw [e3] at Hent
       generalize (ls.getD j (0, 0)).1 = tj at *
       by_cases hle : ty ≤ tj
       ·
        have hc : decide (ty ≤ tj) = true := decide_eq_true hle
        have Hv : Hid (logErr ls = 7) := by
         have h : rdErr ls i = 7 := by rw [Hent.out, if_pos ⟨hi0, hle⟩]
         show logErr ls = 7
         rw [hstay.out (by rw [h]; decide), h]
        clear hle hi0 hj e3
        go_wp2_with fail
        go_region
        go_wp2_with fail
        go_ret
        exact ⟨by rw [Hv.out]; rfl, hx3.drew⟩
       ·
        have hc : decide (ty ≤ tj) = false := decide_eq_false hle
        have Hv : Hid (firstErr (rdErr ls) (i + 1) = 0) := by
         show _ = _
         rw [hst.out, Hent.out, if_neg (fun h => hle h.2)]
        clear hle hi0 hj e3
        go_wp2_with fail
        go_region
        go_wp2_with fail
        exact ⟨⟨i + 1, by omega, by go_num, Hv.out, hx3.drew⟩, meas_up hlt⟩
   ·
    obtain rfl : i = ls.length := by omega
    have Hf : Hid (logErr ls = 0) := by show logErr ls = 0; rw [Hr.out, hF.out]
    clear hF
    go_wp2_with fail
    go_ret
    exact ⟨by rw [Hf.out]; rfl, hbel⟩

end Go.Proofs.Ytanmcbbnnjamoaa

namespace Go.Proofs.Ytanmcbbnnjamoaa
open Go.RowKit

def bothI (f t a b : Int) : Int := max 0 (min t b - max f a)

end Go.Proofs.Ytanmcbbnnjamoaa

namespace Go.Proofs.Ytanmcbbnnjamoaa
open Go.RowKit

theorem firstErr_all {f : Nat → Int} {n : Nat} (h : firstErr f n = 0) : ∀ i, i < n → f i = 0 := by
 induction n with
 | zero => intro i hi; omega
 | succ n ih =>
  intro i hi
  have h0 : firstErr f n = 0 := by
   rcases Classical.em (firstErr f n = 0) with h1 | h1
   ·
    exact h1
   ·
    have := firstErr_stay h1 (Nat.le_succ n)
    rw [this] at h
    exact absurd h h1
  rw [firstErr_step h0] at h
  rcases Nat.lt_or_ge i n with h1 | h1
  ·
   exact ih h0 i h1
  ·
   obtain rfl : i = n := by omega
   exact h

theorem tab_ok {es : List (Rat × Int)} (h : tabErr es = 0) : 0 < es.length ∧ es.length ≤ 16 ∧ ∀ i, i < es.length → 0 ≤ (es.getD i (0, 0)).2 ∧ (es.getD i (0, 0)).2 ≤ 1000 := by
 unfold tabErr at h
 split at h
 ·
  omega
 ·
  rename_i hl
  refine ⟨by omega, by omega, fun i hi => ?_⟩
  have := firstErr_all h i hi
  unfold entErr at this
  split at this
  ·
   omega
  ·
   split at this
   ·
    omega
   ·
    omega

theorem rateUp_range {es : List (Rat × Int)} (h : ∀ i, i < es.length → 0 ≤ (es.getD i (0, 0)).2 ∧ (es.getD i (0, 0)).2 ≤ 1000) (T : Rat) : 0 ≤ rateUp es T ∧ rateUp es T ≤ 1000 := by
 have key : ∀ i, i ≤ es.length → 0 ≤ rateUp (es.take i) T ∧ rateUp (es.take i) T ≤ 1000 := by
  intro i
  induction i with
  | zero => intro _; simp [rateUp]
  | succ i ih =>
   intro hi
   rw [rateUp_take es T i (by omega)]
   split
   ·
    exact h i (by omega)
   ·
    exact ih (by omega)
 have := key es.length (Nat.le_refl _)
 rwa [List.take_length] at this

theorem log_ok {ls : List (Int × Nat)} (h : logErr ls = 0) : ls.length ≤ 256 ∧ ∀ i, i < ls.length → 0 ≤ (ls.getD i (0, 0)).1 ∧ (ls.getD i (0, 0)).1 ≤ 1073741824 ∧ tempOk (ls.getD i (0, 0)).2 = true := by
 unfold logErr at h
 split at h
 ·
  omega
 ·
  refine ⟨by omega, fun i hi => ?_⟩
  have := firstErr_all h i hi
  unfold rdErr at this
  split at this
  ·
   omega
  ·
   rename_i hn
   have h1 : timeB (ls.getD i (0, 0)).1 = true := by
    cases h : timeB (ls.getD i (0, 0)).1
    ·
     exact absurd (.inl h) hn
    ·
     rfl
   have h2 : tempOk (ls.getD i (0, 0)).2 = true := by
    cases h : tempOk (ls.getD i (0, 0)).2
    ·
     exact absurd (.inr h) hn
    ·
     rfl
   unfold timeB at h1
   simp at h1
   exact ⟨h1.1, h1.2, h2⟩

def hotI (es : List (Rat × Int)) : Int := (es.getD (es.length - 1) (0, 0)).2
def rateI (es : List (Rat × Int)) (gap : Int) (ls : List (Int × Nat)) (i : Nat) : Int :=
 if 0 < i ∧ (ls.getD i (0, 0)).1 - (ls.getD (i - 1) (0, 0)).1 ≤ gap then max (rateUp es (tempQ (ls.getD (i - 1) (0, 0)).2)) (rateUp es (tempQ (ls.getD i (0, 0)).2)) else hotI es
def lastT (ls : List (Int × Nat)) (i : Nat) : Int := if i = 0 then 0 else (ls.getD (i - 1) (0, 0)).1
def usedI (es : List (Rat × Int)) (gap : Int) (ls : List (Int × Nat)) (f t : Int) : Nat → Int
 | 0 => 0
 | i + 1 => usedI es gap ls f t i + rateI es gap ls i * bothI f t (lastT ls i) (ls.getD i (0, 0)).1
def usedAll (es : List (Rat × Int)) (gap : Int) (ls : List (Int × Nat)) (f t : Int) : Int :=
 usedI es gap ls f t ls.length + hotI es * bothI f t (lastT ls ls.length) 1073741825

structure GoodLog (es : List (Rat × Int)) (ls : List (Int × Nat)) (f t : Int) : Prop where
 tab : tabErr es = 0
 log : logErr ls = 0
 f0 : 0 ≤ f
 f1 : f ≤ 1073741824
 t0 : 0 ≤ t
 t1 : t ≤ 1073741824

theorem GoodLog.hot {es : List (Rat × Int)} {ls : List (Int × Nat)} {f t : Int} (h : GoodLog es ls f t) : 0 ≤ hotI es ∧ hotI es ≤ 1000 := by
 obtain ⟨h1, h2, h3⟩ := tab_ok h.tab
 exact h3 _ (by omega)
theorem GoodLog.up {es : List (Rat × Int)} {ls : List (Int × Nat)} {f t : Int} (h : GoodLog es ls f t) (T : Rat) : 0 ≤ rateUp es T ∧ rateUp es T ≤ 1000 := rateUp_range (tab_ok h.tab).2.2 T
theorem GoodLog.rate {es : List (Rat × Int)} {ls : List (Int × Nat)} {f t : Int} (h : GoodLog es ls f t) (gap : Int) (i : Nat) : 0 ≤ rateI es gap ls i ∧ rateI es gap ls i ≤ 1000 := by
 unfold rateI
 split
 ·
  have a := h.up (tempQ (ls.getD (i - 1) (0, 0)).2)
  have b := h.up (tempQ (ls.getD i (0, 0)).2)
  omega
 ·
  exact h.hot
theorem GoodLog.last {es : List (Rat × Int)} {ls : List (Int × Nat)} {f t : Int} (h : GoodLog es ls f t) (i : Nat) (hi : i ≤ ls.length) : 0 ≤ lastT ls i ∧ lastT ls i ≤ 1073741824 := by
 unfold lastT
 split
 ·
  omega
 ·
  have := (log_ok h.log).2 (i - 1) (by omega)
  omega
theorem GoodLog.both {es : List (Rat × Int)} {ls : List (Int × Nat)} {f t : Int} (h : GoodLog es ls f t) (a b : Int) : 0 ≤ bothI f t a b ∧ bothI f t a b ≤ 1073741824 := by
 have := h.f0
 have := h.t1
 unfold bothI
 omega
theorem mul_range {x y : Int} (hx0 : 0 ≤ x) (hx : x ≤ 1000) (hy0 : 0 ≤ y) (hy : y ≤ 1073741824) : 0 ≤ x * y ∧ x * y ≤ 1073741824000 := by
 refine ⟨Int.mul_nonneg hx0 hy0, ?_⟩
 have a := Int.mul_le_mul_of_nonneg_right hx hy0
 have b := Int.mul_le_mul_of_nonneg_left hy (show (0 : Int) ≤ 1000 by omega)
 omega
theorem GoodLog.used {es : List (Rat × Int)} {ls : List (Int × Nat)} {f t : Int} (h : GoodLog es ls f t) (gap : Int) (i : Nat) : 0 ≤ usedI es gap ls f t i ∧ usedI es gap ls f t i ≤ 1073741824000 * i := by
 induction i with
 | zero => simp [usedI]
 | succ i ih =>
  have r := h.rate gap i
  have b := h.both (lastT ls i) (ls.getD i (0, 0)).1
  have m := mul_range r.1 r.2 b.1 b.2
  show 0 ≤ usedI es gap ls f t i + rateI es gap ls i * bothI f t (lastT ls i) (ls.getD i (0, 0)).1 ∧ usedI es gap ls f t i + rateI es gap ls i * bothI f t (lastT ls i) (ls.getD i (0, 0)).1 ≤ _
  generalize rateI es gap ls i * bothI f t (lastT ls i) (ls.getD i (0, 0)).1 = z at *
  omega

end Go.Proofs.Ytanmcbbnnjamoaa

namespace Go.Proofs.Ytanmcbbnnjamoaa
open Go.RowKit

theorem jobs_ok {js : List (Int × Int)} {ovens : Int} (h : jobsErr js ovens = 0) : GoodJobs js ovens := by
 unfold jobsErr at h
 split at h
 ·
  omega
 ·
  split at h
  ·
   omega
  ·
   rename_i h1 h2
   refine ⟨by omega, by omega, by omega, fun i hi => ?_⟩
   have := firstErr_all h i hi
   unfold jobErr at this
   split at this
   ·
    omega
   ·
    omega

def idxFrom (js : List (Int × Int)) (r : Int) : Nat → List Nat
 | 0 => []
 | k + 1 => if r ≤ (js.getD k (0, 0)).1 then idxFrom js r k ++ [k] else idxFrom js r k
def sumFrom (js : List (Int × Int)) (r : Int) : Nat → Int
 | 0 => 0
 | k + 1 => if r ≤ (js.getD k (0, 0)).1 then sumFrom js r k + (js.getD k (0, 0)).2 else sumFrom js r k
def timeFrom (js : List (Int × Int)) (ovens r : Int) : Int := r + (sumFrom js r js.length + ovens - 1) / ovens
theorem idxFrom_length (js : List (Int × Int)) (r : Int) (k : Nat) : (idxFrom js r k).length ≤ k := by
 induction k with
 | zero => simp [idxFrom]
 | succ k ih =>
  unfold idxFrom
  split
  ·
   rw [List.length_append]; simp; omega
  ·
   omega
theorem sumFrom_range {js : List (Int × Int)} {ovens : Int} (h : GoodJobs js ovens) (r : Int) (k : Nat) (hk : k ≤ js.length) : 0 ≤ sumFrom js r k ∧ sumFrom js r k ≤ 1000000 * k := by
 induction k with
 | zero => simp [sumFrom]
 | succ k ih =>
  have := ih (by omega)
  have := h.job k (by omega)
  unfold sumFrom
  split <;> omega

theorem info_int : (Try.prog.info? 3).map (fun i => (i.zero, i.size, i.bytes)) = some (some (.int .i64 0), 1, 8) := by kernel_rfl
def idxCells (l : List Nat) : List Value := l.map (fun j : Nat => Value.int .i64 (j : Int))

theorem LRow.isRow {w : World} {base : Nat} {e : TypeId} {v : Value} {l : List Nat} (h : LRow w base e 1 v l.length (idxCells l)) : IsRow .i64 w v l := by
 rcases Nat.eq_zero_or_pos l.length with h0 | hp
 ·
  left
  have hl := List.eq_nil_of_length_eq_zero h0
  refine ⟨hl, ?_⟩
  rcases h.1.2 with ⟨rfl, _⟩ | ⟨g, cap, cur, rfl, _, _, _, hcm, _⟩
  ·
   exact ⟨_, _, rfl, by unfold maxLen; omega, fun _ => rfl⟩
  ·
   exact ⟨_, _, by rw [h0], hcm, by simp⟩
 ·
  obtain ⟨g, cap, rfl⟩ := ownsRow_some h.1 hp
  obtain ⟨ho, h1, h2, _⟩ := Own.of_ownsRow (k := .i64) (ds := l) rfl h.1
  exact ho.isRowCap cap h1 h2

def RetIdx (l : List Nat) (n : Int) (w : World) (e : Ending) (w' : World) : Prop :=
 ∃ v, e = .returned (.tuple #[v, .int .i64 n]) ∧ IsRow .i64 w' v l ∧ Below w.heap.size w w'

theorem ownBlock_base {w : World} {base : Nat} {e : TypeId} {size : Nat} {v : Value} {n : Nat} {xs : List Value} (h : w.ownsRow base e size v n xs) : ∀ k, v.ownBlock = some k → base ≤ k := by
 intro k hk
 rcases h.2 with ⟨rfl, _⟩ | ⟨g, cap, cur, rfl, hb, _⟩
 ·
  simp [Value.ownBlock] at hk
 ·
  simp [Value.ownBlock] at hk
  omega

set_option maxHeartbeats 2000000 in
theorem from_any (js : List (Int × Int)) (ovens r : Int) (vj : Value) (w : World) (hj : PairsOf w vj js) (hg : GoodJobs js ovens) (hr0 : 0 ≤ r) (hr1 : r ≤ 1000000) :
  Calls Try.prog 39 #[vj, .int .i64 ovens, .int .i64 r] w (RetIdx (idxFrom js r js.length) (timeFrom js ovens r) w) := by
 obtain ⟨ao, cap, rfl, hE⟩ := hj
 have HE := Lib.hid hE
 have HG := Lib.hid hg
 have hlen := hg.len
 have ho1 := hg.o1
 have ho8 := hg.o8
 clear hE hg
 obtain ⟨i0, hi0, hz0, hz1, hz2⟩ := info_parts info_int
 have hzd : ∀ u ∈ (Value.int .i64 0).cells.toList, noDig u := by
  intro u hu
  simp [Value.cells] at hu
  rw [hu]
  exact noDig_i64 0
 go_enter Try.func39, Try.ntmps39
 go_wp2_with fail
 go_loopw [8, 9, 14] (fun ov sv iv wr => ∃ (i : Nat), i ≤ js.length ∧ iv = .int .i64 i ∧ sv = .int .i64 (sumFrom js r i) ∧ LRow wr w.heap.size 3 1 ov (idxFrom js r i).length (idxCells (idxFrom js r i)) ∧ Below w.heap.size w wr)
  (fun _ _ iv _ => js.length - (intOf iv).toNat)
 case atStart => exact ⟨0, Nat.zero_le _, rfl, rfl, LRow.nil _ _ _ _, Below.refl _ _⟩
 case round =>
  obtain ⟨i, hi, rfl, rfl, hL, hbel⟩ := hrel
  by_cases hlt : i < js.length
  ·
   obtain ⟨b, off, rfl, hbl, hEE⟩ := HE.out (by omega)
   obtain ⟨g0, g1⟩ := (hEE i hlt).below hbel hbl
   have hlt' : (i : Int) < js.length := by omega
   have hge' : (0 : Int) ≤ i := by omega
   have hbl2 : b < wr.heap.size := Nat.lt_of_lt_of_le hbl hbel.size
   have hjob := HG.out.job i hlt
   have hsum := sumFrom_range HG.out r i hi
   have hil := idxFrom_length js r i
   have Hs1 : Hid (sumFrom js r (i + 1) = if r ≤ (js.getD i (0, 0)).1 then sumFrom js r i + (js.getD i (0, 0)).2 else sumFrom js r i) := rfl
   have Hi1 : Hid (idxFrom js r (i + 1) = if r ≤ (js.getD i (0, 0)).1 then idxFrom js r i ++ [i] else idxFrom js r i) := rfl
   clear hEE
   generalize (js.getD i (0, 0)).1 = rd at *
   generalize (js.getD i (0, 0)).2 = m at *
   have hws : IntKind.i64.wrap (sumFrom js r i + m) = sumFrom js r i + m := IntWalk.i64_in _ (by omega)
   generalize sumFrom js r i = S at *
   by_cases hc : r ≤ rd
   ·
    have tc : decide (rd ≥ r) = true := decide_eq_true hc
    have hS1 := Hs1.out
    have hI1 := Hi1.out
    rw [if_pos hc] at hS1 hI1
    have HS1 := Lib.hid hS1
    have HI1 := Lib.hid hI1
    have hx1 := (Below.refl wr.heap.size wr).alloc (Nat.le_refl _) (.cells #[.int .i64 rd, .int .i64 m] 68)
    have hx2 := hx1.alloc hx1.size (.cells #[.int .i64 (i : Int)] 3)
    have hcn := cell_one_new (wr.alloc (.cells #[.int .i64 rd, .int .i64 m] 68)) (.int .i64 (i : Int)) 3
    rw [World.size_alloc] at hcn
    have HCN := Lib.hid hcn
    have HL2 := Lib.hid (hL.below hx2)
    have hN := blk_new wr #[.int .i64 rd, .int .i64 m] 68
    have hN2 := blk_keep (n := wr.heap.size + 1) hN ((Below.refl _ _).alloc (by simp) (.cells #[.int .i64 (i : Int)] 3)) (by omega)
    have hLlt := Lib.hid (fun g (h : u8.ownBlock = some g) => (hL.lt h).1)
    clear hS1 hI1 Hs1 Hi1 hc hcn hL hx1
    go_wp2_with (at_builtin; refine wpList_append_lrow _ rfl (.tmp 23) (.tmp 25) 64 rfl w.heap.size 3 i0 (.int .i64 0) 1 8 Try.underlying64 hi0 hz0 hz1 hz2 rfl (by decide) hzd _ _ _ rfl HL2.out ⟨wr.heap.size + 1, 0, none⟩ 1 1 [.int .i64 (i : Int)] rfl rfl HCN.out (by simp [Value.oneCell']) (by intro u hu; simp at hu; rw [hu]; exact noDig_i64 _) (by omega) (by unfold maxLen; omega) (by omega) (by simp; have := hbel.size; omega) ?_)
    intro g cap' w3 hL3 hgr hat
    have hsz3 := hgr.size
    rw [World.size_alloc, World.size_alloc] at hsz3
    have hN3 : w3.heap[wr.heap.size]? = some (.cells #[.int .i64 rd, .int .i64 m] 68 (0, 0)) := by
     rw [hgr.block _ (by simp; omega) (fun e => Nat.lt_irrefl _ (hLlt.out _ e.symm))]
     exact hN2
    have m0 := blk_cell hN3 0 (.int .i64 rd) rfl
    have m1 := blk_cell hN3 1 (.int .i64 m) rfl
    have hx3 : Below w.heap.size w w3 := (hbel.trans (hx2.mono hbel.size)).grown hgr (by simp; have := hbel.size; omega) (ownBlock_base HL2.out.1)
    go_wp2_with fail
    exact ⟨⟨i + 1, by omega, by go_num, by rw [HS1.out], by rw [HI1.out]; simpa [idxCells] using hL3, hx3⟩, meas_up hlt⟩
   ·
    have tc : decide (rd ≥ r) = false := decide_eq_false hc
    have hS1 := Hs1.out
    have hI1 := Hi1.out
    rw [if_neg hc] at hS1 hI1
    have HS1 := Lib.hid hS1
    have HI1 := Lib.hid hI1
    have hx1 := (Below.refl wr.heap.size wr).alloc (Nat.le_refl _) (.cells #[.int .i64 rd, .int .i64 m] 68)
    clear hS1 hI1 Hs1 Hi1 hc
    go_wp2_with fail
    exact ⟨⟨i + 1, by omega, by go_num, by rw [HS1.out], by rw [HI1.out]; exact hL.below hx1, hbel.trans (hx1.mono hbel.size)⟩, meas_up hlt⟩
  ·
   obtain rfl : i = js.length := by omega
   have hsum := sumFrom_range HG.out r js.length (Nat.le_refl _)
   have Ht : Hid (timeFrom js ovens r = r + (sumFrom js r js.length + ovens - 1) / ovens) := rfl
   generalize sumFrom js r js.length = S at *
   have hw1 : IntKind.i64.wrap (S + ovens) = S + ovens := IntWalk.i64_in _ (by omega)
   have hw2 : IntKind.i64.wrap (S + ovens - 1) = S + ovens - 1 := IntWalk.i64_in _ (by omega)
   have hne : ovens ≠ 0 := by omega
   have hq0 := Int.ediv_nonneg (show 0 ≤ S + ovens - 1 by omega) (show 0 ≤ ovens by omega)
   have hq1 := Int.ediv_le_self ovens (show 0 ≤ S + ovens - 1 by omega)
   have hw3 : IntKind.i64.wrap (r + (S + ovens - 1) / ovens) = r + (S + ovens - 1) / ovens := IntWalk.i64_in _ (by omega)
   have hw4 : wrap64 (r + (S + ovens - 1) / ovens) = r + (S + ovens - 1) / ovens := (IntWalk.i64_left _).symm.trans hw3
   have HL := Lib.hid hL.isRow
   clear hq0 hq1 hL
   go_wp2_with fail
   go_region
   go_wp2_with fail
   rw [← Ht.out] at *
   go_ret2
   exact ⟨_, rfl, HL.out, hbel.drew⟩

end Go.Proofs.Ytanmcbbnnjamoaa

namespace Go.Proofs.Ytanmcbbnnjamoaa
open Go.RowKit

def bestTo (js : List (Int × Int)) (ovens : Int) : Nat → Int × Int
 | 0 => (-1, 0)
 | k + 1 => if (bestTo js ovens k).1 < timeFrom js ovens (js.getD k (0, 0)).1 ∨ (timeFrom js ovens (js.getD k (0, 0)).1 = (bestTo js ovens k).1 ∧ (js.getD k (0, 0)).1 < (bestTo js ovens k).2)
  then (timeFrom js ovens (js.getD k (0, 0)).1, (js.getD k (0, 0)).1) else bestTo js ovens k
def proofTo (js : List (Int × Int)) (ovens : Int) (k : Nat) : List Nat := if k = 0 then [] else idxFrom js (bestTo js ovens k).2 js.length
def topTo (js : List (Int × Int)) (ovens : Int) : Nat → Int × Option Nat
 | 0 => ((bestTo js ovens js.length).1, none)
 | k + 1 => if (topTo js ovens k).1 < (js.getD k (0, 0)).1 + (js.getD k (0, 0)).2 then ((js.getD k (0, 0)).1 + (js.getD k (0, 0)).2, some k) else topTo js ovens k
def shownBy (js : List (Int × Int)) (ovens : Int) (s : Option Nat) : List Nat := match s with | none => proofTo js ovens js.length | some i => [i]
def boundN (js : List (Int × Int)) (ovens : Int) : Int := if jobsErr js ovens = 0 then max (topTo js ovens js.length).1 0 else 0
def boundL (js : List (Int × Int)) (ovens : Int) : List Nat := if jobsErr js ovens = 0 then shownBy js ovens (topTo js ovens js.length).2 else []

theorem timeFrom_range {js : List (Int × Int)} {ovens : Int} (h : GoodJobs js ovens) {r : Int} (h0 : 0 ≤ r) (h1 : r ≤ 1000000) : 0 ≤ timeFrom js ovens r ∧ timeFrom js ovens r ≤ 100000000 := by
 have hs := sumFrom_range h r js.length (Nat.le_refl _)
 have := h.len
 have := h.o1
 have := h.o8
 have hq0 := Int.ediv_nonneg (show 0 ≤ sumFrom js r js.length + ovens - 1 by omega) (show 0 ≤ ovens by omega)
 have hq1 := Int.ediv_le_self ovens (show 0 ≤ sumFrom js r js.length + ovens - 1 by omega)
 unfold timeFrom
 omega
theorem bestTo_range {js : List (Int × Int)} {ovens : Int} (h : GoodJobs js ovens) (k : Nat) (hk : k ≤ js.length) : -1 ≤ (bestTo js ovens k).1 ∧ (bestTo js ovens k).1 ≤ 100000000 ∧ 0 ≤ (bestTo js ovens k).2 ∧ (bestTo js ovens k).2 ≤ 1000000 := by
 induction k with
 | zero => simp [bestTo]
 | succ k ih =>
  have := ih (by omega)
  have hj := h.job k (by omega)
  have := timeFrom_range h hj.1 hj.2.1
  unfold bestTo
  split
  ·
   dsimp only; omega
  ·
   exact ih (by omega)
theorem topTo_range {js : List (Int × Int)} {ovens : Int} (h : GoodJobs js ovens) (k : Nat) (hk : k ≤ js.length) : -1 ≤ (topTo js ovens k).1 ∧ (topTo js ovens k).1 ≤ 100000000 := by
 induction k with
 | zero => have := bestTo_range h js.length (Nat.le_refl _); exact ⟨this.1, this.2.1⟩
 | succ k ih =>
  have := ih (by omega)
  have hj := h.job k (by omega)
  unfold topTo
  split
  ·
   dsimp only; omega
  ·
   exact ih (by omega)

def RetBound (n : Int) (l : List Nat) (err : Int) (w : World) (e : Ending) (w' : World) : Prop :=
 ∃ v, e = .returned (.tuple #[.int .i64 n, v, .int .i64 err]) ∧ IsRow .i64 w' v l ∧ Below w.heap.size w w'

set_option maxRecDepth 100000 in
set_option maxHeartbeats 4000000 in
theorem bound_any (js : List (Int × Int)) (ovens : Int) (vj : Value) (w : World) (hj : PairsOf w vj js) :
  Calls Try.prog 16 #[vj, .int .i64 ovens] w (RetBound (boundN js ovens) (boundL js ovens) (jobsErr js ovens) w) := by
 have HJ := Lib.hid hj
 obtain ⟨ao, cap, rfl, hE⟩ := hj
 have HE := Lib.hid hE
 clear hE
 by_cases h0 : jobsErr js ovens = 0
 ·
  have t0 : (jobsErr js ovens != 0) = false := by simp [h0]
  have HG := Lib.hid (jobs_ok h0)
  have Hn : Hid (boundN js ovens = max (topTo js ovens js.length).1 0) := by show _ = _; unfold boundN; rw [if_pos h0]
  have Hl : Hid (boundL js ovens = shownBy js ovens (topTo js ovens js.length).2) := by show _ = _; unfold boundL; rw [if_pos h0]
  have hlen := HG.out.len
  have H0 := Lib.hid h0
  clear h0
  go_enter Try.func16, Try.ntmps16
  go_wp2_with fail
  refine (checkJobs_any js ovens _ _ HJ.out).mono ?_
  rintro e w1 ⟨rfl, hb1⟩
  generalize jobsErr js ovens = je at *
  go_wp2_with fail
  go_loopw [8, 9, 10, 25] (fun bv rv pv iv wr => ∃ (i : Nat), i ≤ js.length ∧ iv = .int .i64 i ∧ bv = .int .i64 (bestTo js ovens i).1 ∧ rv = .int .i64 (bestTo js ovens i).2 ∧ IsRow .i64 wr pv (proofTo js ovens i) ∧ Below w.heap.size w wr)
   (fun _ _ _ iv _ => js.length - (intOf iv).toNat)
  case atStart => exact ⟨0, Nat.zero_le _, rfl, rfl, rfl, IsRow.nil _ _, hb1⟩
  case round =>
   clear hb1
   obtain ⟨i, hi, rfl, rfl, rfl, hP, hbel⟩ := hrel
   by_cases hlt : i < js.length
   ·
    obtain ⟨b, off, rfl, hbl, hEE⟩ := HE.out (by omega)
    obtain ⟨g0, g1⟩ := (hEE i hlt).below hbel hbl
    have hlt' : (i : Int) < js.length := by omega
    have hge' : (0 : Int) ≤ i := by omega
    have hbl2 : b < wr.heap.size := Nat.lt_of_lt_of_le hbl hbel.size
    have hjob := HG.out.job i hlt
    have hbr := bestTo_range HG.out i hi
    have Hb1 : Hid (bestTo js ovens (i + 1) = if (bestTo js ovens i).1 < timeFrom js ovens (js.getD i (0, 0)).1 ∨ (timeFrom js ovens (js.getD i (0, 0)).1 = (bestTo js ovens i).1 ∧ (js.getD i (0, 0)).1 < (bestTo js ovens i).2) then (timeFrom js ovens (js.getD i (0, 0)).1, (js.getD i (0, 0)).1) else bestTo js ovens i) := rfl
    have Hp1 : Hid (proofTo js ovens (i + 1) = idxFrom js (bestTo js ovens (i + 1)).2 js.length) := by show _ = _; unfold proofTo; rw [if_neg (by omega)]
    have Hp0 : Hid (0 < i → proofTo js ovens i = idxFrom js (bestTo js ovens i).2 js.length) := fun h => by unfold proofTo; rw [if_neg (by omega)]
    have hb0 : Hid (i = 0 → (bestTo js ovens i).1 = -1) := fun h => by rw [h]; rfl
    have htf := timeFrom_range HG.out hjob.1 hjob.2.1
    have HEE := Lib.hid hEE
    clear hEE
    generalize (js.getD i (0, 0)).1 = r at *
    generalize (js.getD i (0, 0)).2 = m at *
    have hN := blk_new wr #[.int .i64 r, .int .i64 m] 68
    have hal := hbel.alloc hbel.size (.cells #[.int .i64 r, .int .i64 m] 68)
    have HP := Lib.hid (hP.below (((Below.refl wr.heap.size wr).alloc (Nat.le_refl _) (.cells #[.int .i64 r, .int .i64 m] 68))))
    clear hP
    go_wp2_with fail
    refine (from_any js ovens r _ _ (HJ.out.below hal) HG.out hjob.1 hjob.2.1).mono ?_
    rintro e w2 ⟨pv, rfl, hpv, hb2⟩
    have hx2 := hal.trans (hb2.mono hal.size)
    have hN2 := blk_keep hN hb2 (blk_lt hN)
    have m0 := blk_cell hN2 0 (.int .i64 r) rfl
    have HP2 := Lib.hid (HP.out.below hb2)
    have HPV := Lib.hid hpv
    generalize timeFrom js ovens r = n at *
    clear hpv HP hb2 hal hN hN2 g0 g1
    by_cases c1 : (bestTo js ovens i).1 < n
    ·
     have t1 : decide (n > (bestTo js ovens i).1) = true := decide_eq_true c1
     have hB := Hb1.out
     rw [if_pos (.inl c1)] at hB
     have hPn := Hp1.out
     rw [hB] at hPn
     have HB := Lib.hid hB
     have HPn := Lib.hid hPn
     clear hB hPn Hb1 Hp1 Hp0 hb0 c1
     go_wp2_with fail
     go_region
     go_wp2_with fail
     exact ⟨⟨i + 1, by omega, by go_num, by rw [HB.out], by rw [HB.out], by rw [HPn.out]; exact HPV.out, hx2.drew⟩, meas_up hlt⟩
    ·
     have t1 : decide (n > (bestTo js ovens i).1) = false := decide_eq_false c1
     have hi0 : 0 < i := by
      rcases Nat.eq_zero_or_pos i with h | h
      ·
       have := hb0.out h; omega
      ·
       exact h
     by_cases c2 : n = (bestTo js ovens i).1
     ·
      have t2 : (n == (bestTo js ovens i).1) = true := beq_iff_eq.2 c2
      by_cases c3 : r < (bestTo js ovens i).2
      ·
       have t3 : decide (r < (bestTo js ovens i).2) = true := decide_eq_true c3
       have hB := Hb1.out
       rw [if_pos (.inr ⟨c2, c3⟩)] at hB
       have hPn := Hp1.out
       rw [hB] at hPn
       have HB := Lib.hid hB
       have HPn := Lib.hid hPn
       clear hB hPn Hb1 Hp1 Hp0 hb0 c1 c2 c3 hi0
       go_wp2_with fail
       go_region
       go_wp2_with fail
       exact ⟨⟨i + 1, by omega, by go_num, by rw [HB.out], by rw [HB.out], by rw [HPn.out]; exact HPV.out, hx2.drew⟩, meas_up hlt⟩
      ·
       have t3 : decide (r < (bestTo js ovens i).2) = false := decide_eq_false c3
       have hB := Hb1.out
       rw [if_neg (fun h => h.elim c1 (fun h => c3 h.2))] at hB
       have hPn := Hp1.out
       rw [hB, ← Hp0.out hi0] at hPn
       have HB := Lib.hid hB
       have HPn := Lib.hid hPn
       clear hB hPn Hb1 Hp1 Hp0 hb0 c1 c2 c3 hi0
       go_wp2_with fail
       exact ⟨⟨i + 1, by omega, by go_num, by rw [HB.out], by rw [HB.out], by rw [HPn.out]; exact HP2.out, hx2⟩, meas_up hlt⟩
     ·
      have t2 : (n == (bestTo js ovens i).1) = false := beq_eq_false_iff_ne.2 c2
      have hB := Hb1.out
      rw [if_neg (fun h => h.elim c1 (fun h => c2 h.1))] at hB
      have hPn := Hp1.out
      rw [hB, ← Hp0.out hi0] at hPn
      have HB := Lib.hid hB
      have HPn := Lib.hid hPn
      clear hB hPn Hb1 Hp1 Hp0 hb0 c1 c2 hi0
      go_wp2_with fail
      exact ⟨⟨i + 1, by omega, by go_num, by rw [HB.out], by rw [HB.out], by rw [HPn.out]; exact HP2.out, hx2⟩, meas_up hlt⟩
   ·
    obtain rfl : i = js.length := by omega
    have HP := Lib.hid hP
    have HX := Lib.hid hbel
    clear hP
    have hT0 : (bestTo js ovens js.length).1 = (topTo js ovens 0).1 := rfl
    rw [hT0]
    have HS0 : Hid (shownBy js ovens (topTo js ovens 0).2 = proofTo js ovens js.length) := rfl
    clear hT0
    go_wp2_with fail
    go_loopw [8, 10, 58] (fun bv pv iv wq => ∃ (i : Nat), i ≤ js.length ∧ iv = .int .i64 i ∧ bv = .int .i64 (topTo js ovens i).1 ∧ IsRow .i64 wq pv (shownBy js ovens (topTo js ovens i).2) ∧ Below w.heap.size w wq)
     (fun _ _ iv _ => js.length - (intOf iv).toNat)
    case atStart => exact ⟨0, Nat.zero_le _, rfl, rfl, by rw [HS0.out]; exact HP.out, hbel⟩
    case round =>
     clear HP HX HS0 hbel hi hlt
     obtain ⟨i, hi, rfl, rfl, hP, hbel⟩ := hrel
     by_cases hlt : i < js.length
     ·
      obtain ⟨b, off, rfl, hbl, hEE⟩ := HE.out (by omega)
      obtain ⟨g0, g1⟩ := (hEE i hlt).below hbel hbl
      have hlt' : (i : Int) < js.length := by omega
      have hge' : (0 : Int) ≤ i := by omega
      have hbl2 := Nat.lt_of_lt_of_le hbl hbel.size
      have hjob := HG.out.job i hlt
      have htr := topTo_range HG.out i hi
      have Hb1 : Hid (topTo js ovens (i + 1) = if (topTo js ovens i).1 < (js.getD i (0, 0)).1 + (js.getD i (0, 0)).2 then ((js.getD i (0, 0)).1 + (js.getD i (0, 0)).2, some i) else topTo js ovens i) := rfl
      clear hEE
      generalize (js.getD i (0, 0)).1 = r at *
      generalize (js.getD i (0, 0)).2 = m at *
      have hws : IntKind.i64.wrap (r + m) = r + m := IntWalk.i64_in _ (by omega)
      by_cases c1 : (topTo js ovens i).1 < r + m
      ·
       have t1 : decide (r + m > (topTo js ovens i).1) = true := decide_eq_true c1
       have hB := Hb1.out
       rw [if_pos c1] at hB
       have HB := Lib.hid hB
       clear hB Hb1 c1 hP
       go_wp2_with fail
       have hx1 := hbel.alloc hbel.size (.cells #[.int .i64 r, .int .i64 m] 68)
       have hx2 := hx1.alloc hx1.size (.cells #[.int .i64 (i : Int)] 3)
       have hI : IsRow .i64 ((wr.alloc (.cells #[.int .i64 r, .int .i64 m] 68)).alloc (.cells #[.int .i64 (i : Int)] 3)) (.slice (some ⟨wr.heap.size + 1, 0, none⟩) 1 1) [i] :=
        .inr ⟨by simp, wr.heap.size + 1, 0, 1, rfl, by simp, by unfold maxLen; omega, by simp, fun j hj => by
         obtain rfl : j = 0 := by simp at hj; omega
         simp⟩
       exact ⟨⟨i + 1, by omega, by go_num, by rw [HB.out], by rw [HB.out]; exact hI, hx2⟩, meas_up hlt⟩
      ·
       have t1 : decide (r + m > (topTo js ovens i).1) = false := decide_eq_false c1
       have hB := Hb1.out
       rw [if_neg c1] at hB
       have HB := Lib.hid hB
       clear hB Hb1 c1
       go_wp2_with fail
       have hx1 := (Below.refl wr.heap.size wr).alloc (Nat.le_refl _) (.cells #[.int .i64 r, .int .i64 m] 68)
       exact ⟨⟨i + 1, by omega, by go_num, by rw [HB.out], by rw [HB.out]; exact hP.below hx1, hbel.trans (hx1.mono hbel.size)⟩, meas_up hlt⟩
     ·
      obtain rfl : i = js.length := by omega
      have HP := Lib.hid hP
      clear hP
      go_wp2_with fail
      go_ret3
      exact ⟨_, by rw [Hn.out, H0.out]; rfl, by rw [Hl.out]; exact HP.out, hbel⟩
 ·
  have t0 : (jobsErr js ovens != 0) = true := by simp [h0]
  have Hn : Hid (boundN js ovens = 0) := by show _ = _; unfold boundN; rw [if_neg h0]
  have Hl : Hid (boundL js ovens = []) := by show _ = _; unfold boundL; rw [if_neg h0]
  clear h0
  go_enter Try.func16, Try.ntmps16
  go_wp2_with fail
  refine (checkJobs_any js ovens _ _ HJ.out).mono ?_
  rintro e w1 ⟨rfl, hb1⟩
  generalize jobsErr js ovens = je at *
  go_wp2_with fail
  go_ret3
  exact ⟨.slice none 0 0, by rw [Hn.out]; rfl, by rw [Hl.out]; exact IsRow.nil _ _, hb1⟩

end Go.Proofs.Ytanmcbbnnjamoaa

namespace Go.Proofs.Ytanmcbbnnjamoaa
open Go.RowKit

theorem IsRat.grown {w w' : World} {v : Value} {q : Rat} {row : Option Nat} (h : IsRat w v q) (hg : w.grownBy w' row) (hr : ∀ g, row = some g → NoDig w g) : IsRat w' v q := by
 obtain ⟨vn, vd, rfl, h1, h2⟩ := h
 exact ⟨vn, vd, rfl, IsRow.grown (.inl rfl) h1 hg hr, IsRow.grown (.inl rfl) h2 hg hr⟩
theorem IsR.grown {w w' : World} {v : Value} {q : Rat} {row : Option Nat} (h : IsR w v q) (hg : w.grownBy w' row) (hr : ∀ g, row = some g → NoDig w g) : IsR w' v q := by
 obtain ⟨vn, vd, d', rfl, h1, h2, h3⟩ := h
 exact ⟨vn, vd, d', rfl, IsRow.grown (.inr rfl) h1 hg hr, IsRow.grown (.inr rfl) h2 hg hr, h3⟩

def TabRow (R : World → Value → Rat → Prop) (w : World) (xs : List Value) (es : List (Rat × Int)) : Prop :=
 xs.length = es.length * 4 ∧ ∀ j, j < es.length → ∃ v0 vn vd, xs[j * 4]? = some v0 ∧ xs[j * 4 + 1]? = some vn ∧ xs[j * 4 + 2]? = some vd ∧ xs[j * 4 + 3]? = some (.int .i64 (es.getD j (0, 0)).2) ∧ R w (.agg #[v0, vn, vd]) (es.getD j (0, 0)).1
theorem TabRow.mono {R : World → Value → Rat → Prop} {w w' : World} {xs : List Value} {es : List (Rat × Int)} (h : TabRow R w xs es) (hr : ∀ v q, R w v q → R w' v q) : TabRow R w' xs es :=
 ⟨h.1, fun j hj => by obtain ⟨v0, vn, vd, h0, h1, h2, h3, h4⟩ := h.2 j hj; exact ⟨v0, vn, vd, h0, h1, h2, h3, hr _ _ h4⟩⟩
theorem TabRow.nil (R : World → Value → Rat → Prop) (w : World) : TabRow R w [] [] := ⟨rfl, fun j hj => absurd hj (by simp)⟩
theorem TabRow.snoc {R : World → Value → Rat → Prop} {w : World} {xs : List Value} {es : List (Rat × Int)} (h : TabRow R w xs es) {v0 vn vd : Value} {q : Rat} {r : Int} (hq : R w (.agg #[v0, vn, vd]) q) :
  TabRow R w (xs ++ [v0, vn, vd, .int .i64 r]) (es ++ [(q, r)]) := by
 obtain ⟨hl, h⟩ := h
 refine ⟨by simp [hl]; omega, fun j hj => ?_⟩
 rcases Nat.lt_or_ge j es.length with h1 | h1
 ·
  obtain ⟨u0, un, ud, h0, h2, h3, h4, h5⟩ := h j h1
  have e : ∀ k, k < 4 → (xs ++ [v0, vn, vd, .int .i64 r])[j * 4 + k]? = xs[j * 4 + k]? := fun k hk => List.getElem?_append_left (by omega)
  have e2 : (es ++ [(q, r)]).getD j (0, 0) = es.getD j (0, 0) := by simp [List.getD, List.getElem?_append_left h1]
  rw [e2]
  exact ⟨u0, un, ud, by rw [← h0]; exact e 0 (by omega), by rw [← h2]; exact e 1 (by omega), by rw [← h3]; exact e 2 (by omega), by rw [← h4]; exact e 3 (by omega), h5⟩
 ·
  obtain rfl : j = es.length := by simp at hj; omega
  have e : ∀ k, (xs ++ [v0, vn, vd, .int .i64 r])[es.length * 4 + k]? = ([v0, vn, vd, .int .i64 r] : List Value)[k]? := fun k => by rw [List.getElem?_append_right (by omega), hl]; congr 1; omega
  have e2 : (es ++ [(q, r)]).getD es.length (0, 0) = (q, r) := by simp [List.getD]
  rw [e2]
  exact ⟨v0, vn, vd, e 0, e 1, e 2, e 3, hq⟩
theorem EntsOf.ofRow {R : World → Value → Rat → Prop} {w : World} {base : Nat} {e : TypeId} {v : Value} {xs : List Value} {es : List (Rat × Int)} (h : LRow w base e 4 v es.length xs) (ht : TabRow R w xs es) : EntsOf R w v es := by
 rcases Nat.eq_zero_or_pos es.length with h0 | hp
 ·
  rcases h.1.2 with ⟨rfl, _⟩ | ⟨g, cap, cur, rfl, _⟩
  ·
   exact ⟨none, 0, by rw [h0], fun h => absurd h (by omega)⟩
  ·
   exact ⟨_, _, rfl, fun h => absurd h (by omega)⟩
 ·
  obtain ⟨g, cap, rfl⟩ := ownsRow_some h.1 hp
  have hc : ∀ j u, xs[j]? = some u → w.cell? ((⟨g, 0, none⟩ : Addr).add j) = some u := h.1.cells (g := g) rfl
  have hlt : g < w.heap.size := (h.lt rfl).1
  refine ⟨_, _, rfl, fun _ => ⟨g, 0, rfl, hlt, fun i hi => ?_⟩⟩
  obtain ⟨v0, vn, vd, h0, h1, h2, h3, h4⟩ := ht.2 i hi
  have ea : ∀ j, (⟨g, 0, none⟩ : Addr).add j = ⟨g, 0 + j, none⟩ := fun j => by unfold Addr.add; split <;> simp_all
  refine ⟨v0, vn, vd, ?_, ?_, ?_, ?_, h4⟩
  ·
   rw [← ea]; exact hc _ _ h0
  ·
   rw [show 0 + i * 4 + 1 = 0 + (i * 4 + 1) by omega, ← ea]; exact hc _ _ h1
  ·
   rw [show 0 + i * 4 + 2 = 0 + (i * 4 + 2) by omega, ← ea]; exact hc _ _ h2
  ·
   rw [show 0 + i * 4 + 3 = 0 + (i * 4 + 3) by omega, ← ea]; exact hc _ _ h3

theorem LRow.apart {w : World} {base : Nat} {eA eB : TypeId} {sA sB : Nat} {va vb : Value} {n m : Nat} {xs ys : List Value} (h : LRow w base eA sA va n xs) (k : LRow w base eB sB vb m ys) (hne : eA ≠ eB) : ∀ g, vb.ownBlock = some g → some g ≠ va.ownBlock := by
 intro g hg e
 rcases h.1.2 with ⟨rfl, _⟩ | ⟨g1, c1, cur1, rfl, _, hh1, _⟩
 ·
  simp [Value.ownBlock] at e
 ·
  rcases k.1.2 with ⟨rfl, _⟩ | ⟨g2, c2, cur2, rfl, _, hh2, _⟩
  ·
   simp [Value.ownBlock] at hg
  ·
   simp [Value.ownBlock] at e hg
   subst e hg
   rw [hh1] at hh2
   simp at hh2
   exact hne hh2.2

structure TS (w0 w : World) (va vb : Value) (xsA xsB : List Value) (esA esB : List (Rat × Int)) : Prop where
 x : Below w0.heap.size w0 w
 la : LRow w w0.heap.size 63 4 va esA.length xsA
 lb : LRow w w0.heap.size 107 4 vb esB.length xsB
 ta : TabRow IsRat w xsA esA
 tb : TabRow IsR w xsB esB
theorem TS.below {w0 w w' : World} {va vb : Value} {xsA xsB : List Value} {esA esB : List (Rat × Int)} (h : TS w0 w va vb xsA xsB esA esB) (hb : Below w.heap.size w w') : TS w0 w' va vb xsA xsB esA esB :=
 ⟨ext_trans h.x hb, h.la.below hb, h.lb.below hb, h.ta.mono fun _ _ hr => hr.below hb, h.tb.mono fun _ _ hr => hr.below hb⟩
theorem TS.alloc {w0 w : World} {va vb : Value} {xsA xsB : List Value} {esA esB : List (Rat × Int)} (h : TS w0 w va vb xsA xsB esA esB) (o : Obj) : TS w0 (w.alloc o) va vb xsA xsB esA esB := h.below ((Below.refl _ _).alloc (Nat.le_refl _) _)
theorem TS.appendA {w0 w w' : World} {va va' vb : Value} {xsA xsB : List Value} {esA esB : List (Rat × Int)} (h : TS w0 w va vb xsA xsB esA esB) {v0 v1 v2 : Value} {q : Rat} {r : Int} (hq : IsRat w (.agg #[v0, v1, v2]) q)
  (hL : LRow w' w0.heap.size 63 4 va' (esA.length + 1) (xsA ++ [v0, v1, v2, .int .i64 r])) (hg : w.grownBy w' va.ownBlock) : TS w0 w' va' vb (xsA ++ [v0, v1, v2, .int .i64 r]) xsB (esA ++ [(q, r)]) esB := by
 have hnd : ∀ g, va.ownBlock = some g → NoDig w g := h.la.2
 exact ⟨h.x.grown hg h.x.size (ownBlock_base h.la.1), by rw [List.length_append]; exact hL, h.lb.grown hg (LRow.apart h.la h.lb (by decide)), (h.ta.mono fun _ _ hr => hr.grown hg hnd).snoc (hq.grown hg hnd), h.tb.mono fun _ _ hr => hr.grown hg hnd⟩
theorem TS.appendB {w0 w w' : World} {va vb' vb : Value} {xsA xsB : List Value} {esA esB : List (Rat × Int)} (h : TS w0 w va vb xsA xsB esA esB) {v0 v1 v2 : Value} {q : Rat} {r : Int} (hq : IsR w (.agg #[v0, v1, v2]) q)
  (hL : LRow w' w0.heap.size 107 4 vb' (esB.length + 1) (xsB ++ [v0, v1, v2, .int .i64 r])) (hg : w.grownBy w' vb.ownBlock) : TS w0 w' va vb' xsA (xsB ++ [v0, v1, v2, .int .i64 r]) esA (esB ++ [(q, r)]) := by
 have hnd : ∀ g, vb.ownBlock = some g → NoDig w g := h.lb.2
 exact ⟨h.x.grown hg h.x.size (ownBlock_base h.lb.1), h.la.grown hg (LRow.apart h.lb h.la (by decide)), by rw [List.length_append]; exact hL, h.ta.mono fun _ _ hr => hr.grown hg hnd, (h.tb.mono fun _ _ hr => hr.grown hg hnd).snoc (hq.grown hg hnd)⟩

theorem cell_new4 (w : World) (a b c d : Value) (t : TypeId) : ∀ j u, [a, b, c, d][j]? = some u → (w.alloc (.cells #[a, b, c, d] t)).cell? ((⟨w.heap.size, 0, none⟩ : Addr).add j) = some u := by
 intro j u hj
 match j, hj with
 | 0, hj => simp at hj; subst hj; simp [Addr.add]
 | 1, hj => simp at hj; subst hj; simp [Addr.add]
 | 2, hj => simp at hj; subst hj; simp [Addr.add]
 | 3, hj => simp at hj; subst hj; simp [Addr.add]
 | j + 4, hj => simp at hj

theorem info_entry : (Try.prog.info? 63).map (fun i => (i.zero, i.size, i.bytes)) = some (some (.agg #[.bool false, .slice none 0 0, .slice none 0 0, .int .i64 0]), 4, 64) := by kernel_rfl
theorem info_qentry : (Try.prog.info? 107).map (fun i => (i.zero, i.size, i.bytes)) = some (some (.agg #[.bool false, .slice none 0 0, .slice none 0 0, .int .i64 0]), 4, 64) := by kernel_rfl

def boxE (n d r : Int) (B : Nat) (w : World) : Prop := w.heap[B]? = some (.cells #[.int .i64 n, .int .i64 d, .int .i64 r] 75 (0, 0))
theorem boxE.all {n d r : Int} {B : Nat} {w : World} (h : boxE n d r B w) : boxE n d r B w ∧ w.cell? ⟨B, 0, none⟩ = some (.int .i64 n) ∧ w.cell? ⟨B, 1, none⟩ = some (.int .i64 d) ∧ w.cell? ⟨B, 2, none⟩ = some (.int .i64 r) :=
 ⟨h, blk_cell h 0 _ rfl, blk_cell h 1 _ rfl, blk_cell h 2 _ rfl⟩
theorem boxE.below {n d r : Int} {B : Nat} {a b : World} (hb : Below a.heap.size a b) (h : boxE n d r B a ∧ a.cell? ⟨B, 0, none⟩ = some (.int .i64 n) ∧ a.cell? ⟨B, 1, none⟩ = some (.int .i64 d) ∧ a.cell? ⟨B, 2, none⟩ = some (.int .i64 r)) : boxE n d r B b ∧ b.cell? ⟨B, 0, none⟩ = some (.int .i64 n) ∧ b.cell? ⟨B, 1, none⟩ = some (.int .i64 d) ∧ b.cell? ⟨B, 2, none⟩ = some (.int .i64 r) :=
 boxE.all (blk_keep h.1 hb (blk_lt h.1))
theorem boxE.grown {n d r : Int} {B : Nat} {a b : World} {row : Option Nat} (hg : a.grownBy b row) (hne : some B ≠ row) (h : boxE n d r B a ∧ a.cell? ⟨B, 0, none⟩ = some (.int .i64 n) ∧ a.cell? ⟨B, 1, none⟩ = some (.int .i64 d) ∧ a.cell? ⟨B, 2, none⟩ = some (.int .i64 r)) : boxE n d r B b ∧ b.cell? ⟨B, 0, none⟩ = some (.int .i64 n) ∧ b.cell? ⟨B, 1, none⟩ = some (.int .i64 d) ∧ b.cell? ⟨B, 2, none⟩ = some (.int .i64 r) :=
 boxE.all ((hg.block B (blk_lt h.1) hne).trans h.1)

def LawAt (w : World) (b o : Nat) (t : Int × Int × Int) : Prop := w.cell? ⟨b, o, none⟩ = some (.int .i64 t.1) ∧ w.cell? ⟨b, o + 1, none⟩ = some (.int .i64 t.2.1) ∧ w.cell? ⟨b, o + 2, none⟩ = some (.int .i64 t.2.2)
def LawsOf (w : World) (v : Value) (ts : List (Int × Int × Int)) : Prop :=
 ∃ ao cap, v = .slice ao ts.length cap ∧ (0 < ts.length → ∃ b off, ao = some ⟨b, off, none⟩ ∧ b < w.heap.size ∧ ∀ i, i < ts.length → LawAt w b (off + i * 3) (ts.getD i (0, 0, 0)))
theorem LawAt.below {w w' : World} {b o : Nat} {r : Int × Int × Int} (h : LawAt w b o r) (hb : Below w.heap.size w w') (hl : b < w.heap.size) : LawAt w' b o r :=
 ⟨(hb.cell (p := ⟨b, o, none⟩) hl).trans h.1, (hb.cell (p := ⟨b, o + 1, none⟩) hl).trans h.2.1, (hb.cell (p := ⟨b, o + 2, none⟩) hl).trans h.2.2⟩
theorem LawsOf.below {w w' : World} {v : Value} {ps : List (Int × Int × Int)} (h : LawsOf w v ps) (hb : Below w.heap.size w w') : LawsOf w' v ps := by
 obtain ⟨ao, cap, rfl, h⟩ := h
 refine ⟨ao, cap, rfl, fun hl => ?_⟩
 obtain ⟨b, off, rfl, hlt, h⟩ := h hl
 exact ⟨b, off, rfl, Nat.lt_of_lt_of_le hlt hb.size, fun i hi => (h i hi).below hb hlt⟩
def i64R (n : Int) : Prop := -9223372036854775808 ≤ n ∧ n ≤ 9223372036854775807
def lawsE (ts : List (Int × Int × Int)) : List (Rat × Int) := ts.map fun t => (fracQ t.1 t.2.1, t.2.2)
theorem lawsE_take (ts : List (Int × Int × Int)) (i : Nat) (hi : i < ts.length) : lawsE (ts.take (i + 1)) = lawsE (ts.take i) ++ [(fracQ (ts.getD i (0, 0, 0)).1 (ts.getD i (0, 0, 0)).2.1, (ts.getD i (0, 0, 0)).2.2)] := by
 unfold lawsE
 rw [List.take_add_one, List.map_append]
 simp [hi]
theorem lawsE_length (ts : List (Int × Int × Int)) (i : Nat) (hi : i ≤ ts.length) : (lawsE (ts.take i)).length = i := by simp [lawsE]; omega

def RetTab (ts : List (Int × Int × Int)) (w : World) (e : Ending) (w' : World) : Prop :=
 ∃ va vb, e = .returned (.tuple #[va, vb, .bool true]) ∧ EntsOf IsRat w' va (lawsE ts) ∧ EntsOf IsR w' vb (lawsE ts) ∧ Below w.heap.size w w'
set_option maxRecDepth 100000 in
set_option maxHeartbeats 4000000 in
theorem table_any (ts : List (Int × Int × Int)) (v : Value) (w : World) (h : LawsOf w v ts) (hl : ts.length ≤ 20) (hr : ∀ i, i < ts.length → i64R (ts.getD i (0, 0, 0)).1 ∧ i64R (ts.getD i (0, 0, 0)).2.1) : Calls Try.prog 17 #[v] w (RetTab ts w) := by
 obtain ⟨ao, cap, rfl, hE⟩ := h
 have HE := Lib.hid hE
 have HR := Lib.hid hr
 have t1 : decide ((ts.length : Int) > 20) = false := by simp; omega
 obtain ⟨iA, hiA, hzA, hsA, hyA⟩ := info_parts info_entry
 obtain ⟨iB, hiB, hzB, hsB, hyB⟩ := info_parts info_qentry
 have hzd : ∀ u ∈ (Value.agg #[.bool false, .slice none 0 0, .slice none 0 0, .int .i64 0]).cells.toList, noDig u := by
  intro u hu
  simp [Value.cells] at hu
  rcases hu with rfl | rfl | rfl
  ·
   exact noDig_bool _
  ·
   exact noDig_slice _ _ _
  ·
   exact noDig_i64 _
 clear hE hr
 go_enter Try.func17, Try.ntmps17
 go_wp2_with fail
 go_loopw [5, 6, 14] (fun va vb iv wr => ∃ (i : Nat) (xsA xsB : List Value), i ≤ ts.length ∧ iv = .int .i64 i ∧ TS w wr va vb xsA xsB (lawsE (ts.take i)) (lawsE (ts.take i)))
  (fun _ _ iv _ => ts.length - (intOf iv).toNat)
 case atStart => exact ⟨0, [], [], Nat.zero_le _, rfl, Below.refl _ _, LRow.nil _ _ _ _, LRow.nil _ _ _ _, TabRow.nil _ _, TabRow.nil _ _⟩
 case round =>
  obtain ⟨i, xsA, xsB, hi, rfl, hT⟩ := hrel
  have HT := Lib.hid hT
  by_cases hlt : i < ts.length
  ·
   obtain ⟨b, off, rfl, hbl, hEE⟩ := HE.out (by omega)
   obtain ⟨g0, g1, g2⟩ := (hEE i hlt).below hT.x hbl
   have hlt' : (i : Int) < ts.length := by omega
   have hge' : (0 : Int) ≤ i := by omega
   have hbl2 : b < wr.heap.size := Nat.lt_of_lt_of_le hbl hT.x.size
   have Htk := Lib.hid (lawsE_take ts i hlt)
   have hln := lawsE_length ts i hi
   have hrr := Lib.hid (HR.out i hlt)
   clear hEE hT
   generalize (ts.getD i (0, 0, 0)).1 = n at *
   generalize (ts.getD i (0, 0, 0)).2.1 = d at *
   generalize (ts.getD i (0, 0, 0)).2.2 = r at *
   generalize lawsE (ts.take i) = es at *
   have hes : es.length ≤ 20 := by omega
   clear hln
   have hN : boxE n d r wr.heap.size (wr.alloc (.cells #[.int .i64 n, .int .i64 d, .int .i64 r] 75)).drew := blk_new wr #[.int .i64 n, .int .i64 d, .int .i64 r] 75
   have HT0 := Lib.hid (HT.out.below (((Below.refl wr.heap.size wr).alloc (Nat.le_refl _) (.cells #[.int .i64 n, .int .i64 d, .int .i64 r] 75)).drew))
   have hAlt := Lib.hid (fun g (hg : u5.ownBlock = some g) => (HT.out.la.lt hg).1)
   have hBlt := Lib.hid (fun g (hg : u6.ownBlock = some g) => (HT.out.lb.lt hg).1)
   go_wp2_with fail
   go_region_held3 (fun w' => boxE n d r wr.heap.size w' ∧ w'.cell? ⟨wr.heap.size, 0, none⟩ = some (.int .i64 n) ∧ w'.cell? ⟨wr.heap.size, 1, none⟩ = some (.int .i64 d) ∧ w'.cell? ⟨wr.heap.size, 2, none⟩ = some (.int .i64 r))
    (first | exact hN.all | assumption | (refine boxE.below hbA ?_; assumption) | (refine boxE.below hbB ?_; assumption) | (refine boxE.below ((Below.refl _ _).alloc (Nat.le_refl _) _) ?_; assumption) | (refine boxE.grown hgrA (fun e => Nat.lt_irrefl _ (hAlt.out _ e.symm)) ?_; assumption) | (refine boxE.grown hgrB (fun e => Nat.lt_irrefl _ (hBlt.out _ e.symm)) ?_; assumption))
    (first
     | (go_at_call 40; refine (of_any n d _ hrr.out.1.1 hrr.out.1.2 hrr.out.2.1 hrr.out.2.2).mono ?_; rintro e wA ⟨vA, rfl, hvA, hbA⟩; obtain ⟨a1, c1, a2, c2, rfl, _, _⟩ := hvA.opened; have HVA := Lib.hid hvA; have HT1 := Lib.hid (HT0.out.below hbA); clear hvA)
     | (go_at_call 41; refine (qof_any n d _ hrr.out.1.1 hrr.out.1.2 hrr.out.2.1 hrr.out.2.2).mono ?_; rintro e wB ⟨vB, rfl, hvB, hbB⟩; obtain ⟨dB, a3, c3, a4, c4, rfl, _, _, _⟩ := hvB.opened; have HVB := Lib.hid hvB; have HT4 := Lib.hid (HT3.out.below hbB); clear hvB)
     | (refine step_append_lrow _ rfl (.tmp 18) (.tmp 25) 25 rfl w.heap.size 63 iA _ 4 64 Try.underlying25 hiA hzA hsA hyA rfl (by decide) hzd _ _ _ rfl (HT1.out.alloc _).la ⟨wA.heap.size, 0, none⟩ 1 1 [.bool (decide ((fracQ n d).num < 0)), .slice a1 (dig b64 (fracQ n d).num.natAbs).length c1, .slice a2 (dig b64 (dn (fracQ n d).den)).length c2, .int .i64 r] rfl rfl (cell_new4 _ _ _ _ _ _) (by simp [Value.oneCell']) (by intro u hu; simp at hu; rcases hu with rfl | rfl | rfl | rfl; exact noDig_bool _; exact noDig_slice _ _ _; exact noDig_slice _ _ _; exact noDig_i64 _) (by omega) (by unfold maxLen; omega) (by omega) (HT1.out.alloc _).x.size ?_; intro gA capA w3 hL3 hgrA hatA; have HT3 := Lib.hid ((HT1.out.alloc _).appendA (HVA.out.below ((Below.refl _ _).alloc (Nat.le_refl _) _)) hL3 hgrA))
     | (refine step_append_lrow _ rfl (.tmp 27) (.tmp 34) 26 rfl w.heap.size 107 iB _ 4 64 Try.underlying26 hiB hzB hsB hyB rfl (by decide) hzd _ _ _ rfl (HT4.out.alloc _).lb ⟨wB.heap.size, 0, none⟩ 1 1 [.bool (decide ((fracQ n d).num < 0)), .slice a3 (dig b32 (fracQ n d).num.natAbs).length c3, .slice a4 (dig b32 dB).length c4, .int .i64 r] rfl rfl (cell_new4 _ _ _ _ _ _) (by simp [Value.oneCell']) (by intro u hu; simp at hu; rcases hu with rfl | rfl | rfl | rfl; exact noDig_bool _; exact noDig_slice _ _ _; exact noDig_slice _ _ _; exact noDig_i64 _) (by omega) (by unfold maxLen; omega) (by omega) (HT4.out.alloc _).x.size ?_; intro gB capB w6 hL6 hgrB hatB; have HT6 := Lib.hid ((HT4.out.alloc _).appendB (HVB.out.below ((Below.refl _ _).alloc (Nat.le_refl _) _)) hL6 hgrB)))
   clear HT HT0 HT1 HT3 HT4 HVA HVB hL3 hL6 hgrA hgrB
   go_wp2_with fail
   exact ⟨⟨i + 1, _, _, by omega, by go_num, by rw [Htk.out]; exact HT6.out⟩, meas_up hlt⟩
  ·
   obtain rfl : i = ts.length := by omega
   rw [List.take_length] at hT HT
   have hln : (lawsE ts).length = ts.length := by simp [lawsE]
   clear hT
   go_wp2_with fail
   go_ret3
   exact ⟨_, _, rfl, EntsOf.ofRow HT.out.la HT.out.ta, EntsOf.ofRow HT.out.lb HT.out.tb, HT.out.x⟩

end Go.Proofs.Ytanmcbbnnjamoaa
