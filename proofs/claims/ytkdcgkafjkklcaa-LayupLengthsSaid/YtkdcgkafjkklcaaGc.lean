/- Part c of the lemmas and walks. -/
import Derived.Deep.RegionHeld3
import Derived.Test.YtkdcgkafjkklcaaGa
import Derived.Test.YtkdcgkafjkklcaaGb

/- THE WALKS OF ratio's FRACTIONS, part B: size, Int, New, Zero, Sign, Cmp. -/
namespace Go.Proofs.Ytkdcgkafjkklcaa
open Go.RowKit

set_option maxHeartbeats 1000000 in
theorem size_any (n : Int) (w : World) (h1 : -9223372036854775808 ≤ n) (h2 : n ≤ 9223372036854775807) : Calls Try.prog 74 #[.int .i64 n] w (RetNat .u64 b64 n.natAbs w) := by
  have hb : n.natAbs < b64 := by unfold b64; omega
  by_cases hn : n < 0
  · have e1 : IntKind.u64.wrap (-(IntKind.u64.wrap n)) = ((n.natAbs : Nat) : Int) := by
      rw [IntKind.wrap_u64, IntKind.wrap_u64]; omega
    go_enter Try.func74, Try.ntmps74
    go_wp2_with fail
    refine (word_any n.natAbs _ hb).mono ?_
    rintro e w' ⟨v, rfl, hv, hb'⟩
    go_wp2_with fail
    go_ret
    exact ⟨_, rfl, hv, hb'⟩
  · have e1 : IntKind.u64.wrap n = ((n.natAbs : Nat) : Int) := by
      rw [IntKind.wrap_u64]; omega
    go_enter Try.func74, Try.ntmps74
    go_wp2_with fail
    refine (word_any n.natAbs _ hb).mono ?_
    rintro e w' ⟨v, rfl, hv, hb'⟩
    go_wp2_with fail
    go_ret
    exact ⟨_, rfl, hv, hb'⟩

set_option maxHeartbeats 1000000 in
theorem zero_any (b : Bool) (a1 : Option Addr) (n c1 : Nat) (a2 : Option Addr) (l2 c2 : Nat) (w : World) :
    Calls Try.prog 63 #[.agg #[.bool b, .slice a1 (dig b64 n).length c1, .slice a2 l2 c2]] w (RetBool (decide (n = 0)) w) := by
  have e : ((((dig b64 n).length : Nat) : Int) == 0) = decide (n = 0) := by
    rw [Bool.eq_iff_iff]
    simp only [beq_iff_eq, decide_eq_true_eq]
    rw [← dig_nil_iff b64_two n]
    constructor
    · intro h; exact List.eq_nil_of_length_eq_zero (by omega)
    · intro h; rw [h]; rfl
  rw [← e]
  clear e
  go_enter Try.func63, Try.ntmps63
  go_wp2_with fail
  go_ret
  exact ⟨rfl, (Below.refl _ _).alloc (Nat.le_refl _) _⟩

def sgnI (b : Bool) (n : Nat) : Int := if b then -1 else if n = 0 then 0 else 1

set_option maxHeartbeats 1000000 in
theorem sign_any (b : Bool) (a1 : Option Addr) (n c1 : Nat) (a2 : Option Addr) (l2 c2 : Nat) (w : World) :
    Calls Try.prog 69 #[.agg #[.bool b, .slice a1 (dig b64 n).length c1, .slice a2 l2 c2]] w (RetInt (sgnI b n) w) := by
  have hal : Below w.heap.size w (w.alloc (.cells #[.bool b, .slice a1 (dig b64 n).length c1, .slice a2 l2 c2] 50)) := (Below.refl _ _).alloc (Nat.le_refl _) _
  cases b with
  | true =>
    have Hs : Hid (sgnI true n = -1) := rfl
    go_enter Try.func69, Try.ntmps69
    go_wp2_with fail
    go_ret
    exact ⟨by rw [Hs.out]; rfl, hal⟩
  | false =>
    by_cases hn : n = 0
    · have t : decide (n = 0) = true := by simp [hn]
      have Hs : Hid (sgnI false n = 0) := by show sgnI false n = 0; simp [sgnI, hn]
      clear hn
      go_enter Try.func69, Try.ntmps69
      go_wp2_with fail
      refine (zero_any _ _ n _ _ _ _ _).mono ?_
      rw [t]
      rintro e w' ⟨rfl, hb⟩
      go_wp2_with fail
      go_ret
      exact ⟨by rw [Hs.out]; rfl, ext_trans hal hb⟩
    · have t : decide (n = 0) = false := by simp [hn]
      have Hs : Hid (sgnI false n = 1) := by show sgnI false n = 1; simp [sgnI, hn]
      clear hn
      go_enter Try.func69, Try.ntmps69
      go_wp2_with fail
      refine (zero_any _ _ n _ _ _ _ _).mono ?_
      rw [t]
      rintro e w' ⟨rfl, hb⟩
      go_wp2_with fail
      go_ret
      exact ⟨by rw [Hs.out]; rfl, ext_trans hal hb⟩


theorem i64_rat (n : Int) : ((n : Rat).num < 0 ↔ n < 0) := by simp

set_option maxHeartbeats 1000000 in
theorem int_any (n : Int) (w : World) (h1 : -9223372036854775808 ≤ n) (h2 : n ≤ 9223372036854775807) : Calls Try.prog 37 #[.int .i64 n] w (RetRat (n : Rat) w) := by
  have hal : Below w.heap.size w (w.alloc (.cells #[.bool false, .slice none 0 0, .slice none 0 0] 50)) := (Below.refl _ _).alloc (Nat.le_refl _) _
  have hB0 := blk_new w #[.bool false, .slice none 0 0, .slice none 0 0] 50
  go_enter Try.func37, Try.ntmps37
  go_wp2_with fail
  refine (size_any n _ h1 h2).mono ?_
  rintro e w3 ⟨v, rfl, hv, hb⟩
  have hx3 := ext_trans hal hb
  have hB3 := blk_keep hB0 hb (by simp)
  have Hv := Lib.hid hv
  obtain ⟨a1, c1, rfl, _⟩ := IsRow.opened hv
  clear hv hal hB0 hb
  have hBl := blk_lt hB3
  have c0 := blk_cell hB3 0 (.bool false) rfl
  have c1 := blk_cell hB3 1 (.slice none 0 0) rfl
  have c2 := blk_cell hB3 2 (.slice none 0 0) rfl
  have f0 := blk_frozen hB3 0
  have f1 := blk_frozen hB3 1
  have f2 := blk_frozen hB3 2
  have HB3 := Lib.hid hB3
  clear hB3
  go_wp2_with fail
  refine bodyPost_ret (v := .agg #[.bool (decide (n < 0)), .slice a1 (dig b64 n.natAbs).length _, .slice none 0 0]) (by simp [results, Try.results37, go_sem, c0, c1, c2]; first | done | exact ⟨rfl, rfl⟩ | rfl) rfl ⟨_, rfl, ?_, below_store3 hx3 (Nat.le_refl _)⟩
  refine ⟨_, _, rfl, ?_, ?_⟩
  · exact store3 HB3.out Hv.out
  · exact IsNat.zero _ _ _

end Go.Proofs.Ytkdcgkafjkklcaa

/- THE WALKS OF ratio's FRACTIONS, part C: New, Cmp. -/
namespace Go.Proofs.Ytkdcgkafjkklcaa
open Go.RowKit

def RetRatE (q : Rat) (err : Int) (w : World) (e : Ending) (w' : World) : Prop :=
  ∃ v, e = .returned (.tuple #[v, .int .i64 err]) ∧ IsRat w' v q ∧ Below w.heap.size w w'

theorem natAbs_short (n : Int) (h1 : -9223372036854775808 ≤ n) (h2 : n ≤ 9223372036854775807) : (dig b64 n.natAbs).length ≤ 1 := dig_length_le b64_two 1 _ (by unfold b64; omega)

theorem new_plain (n d : Int) (hd : d ≠ 0) : mkQ (decide (n < 0) != decide (d < 0)) n.natAbs d.natAbs = (n : Rat) / (d : Rat) := by
  have hd' : (d : Rat) ≠ 0 := by simpa using hd
  have h1 : mkQ (decide (n < 0) != decide (d < 0)) n.natAbs d.natAbs = (sg (decide (n < 0) != decide (d < 0)) n.natAbs : Rat) / ((d.natAbs : Nat) : Rat) := by
    unfold mkQ; exact Rat.mkRat_eq_div _ _
  rw [h1]
  rcases Int.lt_or_le d 0 with hdn | hdn
  · have e1 : ((d.natAbs : Nat) : Rat) = -(d : Rat) := by
      have : ((d.natAbs : Nat) : Int) = -d := by omega
      rw [← Rat.intCast_natCast, this, Rat.intCast_neg]
    rcases Int.lt_or_le n 0 with hnn | hnn
    · have e2 : sg (decide (n < 0) != decide (d < 0)) n.natAbs = -n := by
        unfold sg; simp [hdn, hnn]; omega
      rw [e1, e2, Rat.intCast_neg]
      grind
    · have e2 : sg (decide (n < 0) != decide (d < 0)) n.natAbs = -n := by
        have : ¬ n < 0 := by omega
        unfold sg; simp [hdn, this]; omega
      rw [e1, e2, Rat.intCast_neg]
      grind
  · have e1 : ((d.natAbs : Nat) : Rat) = (d : Rat) := by
      have : ((d.natAbs : Nat) : Int) = d := by omega
      rw [← Rat.intCast_natCast, this]
    have hd2 : ¬ d < 0 := by omega
    rcases Int.lt_or_le n 0 with hnn | hnn
    · have e2 : sg (decide (n < 0) != decide (d < 0)) n.natAbs = n := by
        unfold sg; simp [hd2, hnn]; omega
      rw [e1, e2]
    · have e2 : sg (decide (n < 0) != decide (d < 0)) n.natAbs = n := by
        have : ¬ n < 0 := by omega
        unfold sg; simp [hd2, this]; omega
      rw [e1, e2]

set_option maxHeartbeats 1000000 in
theorem new_any (n d : Int) (w : World) (h1 : -9223372036854775808 ≤ n) (h2 : n ≤ 9223372036854775807) (h3 : -9223372036854775808 ≤ d) (h4 : d ≤ 9223372036854775807) (hd : d ≠ 0) :
    Calls Try.prog 72 #[.int .i64 n, .int .i64 d] w (RetRatE ((n : Rat) / (d : Rat)) 0 w) := by
  have hq : mkQ (!(decide (n < 0) == decide (d < 0))) n.natAbs d.natAbs = (n : Rat) / (d : Rat) := new_plain n d hd
  generalize (n : Rat) / (d : Rat) = q at *
  have t : ((d : Int) == 0) = false := beq_eq_false_iff_ne.2 hd
  have hal : Below w.heap.size w (w.alloc (.cells #[.bool false, .slice none 0 0, .slice none 0 0] 50)) := (Below.refl _ _).alloc (Nat.le_refl _) _
  have hB0 := blk_new w #[.bool false, .slice none 0 0, .slice none 0 0] 50
  have Hq := Lib.hid hq
  have hdp : 0 < d.natAbs := by omega
  clear hq
  go_enter Try.func72, Try.ntmps72
  go_wp2_with fail
  refine (size_any n _ h1 h2).mono ?_
  rintro e w1 ⟨v1, rfl, hv1, hb1⟩
  have hx1 := ext_trans hal hb1
  have hB1 := blk_keep hB0 hb1 (by simp)
  go_wp2_with fail
  refine (size_any d _ h3 h4).mono ?_
  rintro e w2 ⟨v2, rfl, hv2, hb2⟩
  have hx2 := ext_trans hx1 hb2
  have hB2 := blk_keep hB1 hb2 (blk_lt hB1)
  go_wp2_with fail
  refine (reduced_any _ n.natAbs d.natAbs _ _ _ (hv1.below hb2) hv2 hdp (by have := natAbs_short n h1 h2; omega) (by have := natAbs_short d h3 h4; omega)).mono ?_
  rintro e w3 ⟨v, rfl, hv, hb⟩
  rw [Hq.out] at hv
  have hx3 := ext_trans hx2 hb
  have hB3 := blk_keep hB2 hb (blk_lt hB2)
  obtain ⟨a1, c1, a2, c2, rfl, hn', hd'⟩ := hv.opened
  have HB3 := Lib.hid hB3
  have hBl := blk_lt hB3
  have c0 := blk_cell hB3 0 (.bool false) rfl
  have c1 := blk_cell hB3 1 (.slice none 0 0) rfl
  have c2 := blk_cell hB3 2 (.slice none 0 0) rfl
  have f0 := blk_frozen hB3 0
  have f1 := blk_frozen hB3 1
  have f2 := blk_frozen hB3 2
  clear hv1 hv2 hv hb hb1 hb2 hx1 hx2 hal hB0 hB1 hB2 hB3
  go_wp2_with fail
  refine bodyPost_ret (v := .tuple #[.agg #[.bool (decide (q.num < 0)), .slice a1 (dig b64 q.num.natAbs).length _, .slice a2 (dig b64 (dn q.den)).length _], .int .i64 0]) (by simp [results, Try.results72, go_sem, c0, c1, c2]; first | done | exact ⟨⟨rfl, rfl⟩, rfl⟩ | exact ⟨rfl, rfl⟩ | rfl) rfl ⟨_, rfl, ?_, below_store3 hx3 (Nat.le_refl _)⟩
  exact ⟨_, _, rfl, store3 HB3.out hn', store3 HB3.out hd'⟩

end Go.Proofs.Ytkdcgkafjkklcaa

/- THE WALKS OF THE REFERENCE's FRACTIONS: Divisor, under, made, magnitude, Int, New, Of. -/
namespace Go.Proofs.Ytkdcgkafjkklcaa
open Go.RowKit

/-- A denominator of the reference's: also nothing stands for 1. -/
def IsDen (d' d : Nat) : Prop := d' = d ∨ (d' = 0 ∧ d = 1)

/-- The value v reads as the reference's fraction q. -/
def IsR (w : World) (v : Value) (q : Rat) : Prop :=
  ∃ vn vd d', v = .agg #[.bool (decide (q.num < 0)), vn, vd] ∧ IsNat .u32 b32 w vn q.num.natAbs ∧ IsNat .u32 b32 w vd d' ∧ IsDen d' q.den
theorem IsR.below {w w' : World} {v : Value} {q : Rat} (h : IsR w v q) (hb : Below w.heap.size w w') : IsR w' v q := by
  obtain ⟨vn, vd, d', rfl, h1, h2, h3⟩ := h
  exact ⟨vn, vd, d', rfl, h1.below hb, h2.below hb, h3⟩
def RetR (q : Rat) (w : World) (e : Ending) (w' : World) : Prop := ∃ v, e = .returned v ∧ IsR w' v q ∧ Below w.heap.size w w'
def RetRE (q : Rat) (err : Int) (w : World) (e : Ending) (w' : World) : Prop :=
  ∃ v, e = .returned (.tuple #[v, .int .i64 err]) ∧ IsR w' v q ∧ Below w.heap.size w w'
theorem IsR.zero (w : World) : IsR w (.agg #[.bool false, .slice none 0 0, .slice none 0 0]) 0 :=
  ⟨_, _, 0, rfl, IsNat.zero _ _ _, IsNat.zero _ _ _, .inr ⟨rfl, rfl⟩⟩
theorem IsR.opened {w : World} {v : Value} {q : Rat} (h : IsR w v q) : ∃ d' a1 c1 a2 c2, v = .agg #[.bool (decide (q.num < 0)), .slice a1 (dig b32 q.num.natAbs).length c1, .slice a2 (dig b32 d').length c2] ∧
    IsNat .u32 b32 w (.slice a1 (dig b32 q.num.natAbs).length c1) q.num.natAbs ∧ IsNat .u32 b32 w (.slice a2 (dig b32 d').length c2) d' ∧ IsDen d' q.den := by
  obtain ⟨vn, vd, d', rfl, h1, h2, h3⟩ := h
  have h1' := h1
  have h2' := h2
  obtain ⟨a1, c1, rfl, _⟩ := IsRow.opened h1
  obtain ⟨a2, c2, rfl, _⟩ := IsRow.opened h2
  exact ⟨d', a1, c1, a2, c2, rfl, h1', h2', h3⟩

end Go.Proofs.Ytkdcgkafjkklcaa

/- THE WALKS OF THE REFERENCE's FRACTIONS: made, magnitude, Int, New. -/
namespace Go.Proofs.Ytkdcgkafjkklcaa
open Go.RowKit

theorem cmpN_one (g : Nat) (h : g ≤ 1) : decide (cmpN g 1 > 0) = false := cmpN_ngt (by omega)

end Go.Proofs.Ytkdcgkafjkklcaa

/- THE WALKS OF ratio's FRACTIONS, part D: Cmp. -/
namespace Go.Proofs.Ytkdcgkafjkklcaa
open Go.RowKit

def sgnQ (q : Rat) : Int := sgnI (decide (q.num < 0)) q.num.natAbs
theorem sgnQ_cases (q : Rat) : (q.num < 0 ∧ sgnQ q = -1) ∨ (q.num = 0 ∧ sgnQ q = 0) ∨ (0 < q.num ∧ sgnQ q = 1) := by
  unfold sgnQ sgnI
  rcases Int.lt_trichotomy q.num 0 with h | h | h
  · exact .inl ⟨h, by simp [h]⟩
  · exact .inr (.inl ⟨h, by simp [h]⟩)
  · exact .inr (.inr ⟨h, by have h1 : ¬ q.num < 0 := by omega
                            have h2 : q.num ≠ 0 := by omega
                            simp [h1, h2]⟩)

theorem cmpR_lt (x y : Rat) (h : sgnQ x < sgnQ y) : cmpR x y = -1 := by
  have hx := sgnQ_cases x
  have hy := sgnQ_cases y
  have dx : (0 : Int) < x.den := by have := x.den_pos; omega
  have dy : (0 : Int) < y.den := by have := y.den_pos; omega
  have hlt : x < y := by
    rw [Rat.lt_iff]
    rcases hx with ⟨h1, e1⟩ | ⟨h1, e1⟩ | ⟨h1, e1⟩ <;> rcases hy with ⟨h2, e2⟩ | ⟨h2, e2⟩ | ⟨h2, e2⟩ <;> first | omega | skip
    · have a := Int.mul_neg_of_neg_of_pos h1 dy
      rw [h2]; omega
    · have a := Int.mul_neg_of_neg_of_pos h1 dy
      have b := Int.mul_pos h2 dx
      omega
    · have b := Int.mul_pos h2 dx
      rw [h1]; omega
  unfold cmpR; rw [if_pos hlt]

theorem cmpR_swap (x y : Rat) : cmpR x y = - cmpR y x := by
  unfold cmpR
  by_cases h1 : x < y
  · have h2 : ¬ y < x := by grind
    simp [h1, h2]
  · by_cases h2 : y < x
    · simp [h1, h2]
    · simp [h1, h2]

theorem cmpR_gt (x y : Rat) (h : sgnQ y < sgnQ x) : cmpR x y = 1 := by
  rw [cmpR_swap, cmpR_lt y x h]; rfl

theorem cmpR_same (x y : Rat) (h : sgnQ x = sgnQ y) : cmpR x y = cmpN (x.num.natAbs * y.den) (y.num.natAbs * x.den) * sgnQ x := by
  have hx := sgnQ_cases x
  have hy := sgnQ_cases y
  have key : ∀ (P : Prop) [Decidable P] (R : Prop) [Decidable R] (a b : Nat), (x < y ↔ a < b) → (y < x ↔ b < a) → cmpR x y = cmpN a b := by
    intro P _ R _ a b h1 h2
    unfold cmpR cmpN
    simp only [h1, h2]
  have e1 : ∀ q : Rat, q.num < 0 → q.num = -((q.num.natAbs : Nat) : Int) := fun q h => by omega
  have e2 : ∀ q : Rat, 0 < q.num → q.num = ((q.num.natAbs : Nat) : Int) := fun q h => by omega
  rcases hx with ⟨h1, s1⟩ | ⟨h1, s1⟩ | ⟨h1, s1⟩ <;> rcases hy with ⟨h2, s2⟩ | ⟨h2, s2⟩ | ⟨h2, s2⟩ <;> first | omega | skip
  · have k := key True True (y.num.natAbs * x.den) (x.num.natAbs * y.den) (by
      rw [Rat.lt_iff]
      rw [e1 x h1, e1 y h2]
      simp only [Int.natAbs_neg, Int.natAbs_natCast, Int.neg_mul]
      rw [← Int.natCast_mul, ← Int.natCast_mul]; omega) (by
      rw [Rat.lt_iff]
      rw [e1 x h1, e1 y h2]
      simp only [Int.natAbs_neg, Int.natAbs_natCast, Int.neg_mul]
      rw [← Int.natCast_mul, ← Int.natCast_mul]; omega)
    rw [k, s1]
    generalize y.num.natAbs * x.den = A
    generalize x.num.natAbs * y.den = B
    unfold cmpN
    split <;> split <;> (try split) <;> omega
  · have hx0 : x = 0 := Rat.num_eq_zero.1 h1
    have hy0 : y = 0 := Rat.num_eq_zero.1 h2
    rw [s1, hx0, hy0]
    simp [cmpR]
  · have k := key True True (x.num.natAbs * y.den) (y.num.natAbs * x.den) (by
      rw [Rat.lt_iff]
      rw [e2 x h1, e2 y h2]
      simp only [Int.natAbs_natCast]
      rw [← Int.natCast_mul, ← Int.natCast_mul]; omega) (by
      rw [Rat.lt_iff]
      rw [e2 x h1, e2 y h2]
      simp only [Int.natAbs_natCast]
      rw [← Int.natCast_mul, ← Int.natCast_mul]; omega)
    rw [k, s1, Int.mul_one]

set_option maxHeartbeats 2000000 in
theorem cmpRat_any (x y : Rat) (vx vy : Value) (w : World) (hx : IsRat w vx x) (hy : IsRat w vy y) (hlx : szR x 274877906944) (hly : szR y 274877906944) :
    Calls Try.prog 67 #[vx, vy] w (RetInt (cmpR x y) w) := by
  obtain ⟨a1, c1, a2, c2, rfl, n1, n2⟩ := hx.opened
  obtain ⟨a3, c3, a4, c4, rfl, n3, n4⟩ := hy.opened
  have N1 := Lib.hid n1
  have N2 := Lib.hid n2
  have N3 := Lib.hid n3
  have N4 := Lib.hid n4
  clear hx hy n1 n2 n3 n4
  go_enter Try.func67, Try.ntmps67
  go_wp2_with fail
  have hal : Below w.heap.size w ((w.alloc (.cells #[.bool (decide (x.num < 0)), .slice a1 (dig b64 x.num.natAbs).length c1, .slice a2 (dig b64 (dn x.den)).length c2] 50)).alloc (.cells #[.bool (decide (y.num < 0)), .slice a3 (dig b64 y.num.natAbs).length c3, .slice a4 (dig b64 (dn y.den)).length c4] 50)) :=
    ((Below.refl _ _).alloc (Nat.le_refl _) _).alloc (by simp) _
  have hB1 := (blk_keep (blk_new w #[.bool (decide (x.num < 0)), .slice a1 (dig b64 x.num.natAbs).length c1, .slice a2 (dig b64 (dn x.den)).length c2] 50) ((Below.refl _ _).alloc (Nat.le_refl _) (.cells #[.bool (decide (y.num < 0)), .slice a3 (dig b64 y.num.natAbs).length c3, .slice a4 (dig b64 (dn y.den)).length c4] 50)) (by simp))
  have hB2 := blk_new (w.alloc (.cells #[.bool (decide (x.num < 0)), .slice a1 (dig b64 x.num.natAbs).length c1, .slice a2 (dig b64 (dn x.den)).length c2] 50)) #[.bool (decide (y.num < 0)), .slice a3 (dig b64 y.num.natAbs).length c3, .slice a4 (dig b64 (dn y.den)).length c4] 50
  rw [World.size_alloc] at hB2
  generalize ((w.alloc (.cells #[.bool (decide (x.num < 0)), .slice a1 (dig b64 x.num.natAbs).length c1, .slice a2 (dig b64 (dn x.den)).length c2] 50)).alloc (.cells #[.bool (decide (y.num < 0)), .slice a3 (dig b64 y.num.natAbs).length c3, .slice a4 (dig b64 (dn y.den)).length c4] 50)) = W at *
  have p0 := blk_cell hB1 0 (.bool (decide (x.num < 0))) rfl
  have p1 := blk_cell hB1 1 (.slice a1 (dig b64 x.num.natAbs).length c1) rfl
  have p2 := blk_cell hB1 2 (.slice a2 (dig b64 (dn x.den)).length c2) rfl
  have r0 := blk_cell hB2 0 (.bool (decide (y.num < 0))) rfl
  have r1 := blk_cell hB2 1 (.slice a3 (dig b64 y.num.natAbs).length c3) rfl
  have r2 := blk_cell hB2 2 (.slice a4 (dig b64 (dn y.den)).length c4) rfl
  have hl1 := blk_lt hB1
  have hl2 := blk_lt hB2
  clear hB1 hB2
  go_wp2_with fail
  go_region_held3 (fun w' => Below W.heap.size W w' ∧ w'.cell? ⟨w.heap.size, 0, none⟩ = some (.bool (decide (x.num < 0))) ∧ w'.cell? ⟨w.heap.size, 1, none⟩ = some (.slice a1 (dig b64 x.num.natAbs).length c1) ∧ w'.cell? ⟨w.heap.size, 2, none⟩ = some (.slice a2 (dig b64 (dn x.den)).length c2) ∧
      w'.cell? ⟨w.heap.size + 1, 0, none⟩ = some (.bool (decide (y.num < 0))) ∧ w'.cell? ⟨w.heap.size + 1, 1, none⟩ = some (.slice a3 (dig b64 y.num.natAbs).length c3) ∧ w'.cell? ⟨w.heap.size + 1, 2, none⟩ = some (.slice a4 (dig b64 (dn y.den)).length c4))
    (first | exact ⟨Below.refl _ _, p0, p1, p2, r0, r1, r2⟩ | exact ⟨(Below.refl _ _).drew, p0, p1, p2, r0, r1, r2⟩ | exact keep6 hl1 hl2 hb' (by assumption))
    (first | (go_at_call 69; refine (sign_any _ _ _ _ _ _ _ _).mono ?_; rintro e w' ⟨rfl, hb'⟩))
  rw [show sgnI (decide (x.num < 0)) x.num.natAbs = sgnQ x from rfl, show sgnI (decide (y.num < 0)) y.num.natAbs = sgnQ y from rfl]
  rename_i wv hS1 
  rcases Int.lt_trichotomy (sgnQ x) (sgnQ y) with hlt | heq | hgt
  · have t1 : (sgnQ x != sgnQ y) = true := by rw [bne_iff_ne]; omega
    have Hr := Lib.hid (cmpR_lt x y hlt)
    generalize sgnQ x = sx at *
    generalize sgnQ y = sy at *
    go_wp2_with fail
    go_ret
    exact ⟨by rw [Hr.out]; rfl, ext_trans hal (And.left (by assumption))⟩
  · have t1 : (sgnQ x != sgnQ y) = false := by rw [heq]; simp
    have Hr := Lib.hid (cmpR_same x y heq)
    rw [← heq]
    clear heq
    have hal2 := ext_trans hal hS1.1
    obtain ⟨hW, p0', p1', p2', r0', r1', r2'⟩ := hS1
    have hl1' : w.heap.size < w'.heap.size := Nat.lt_of_lt_of_le hl1 hW.size
    have hl2' : w.heap.size + 1 < w'.heap.size := Nat.lt_of_lt_of_le hl2 hW.size
    clear p0 p1 p2 r0 r1 r2 wv hb' hl1 hl2 hal hW
    have hM1 := dig_length_mul b64_two x.num.natAbs y.den
    have hM2 := dig_length_mul b64_two y.num.natAbs x.den
    have HLX := Lib.hid hlx
    have HLY := Lib.hid hly
    have HM1 := Lib.hid hM1
    have HM2 := Lib.hid hM2
    clear hlx hly hM1 hM2
    have Ex : sgnI (decide (x.num < 0)) x.num.natAbs = sgnQ x := rfl
    have EX := Lib.hid Ex
    clear Ex
    go_wp2_with fail
    go_region_held3 (fun w2 => Below w'.heap.size w' w2 ∧ w2.cell? ⟨w.heap.size, 0, none⟩ = some (.bool (decide (x.num < 0))) ∧ w2.cell? ⟨w.heap.size, 1, none⟩ = some (.slice a1 (dig b64 x.num.natAbs).length c1) ∧ w2.cell? ⟨w.heap.size, 2, none⟩ = some (.slice a2 (dig b64 (dn x.den)).length c2) ∧
        w2.cell? ⟨w.heap.size + 1, 0, none⟩ = some (.bool (decide (y.num < 0))) ∧ w2.cell? ⟨w.heap.size + 1, 1, none⟩ = some (.slice a3 (dig b64 y.num.natAbs).length c3) ∧ w2.cell? ⟨w.heap.size + 1, 2, none⟩ = some (.slice a4 (dig b64 (dn y.den)).length c4))
      (first | exact ⟨Below.refl _ _, p0', p1', p2', r0', r1', r2'⟩ | exact ⟨(Below.refl _ _).drew, p0', p1', p2', r0', r1', r2'⟩ | exact keep6 hl1' hl2' hbF (by assumption) | exact keep6 hl1' hl2' hbE (by assumption) | exact keep6 hl1' hl2' hbD (by assumption) | exact keep6 hl1' hl2' hbC (by assumption) | exact keep6 hl1' hl2' hbB (by assumption) | exact keep6 hl1' hl2' hbA (by assumption))
      (first
        | (go_at_call_of 52 (Value.slice a4 (dig b64 (dn y.den)).length c4); refine (under_any y.den _ _ (N4.out.below (ext_trans hal2 (And.left (by assumption)))) y.den_pos).mono ?_; rintro e wA ⟨vA, rfl, hvA, hbA⟩)
        | (go_at_call_of 51 (Value.slice a1 (dig b64 x.num.natAbs).length c1); refine (times_any x.num.natAbs y.den _ _ _ (N1.out.below (ext_trans hal2 (And.left (by assumption)))) hvA (by have := HLX.out.1; have := HLY.out.2; omega)).mono ?_; rintro e wB ⟨vB, rfl, hvB, hbB⟩)
        | (go_at_call_of 52 (Value.slice a2 (dig b64 (dn x.den)).length c2); refine (under_any x.den _ _ (N2.out.below (ext_trans hal2 (And.left (by assumption)))) x.den_pos).mono ?_; rintro e wC ⟨vC, rfl, hvC, hbC⟩)
        | (go_at_call_of 51 (Value.slice a3 (dig b64 y.num.natAbs).length c3); refine (times_any y.num.natAbs x.den _ _ _ (N3.out.below (ext_trans hal2 (And.left (by assumption)))) hvC (by have := HLX.out.2; have := HLY.out.1; omega)).mono ?_; rintro e wD ⟨vD, rfl, hvD, hbD⟩)
        | (go_at_call 54; refine (cmp_any _ _ _ _ _ (hvB.below (ext_trans hbC hbD)) hvD).mono ?_; rintro e wE ⟨rfl, hqE⟩; have hbE := hqE.below)
        | (go_at_call 69; refine (sign_any _ _ _ _ _ _ _ _).mono ?_; rintro e wF ⟨rfl, hbF⟩))
    rw [EX.out]
    have hcs : ∀ a b : Nat, cmpN a b = -1 ∨ cmpN a b = 0 ∨ cmpN a b = 1 := fun a b => by unfold cmpN; split <;> (try split) <;> omega
    have hw : IntKind.i64.wrap (cmpN (x.num.natAbs * y.den) (y.num.natAbs * x.den) * sgnQ x) = cmpN (x.num.natAbs * y.den) (y.num.natAbs * x.den) * sgnQ x := by
      apply IntWalk.i64_in
      rcases hcs (x.num.natAbs * y.den) (y.num.natAbs * x.den) with h | h | h <;> rcases sgnQ_cases x with ⟨_, h'⟩ | ⟨_, h'⟩ | ⟨_, h'⟩ <;> rw [h, h'] <;> omega
    rw [← Hr.out] at hw
    have Hw := Lib.hid hw
    clear hcs hw
    go_wp2_with fail
    go_ret
    refine ⟨?_, ext_trans hal2 (And.left (by assumption))⟩
    rw [← Hw.out, Hr.out]
    rfl
  · have t1 : (sgnQ x != sgnQ y) = true := by rw [bne_iff_ne]; omega
    have Hr := Lib.hid (cmpR_gt x y hgt)
    generalize sgnQ x = sx at *
    generalize sgnQ y = sy at *
    go_wp2_with fail
    go_ret
    exact ⟨by rw [Hr.out]; rfl, ext_trans hal (And.left (by assumption))⟩

end Go.Proofs.Ytkdcgkafjkklcaa

/- THE WALKS OF THE REFERENCE's FRACTIONS: Int, New, Zero, Sign, Neg. -/
namespace Go.Proofs.Ytkdcgkafjkklcaa
open Go.RowKit

theorem natAbs_short32 (n : Int) (h1 : -9223372036854775808 ≤ n) (h2 : n ≤ 9223372036854775807) : (dig b32 n.natAbs).length ≤ 2 := dig_length_le b32_two 2 _ (by unfold b32; omega)
theorem dig32_one : (dig b32 1).length ≤ 1 := dig_length_le b32_two 1 _ (by unfold b32; omega)
theorem mkQ_int (n : Int) : mkQ (decide (n < 0)) n.natAbs 1 = (n : Rat) := by
  have h := rat_eq (n : Rat)
  simp only [Rat.num_intCast, Rat.den_intCast] at h
  exact h.symm

end Go.Proofs.Ytkdcgkafjkklcaa

/- THE WALKS OF THE REFERENCE's FRACTIONS: Neg. -/
namespace Go.Proofs.Ytkdcgkafjkklcaa
open Go.RowKit

theorem neg_lt_num (q : Rat) : decide ((-q).num < 0) = (!decide (q.num < 0) && !decide (q.num.natAbs = 0)) := by
  have e : (-q).num = -q.num := rfl
  rw [e]
  by_cases h : q.num < 0
  · have : ¬ 0 < q.num := by omega
    simp [h, this]
  · by_cases h0 : q.num = 0
    · simp [h0]
    · have : 0 < q.num := by omega
      simp [h, h0, this]

/-- A boxed fraction, held while calls are made that turn nothing old. -/
theorem keep3 {W a b : World} {B1 : Nat} {v0 v1 v2 : Value} (hl1 : B1 < W.heap.size) (hb : Below a.heap.size a b)
    (h : Below W.heap.size W a ∧ a.cell? ⟨B1, 0, none⟩ = some v0 ∧ a.cell? ⟨B1, 1, none⟩ = some v1 ∧ a.cell? ⟨B1, 2, none⟩ = some v2) :
    Below W.heap.size W b ∧ b.cell? ⟨B1, 0, none⟩ = some v0 ∧ b.cell? ⟨B1, 1, none⟩ = some v1 ∧ b.cell? ⟨B1, 2, none⟩ = some v2 := by
  obtain ⟨h0, h1, h2, h3⟩ := h
  have hs := h0.size
  have e : ∀ (B j : Nat), B < W.heap.size → b.cell? ⟨B, j, none⟩ = a.cell? ⟨B, j, none⟩ := fun B j hB => hb.cell (p := ⟨B, j, none⟩) (by show B < a.heap.size; omega)
  exact ⟨ext_trans h0 hb, by rw [e _ _ hl1]; exact h1, by rw [e _ _ hl1]; exact h2, by rw [e _ _ hl1]; exact h3⟩

/-- What lies at an address. -/
def cellOf (w : World) (a : Addr) : Value := (w.cell? a).getD undef
/-- Block B is a fraction's box. -/
def RB (w : World) (B : Nat) : Prop := ∃ b x i j y k l T, w.heap[B]? = some (.cells #[.bool b, .slice x i j, .slice y k l] T (0, 0))
theorem RB.lt {w : World} {B : Nat} (h : RB w B) : B < w.heap.size := by
  obtain ⟨b, x, i, j, y, k, l, T, h⟩ := h; exact blk_lt h
theorem RB.keep {a b : World} {B n : Nat} (h : RB a B) (hb : Below n a b) (hB : B < n) : RB b B := by
  obtain ⟨b, x, i, j, y, k, l, T, h⟩ := h
  exact ⟨b, x, i, j, y, k, l, T, blk_keep h hb hB⟩
theorem RB.store {w : World} {B : Nat} (h : RB w B) (neg : Bool) (x1 y1 : Option Addr) (i1 j1 k1 l1 : Nat) :
    RB (((w.setCell ⟨B, 0, none⟩ (.bool neg)).setCell ⟨B, 1, none⟩ (.slice x1 i1 j1)).setCell ⟨B, 2, none⟩ (.slice y1 k1 l1)) B := by
  obtain ⟨b, x, i, j, y, k, l, T, h⟩ := h
  exact ⟨neg, x1, i1, j1, y1, k1, l1, T, by exact blk_set (blk_set (blk_set h 0 (.bool neg)) 1 (.slice x1 i1 j1)) 2 (.slice y1 k1 l1)⟩
theorem RB.cell {w : World} {B : Nat} (h : RB w B) : w.cell? ⟨B, 0, none⟩ = some (cellOf w ⟨B, 0, none⟩) ∧ w.cell? ⟨B, 1, none⟩ = some (cellOf w ⟨B, 1, none⟩) ∧ w.cell? ⟨B, 2, none⟩ = some (cellOf w ⟨B, 2, none⟩) ∧
    w.frozen? ⟨B, 0, none⟩ = false ∧ w.frozen? ⟨B, 1, none⟩ = false ∧ w.frozen? ⟨B, 2, none⟩ = false := by
  obtain ⟨b, x, i, j, y, k, l, T, h⟩ := h
  have e : ∀ a v, w.cell? a = some v → w.cell? a = some (cellOf w a) := fun a v h => by unfold cellOf; rw [h]; rfl
  exact ⟨e _ _ (blk_cell h 0 (.bool b) rfl), e _ _ (blk_cell h 1 (.slice x i j) rfl), e _ _ (blk_cell h 2 (.slice y k l) rfl), blk_frozen h 0, blk_frozen h 1, blk_frozen h 2⟩

/-- One boxed fraction is held, and the box of the result. -/
theorem hold3 {n : Nat} {w0 a : World} {B1 B : Nat} {v0 v1 v2 : Value} (h0 : Below n w0 a) (h1 : a.cell? ⟨B1, 0, none⟩ = some v0) (h2 : a.cell? ⟨B1, 1, none⟩ = some v1) (h3 : a.cell? ⟨B1, 2, none⟩ = some v2) (hB : RB a B) :
    Below n w0 a ∧ RB a B ∧ a.cell? ⟨B1, 0, none⟩ = some v0 ∧ a.cell? ⟨B1, 1, none⟩ = some v1 ∧ a.cell? ⟨B1, 2, none⟩ = some v2 ∧
      a.cell? ⟨B, 0, none⟩ = some (cellOf a ⟨B, 0, none⟩) ∧ a.cell? ⟨B, 1, none⟩ = some (cellOf a ⟨B, 1, none⟩) ∧ a.cell? ⟨B, 2, none⟩ = some (cellOf a ⟨B, 2, none⟩) ∧
      a.frozen? ⟨B, 0, none⟩ = false ∧ a.frozen? ⟨B, 1, none⟩ = false ∧ a.frozen? ⟨B, 2, none⟩ = false := ⟨h0, hB, h1, h2, h3, hB.cell⟩
theorem hold3_call {n : Nat} {w0 a b : World} {B1 B : Nat} {v0 v1 v2 : Value} {R : Prop} (hn : n ≤ w0.heap.size) (hb : Below a.heap.size a b)
    (h : Below n w0 a ∧ RB a B ∧ a.cell? ⟨B1, 0, none⟩ = some v0 ∧ a.cell? ⟨B1, 1, none⟩ = some v1 ∧ a.cell? ⟨B1, 2, none⟩ = some v2 ∧ R) :
    Below n w0 b ∧ RB b B ∧ b.cell? ⟨B1, 0, none⟩ = some v0 ∧ b.cell? ⟨B1, 1, none⟩ = some v1 ∧ b.cell? ⟨B1, 2, none⟩ = some v2 ∧
      b.cell? ⟨B, 0, none⟩ = some (cellOf b ⟨B, 0, none⟩) ∧ b.cell? ⟨B, 1, none⟩ = some (cellOf b ⟨B, 1, none⟩) ∧ b.cell? ⟨B, 2, none⟩ = some (cellOf b ⟨B, 2, none⟩) ∧
      b.frozen? ⟨B, 0, none⟩ = false ∧ b.frozen? ⟨B, 1, none⟩ = false ∧ b.frozen? ⟨B, 2, none⟩ = false := by
  obtain ⟨h0, hB, h1, h2, h3, _⟩ := h
  have hl := World.block_lt_of_cell? (h := h1)
  have e : ∀ j, b.cell? ⟨B1, j, none⟩ = a.cell? ⟨B1, j, none⟩ := fun j => hb.cell (p := ⟨B1, j, none⟩) hl
  have hs := h0.size
  exact hold3 (h0.trans (hb.mono (by omega))) ((e _).trans h1) ((e _).trans h2) ((e _).trans h3) (hB.keep hb hB.lt)
theorem hold3_store {n : Nat} {w0 a : World} {B1 B : Nat} {v0 v1 v2 : Value} {R : Prop} (neg : Bool) (x1 y1 : Option Addr) (i1 j1 k1 l1 : Nat) (hn : n ≤ B) (hne : B1 ≠ B)
    (h : Below n w0 a ∧ RB a B ∧ a.cell? ⟨B1, 0, none⟩ = some v0 ∧ a.cell? ⟨B1, 1, none⟩ = some v1 ∧ a.cell? ⟨B1, 2, none⟩ = some v2 ∧ R) (b : World)
    (hb : b = ((a.setCell ⟨B, 0, none⟩ (.bool neg)).setCell ⟨B, 1, none⟩ (.slice x1 i1 j1)).setCell ⟨B, 2, none⟩ (.slice y1 k1 l1)) :
    Below n w0 b ∧ RB b B ∧ b.cell? ⟨B1, 0, none⟩ = some v0 ∧ b.cell? ⟨B1, 1, none⟩ = some v1 ∧ b.cell? ⟨B1, 2, none⟩ = some v2 ∧
      b.cell? ⟨B, 0, none⟩ = some (cellOf b ⟨B, 0, none⟩) ∧ b.cell? ⟨B, 1, none⟩ = some (cellOf b ⟨B, 1, none⟩) ∧ b.cell? ⟨B, 2, none⟩ = some (cellOf b ⟨B, 2, none⟩) ∧
      b.frozen? ⟨B, 0, none⟩ = false ∧ b.frozen? ⟨B, 1, none⟩ = false ∧ b.frozen? ⟨B, 2, none⟩ = false := by
  obtain ⟨h0, hB, h1, h2, h3, _⟩ := h
  subst hb
  have e : ∀ j v, a.cell? ⟨B1, j, none⟩ = some v → (((a.setCell ⟨B, 0, none⟩ (.bool neg)).setCell ⟨B, 1, none⟩ (.slice x1 i1 j1)).setCell ⟨B, 2, none⟩ (.slice y1 k1 l1)).cell? ⟨B1, j, none⟩ = some v := fun j v h => by
    rw [World.cell?_setCell_other, World.cell?_setCell_other, World.cell?_setCell_other, h]
    all_goals intro e; cases e; exact hne rfl
  exact hold3 (below_store3 h0 hn) (e _ _ h1) (e _ _ h2) (e _ _ h3) (hB.store ..)

theorem natAbs_neg_num (q : Rat) : (-q).num.natAbs = q.num.natAbs := by show (-q.num).natAbs = _; exact Int.natAbs_neg _
theorem IsR.stored {w : World} {B : Nat} {neg : Bool} {x1 y1 : Option Addr} {i1 j1 k1 l1 n d' : Nat} {q : Rat}
    (hB : RB w B) (h1 : IsNat .u32 b32 w (.slice x1 i1 j1) n) (h2 : IsNat .u32 b32 w (.slice y1 k1 l1) d') (hd : IsDen d' q.den)
    (hn : decide (q.num < 0) = neg) (hm : q.num.natAbs = n) :
    IsR (((w.setCell ⟨B, 0, none⟩ (.bool neg)).setCell ⟨B, 1, none⟩ (.slice x1 i1 j1)).setCell ⟨B, 2, none⟩ (.slice y1 k1 l1)) (.agg #[.bool neg, .slice x1 i1 j1, .slice y1 k1 l1]) q := by
  subst hn hm
  obtain ⟨b, x, i, j, y, k, l, T, hB⟩ := hB
  exact ⟨_, _, d', rfl, store3 hB h1, store3 hB h2, hd⟩

end Go.Proofs.Ytkdcgkafjkklcaa

/- THE WALKS OF THE REFERENCE's FRACTIONS: Mul. -/
namespace Go.Proofs.Ytkdcgkafjkklcaa
open Go.RowKit

theorem hold6 {n : Nat} {w0 a : World} {B1 B2 B : Nat} {v0 v1 v2 v3 v4 v5 : Value} (h0 : Below n w0 a) (h1 : a.cell? ⟨B1, 0, none⟩ = some v0) (h2 : a.cell? ⟨B1, 1, none⟩ = some v1) (h3 : a.cell? ⟨B1, 2, none⟩ = some v2)
    (h4 : a.cell? ⟨B2, 0, none⟩ = some v3) (h5 : a.cell? ⟨B2, 1, none⟩ = some v4) (h6 : a.cell? ⟨B2, 2, none⟩ = some v5) (hB : RB a B) :
    Below n w0 a ∧ RB a B ∧ a.cell? ⟨B1, 0, none⟩ = some v0 ∧ a.cell? ⟨B1, 1, none⟩ = some v1 ∧ a.cell? ⟨B1, 2, none⟩ = some v2 ∧
      a.cell? ⟨B2, 0, none⟩ = some v3 ∧ a.cell? ⟨B2, 1, none⟩ = some v4 ∧ a.cell? ⟨B2, 2, none⟩ = some v5 ∧
      a.cell? ⟨B, 0, none⟩ = some (cellOf a ⟨B, 0, none⟩) ∧ a.cell? ⟨B, 1, none⟩ = some (cellOf a ⟨B, 1, none⟩) ∧ a.cell? ⟨B, 2, none⟩ = some (cellOf a ⟨B, 2, none⟩) ∧
      a.frozen? ⟨B, 0, none⟩ = false ∧ a.frozen? ⟨B, 1, none⟩ = false ∧ a.frozen? ⟨B, 2, none⟩ = false := ⟨h0, hB, h1, h2, h3, h4, h5, h6, hB.cell⟩
theorem hold6_call {n : Nat} {w0 a b : World} {B1 B2 B : Nat} {v0 v1 v2 v3 v4 v5 : Value} {R : Prop} (hn : n ≤ w0.heap.size) (hb : Below a.heap.size a b)
    (h : Below n w0 a ∧ RB a B ∧ a.cell? ⟨B1, 0, none⟩ = some v0 ∧ a.cell? ⟨B1, 1, none⟩ = some v1 ∧ a.cell? ⟨B1, 2, none⟩ = some v2 ∧
      a.cell? ⟨B2, 0, none⟩ = some v3 ∧ a.cell? ⟨B2, 1, none⟩ = some v4 ∧ a.cell? ⟨B2, 2, none⟩ = some v5 ∧ R) :
    Below n w0 b ∧ RB b B ∧ b.cell? ⟨B1, 0, none⟩ = some v0 ∧ b.cell? ⟨B1, 1, none⟩ = some v1 ∧ b.cell? ⟨B1, 2, none⟩ = some v2 ∧
      b.cell? ⟨B2, 0, none⟩ = some v3 ∧ b.cell? ⟨B2, 1, none⟩ = some v4 ∧ b.cell? ⟨B2, 2, none⟩ = some v5 ∧
      b.cell? ⟨B, 0, none⟩ = some (cellOf b ⟨B, 0, none⟩) ∧ b.cell? ⟨B, 1, none⟩ = some (cellOf b ⟨B, 1, none⟩) ∧ b.cell? ⟨B, 2, none⟩ = some (cellOf b ⟨B, 2, none⟩) ∧
      b.frozen? ⟨B, 0, none⟩ = false ∧ b.frozen? ⟨B, 1, none⟩ = false ∧ b.frozen? ⟨B, 2, none⟩ = false := by
  obtain ⟨h0, hB, h1, h2, h3, h4, h5, h6, _⟩ := h
  have e : ∀ B1 j v, a.cell? ⟨B1, j, none⟩ = some v → b.cell? ⟨B1, j, none⟩ = some v := fun B1 j v h => (hb.cell (p := ⟨B1, j, none⟩) (World.block_lt_of_cell? (h := h))).trans h
  have hs := h0.size
  exact hold6 (h0.trans (hb.mono (by omega))) (e _ _ _ h1) (e _ _ _ h2) (e _ _ _ h3) (e _ _ _ h4) (e _ _ _ h5) (e _ _ _ h6) (hB.keep hb hB.lt)
theorem hold6_store {n : Nat} {w0 a : World} {B1 B2 B : Nat} {v0 v1 v2 v3 v4 v5 : Value} {R : Prop} (neg : Bool) (x1 y1 : Option Addr) (i1 j1 k1 l1 : Nat) (hn : n ≤ B) (hne : B1 ≠ B) (hne2 : B2 ≠ B)
    (h : Below n w0 a ∧ RB a B ∧ a.cell? ⟨B1, 0, none⟩ = some v0 ∧ a.cell? ⟨B1, 1, none⟩ = some v1 ∧ a.cell? ⟨B1, 2, none⟩ = some v2 ∧
      a.cell? ⟨B2, 0, none⟩ = some v3 ∧ a.cell? ⟨B2, 1, none⟩ = some v4 ∧ a.cell? ⟨B2, 2, none⟩ = some v5 ∧ R) (b : World)
    (hb : b = ((a.setCell ⟨B, 0, none⟩ (.bool neg)).setCell ⟨B, 1, none⟩ (.slice x1 i1 j1)).setCell ⟨B, 2, none⟩ (.slice y1 k1 l1)) :
    Below n w0 b ∧ RB b B ∧ b.cell? ⟨B1, 0, none⟩ = some v0 ∧ b.cell? ⟨B1, 1, none⟩ = some v1 ∧ b.cell? ⟨B1, 2, none⟩ = some v2 ∧
      b.cell? ⟨B2, 0, none⟩ = some v3 ∧ b.cell? ⟨B2, 1, none⟩ = some v4 ∧ b.cell? ⟨B2, 2, none⟩ = some v5 ∧
      b.cell? ⟨B, 0, none⟩ = some (cellOf b ⟨B, 0, none⟩) ∧ b.cell? ⟨B, 1, none⟩ = some (cellOf b ⟨B, 1, none⟩) ∧ b.cell? ⟨B, 2, none⟩ = some (cellOf b ⟨B, 2, none⟩) ∧
      b.frozen? ⟨B, 0, none⟩ = false ∧ b.frozen? ⟨B, 1, none⟩ = false ∧ b.frozen? ⟨B, 2, none⟩ = false := by
  obtain ⟨h0, hB, h1, h2, h3, h4, h5, h6, _⟩ := h
  subst hb
  have e : ∀ B1 j v, B1 ≠ B → a.cell? ⟨B1, j, none⟩ = some v → (((a.setCell ⟨B, 0, none⟩ (.bool neg)).setCell ⟨B, 1, none⟩ (.slice x1 i1 j1)).setCell ⟨B, 2, none⟩ (.slice y1 k1 l1)).cell? ⟨B1, j, none⟩ = some v := fun B1 j v hne h => by
    rw [World.cell?_setCell_other, World.cell?_setCell_other, World.cell?_setCell_other, h]
    all_goals intro e; cases e; exact hne rfl
  exact hold6 (below_store3 h0 hn) (e _ _ _ hne h1) (e _ _ _ hne h2) (e _ _ _ hne h3) (e _ _ _ hne2 h4) (e _ _ _ hne2 h5) (e _ _ _ hne2 h6) (hB.store ..)

/-- Three boxes laid one behind the other. -/
theorem boxes3 (w : World) (A1 A2 A3 : Array Value) (T : Nat) (W : World) (hW : W = ((w.alloc (.cells A1 T)).alloc (.cells A2 T)).alloc (.cells A3 T)) :
    Below w.heap.size w W ∧ W.heap[w.heap.size]? = some (.cells A1 T (0, 0)) ∧ W.heap[w.heap.size + 1]? = some (.cells A2 T (0, 0)) ∧ W.heap[w.heap.size + 2]? = some (.cells A3 T (0, 0)) := by
  subst hW
  refine ⟨(((Below.refl _ _).alloc (Nat.le_refl _) _).alloc (by simp) _).alloc (by simp; omega) _, ?_, ?_, ?_⟩
  · rw [heap_alloc_old _ _ (by simp; omega), heap_alloc_old _ _ (by simp)]; exact blk_new w A1 T
  · rw [heap_alloc_old _ _ (by simp)]; have := blk_new (w.alloc (.cells A1 T)) A2 T; rw [World.size_alloc] at this; exact this
  · have := blk_new ((w.alloc (.cells A1 T)).alloc (.cells A2 T)) A3 T; rw [World.size_alloc, World.size_alloc] at this; exact this

def szQ (q : Rat) (k : Nat) : Prop := (dig b32 q.num.natAbs).length ≤ k ∧ (dig b32 q.den).length ≤ k

theorem sg_mul (a b : Bool) (m n : Nat) : sg (!(a == b)) (m * n) = sg a m * sg b n := by
  cases a <;> cases b <;> simp [sg, Int.neg_mul, Int.mul_neg]
theorem sg_self (q : Rat) : sg (decide (q.num < 0)) q.num.natAbs = q.num := by
  unfold sg
  by_cases h : q.num < 0 <;> simp [h] <;> omega
theorem mkQ_mul (x y : Rat) : mkQ (!(decide (x.num < 0) == decide (y.num < 0))) (x.num.natAbs * y.num.natAbs) (x.den * y.den) = x * y := by
  unfold mkQ
  rw [sg_mul, sg_self, sg_self, Rat.mul_def, Rat.normalize_eq_mkRat]

end Go.Proofs.Ytkdcgkafjkklcaa

/- THE WALKS OF THE REFERENCE's FRACTIONS: Add. -/
namespace Go.Proofs.Ytkdcgkafjkklcaa
open Go.RowKit

theorem mkQ_add (x y : Rat) (s : Bool) (n : Nat) (h : sg s n = sg (decide (x.num < 0)) (x.num.natAbs * y.den) + sg (decide (y.num < 0)) (y.num.natAbs * x.den)) : mkQ s n (x.den * y.den) = x + y := by
  unfold mkQ
  rw [h, Rat.add_def, Rat.normalize_eq_mkRat]
  have e : ∀ (b : Bool) (m k : Nat), sg b (m * k) = sg b m * (k : Int) := fun b m k => by cases b <;> simp [sg, Int.neg_mul]
  rw [e, e, sg_self, sg_self]
theorem sg_add (s : Bool) (m n : Nat) : sg s (m + n) = sg s m + sg s n := by
  cases s <;> simp [sg] <;> omega
theorem sg_sub {s t : Bool} (h : (s == t) = false) {m n : Nat} (hle : n ≤ m) : sg s (m - n) = sg s m + sg t n := by
  cases s <;> cases t <;> simp [sg] at h ⊢ <;> omega

end Go.Proofs.Ytkdcgkafjkklcaa

/- THE WALKS OF THE REFERENCE's FRACTIONS: Sub, Cmp, two. -/
namespace Go.Proofs.Ytkdcgkafjkklcaa
open Go.RowKit

theorem sgnQ_sub (x y : Rat) : sgnQ (x - y) = cmpR x y := by
  unfold cmpR
  rcases sgnQ_cases (x - y) with ⟨h, e⟩ | ⟨h, e⟩ | ⟨h, e⟩
  · have h1 : x - y < 0 := by rw [Rat.lt_iff]; simpa using h
    rw [e, if_pos (by grind)]
  · have h1 : x - y = 0 := Rat.num_eq_zero.1 h
    rw [e, if_neg (by grind), if_neg (by grind)]
  · have h1 : 0 < x - y := by rw [Rat.lt_iff]; simpa using h
    rw [e, if_neg (by grind), if_pos (by grind)]

/-- A power of two: 2^a over 2^b, one of which is 1. -/
def pw2 (a b : Nat) : Rat := mkQ false (2 ^ a) (2 ^ b)
theorem pw2_neg (b : Nat) : (pw2 0 b).num.natAbs = 1 ∧ (pw2 0 b).den = 2 ^ b ∧ decide ((pw2 0 b).num < 0) = false := by
  unfold pw2
  rw [mkQ_num _ _ _ (Nat.two_pow_pos b), mkQ_den _ _ _ (Nat.two_pow_pos b), mkQ_neg _ _ _ (Nat.two_pow_pos b) (by simp)]
  simp
theorem pw2_pos (a : Nat) : (pw2 a 0).num.natAbs = 2 ^ a ∧ (pw2 a 0).den = 1 ∧ decide ((pw2 a 0).num < 0) = false := by
  unfold pw2
  rw [mkQ_num _ _ _ (Nat.two_pow_pos 0), mkQ_den _ _ _ (Nat.two_pow_pos 0), mkQ_neg _ _ _ (Nat.two_pow_pos 0) (by have := Nat.two_pow_pos a; omega)]
  simp

end Go.Proofs.Ytkdcgkafjkklcaa

/- THE WALKS OF math.IsNaN, Abs, IsInf. -/
namespace Go.Proofs.Ytkdcgkafjkklcaa
open Go.RowKit

set_option maxHeartbeats 1000000 in
theorem isNaN_any (b : Nat) (w : World) : Calls Try.prog 134 #[.float .f64 b] w (fun e w' => e = .returned (.bool (decide (infR < b % sgnW))) ∧ w = w') := by
  have h := order_self b
  generalize decide (infR < b % sgnW) = t at *
  go_enter Try.func134, Try.ntmps134
  go_wp2_with fail
  go_ret
  exact ⟨rfl, rfl⟩

theorem run_Float64bits (b : Nat) (w : World) : (callFunc 136 #[.float .f64 b]).run Try.prog w = .ok (.value (.int .u64 (b : Nat))) w := by
  rw [run_callFunc_extern Try.func136 (by kernel_rfl) (by kernel_rfl) (by kernel_rfl) (e := Extern.MathFloatBits.float64bits) (by kernel_rfl)]
  rfl
theorem run_Float64frombits (b : Nat) (w : World) : (callFunc 143 #[.int .u64 (b : Nat)]).run Try.prog w = .ok (.value (.float .f64 b)) w := by
  rw [run_callFunc_extern Try.func143 (by kernel_rfl) (by kernel_rfl) (by kernel_rfl) (e := Extern.MathFloatBits.float64frombits) (by kernel_rfl)]
  rfl

theorem bits_andNot_sign (b : Nat) (hb : b < b64) : bits .andNot .u64 (b : Int) 9223372036854775808 = ((b % sgnW : Nat) : Int) := by
  unfold b64 at hb
  have h := u64_andNot_nat b 9223372036854775808 (by omega) (by omega)
  have e : b &&& (18446744073709551615 - 9223372036854775808) = b % sgnW := by
    unfold sgnW
    exact Nat.and_two_pow_sub_one_eq_mod b 63
  rw [e] at h
  exact h

set_option maxHeartbeats 1000000 in
theorem abs_any (b : Nat) (w : World) (hb : b < b64) : Calls Try.prog 141 #[.float .f64 b] w (fun e w' => e = .returned (.float .f64 (b % sgnW)) ∧ w = w') := by
  have h1 := run_Float64bits
  have h2 := run_Float64frombits
  have h3 := bits_andNot_sign b hb
  generalize b % sgnW = r at *
  clear hb
  go_enter Try.func141, Try.ntmps141
  go_wp2_with fail
  go_ret
  exact ⟨rfl, rfl⟩

set_option maxHeartbeats 1000000 in
theorem isInf_any (b : Nat) (w : World) (hb : b < b64) (hn : ¬ infR < b % sgnW) : Calls Try.prog 135 #[.float .f64 b, .int .i64 0] w (fun e w' => e = .returned (.bool (decide (b % sgnW = infR))) ∧ w = w') := by
  have h := order_max (b % sgnW) (Nat.mod_lt _ (by unfold sgnW; omega)) hn
  unfold maxF at h
  generalize hd : decide (b % sgnW = infR) = d at *
  have Ha := Lib.hid (fun w => abs_any b w hb)
  clear hd hb hn
  generalize b % sgnW = r at *
  go_enter Try.func135, Try.ntmps135
  go_wp2_with fail
  refine (Ha.out _).mono ?_
  rintro e w' ⟨rfl, rfl⟩
  go_wp2_with fail
  go_ret
  exact ⟨rfl, rfl⟩

/-- The parts of a float64's bits. -/
def fE (b : Nat) : Nat := b / bin52 % 2048
def fM0 (b : Nat) : Nat := b % bin52
def fM (b : Nat) : Nat := if fE b = 0 then fM0 b else fM0 b + bin52
def fE1 (b : Nat) : Nat := if fE b = 0 then 1 else fE b
def fS (b : Nat) : Bool := decide (b / sgnW = 1)
/-- The exact value of a float64's bits (of a finite number). -/
def fval (b : Nat) : Rat := mkQ (fS b) (fM b * 2 ^ (fE1 b - 1075)) (2 ^ (1075 - fE1 b))

theorem fE_2047 (b : Nat) (hb : b < b64) : fE b = 2047 ↔ infR ≤ b % sgnW := by
  unfold fE infR sgnW bin52
  unfold b64 at hb
  omega

theorem bits_m0 (b : Nat) (hb : b < b64) : bits .and .u64 (b : Int) 4503599627370495 = ((fM0 b : Nat) : Int) := by
  have h := bits_and_nat b 4503599627370495 hb (by unfold b64; omega)
  have e : b &&& 4503599627370495 = fM0 b := Nat.and_two_pow_sub_one_eq_mod b 52
  rw [e] at h
  exact h
theorem bits_e (b : Nat) (hb : b < b64) : bits .and .u64 ((b : Int) / 4503599627370496) 2047 = ((fE b : Nat) : Int) := by
  have h := bits_and_nat (b / 4503599627370496) 2047 (Nat.lt_of_le_of_lt (Nat.div_le_self _ _) hb) (by unfold b64; omega)
  have e : b / 4503599627370496 &&& 2047 = fE b := Nat.and_two_pow_sub_one_eq_mod _ 11
  rw [e] at h
  have e2 : ((b : Int) / 4503599627370496) = ((b / 4503599627370496 : Nat) : Int) := by simp
  rw [e2]
  exact h
theorem bits_m (b : Nat) : bits .or .u64 ((fM0 b : Nat) : Int) 4503599627370496 = ((fM0 b + bin52 : Nat) : Int) := by
  have hlt : fM0 b < bin52 := Nat.mod_lt _ (by unfold bin52; omega)
  have hlt' := hlt
  unfold bin52 at hlt'
  have h := bits_or_nat (fM0 b) 4503599627370496 (by unfold b64; omega) (by unfold b64; omega)
  have e : fM0 b ||| 4503599627370496 = fM0 b + bin52 := by
    have := or_disjoint 1 (fM0 b) 52 (by unfold bin52 at hlt; exact hlt)
    rw [show (1 * 2 ^ 52 : Nat) = 4503599627370496 from by simp] at this
    rw [Nat.or_comm, this]
    unfold bin52
    omega
  rw [e] at h
  exact h


theorem bits_s (b : Nat) : (((b : Int) / 9223372036854775808) == 1) = fS b := by
  unfold fS sgnW
  rw [Bool.eq_iff_iff]
  simp
  omega

theorem fM_lt (b : Nat) : fM b < 2 * bin52 := by
  have hlt : fM0 b < bin52 := Nat.mod_lt _ (by unfold bin52; omega)
  unfold fM; split <;> omega
theorem bin52_b64 : 2 * bin52 < b64 := by unfold bin52 b64; omega

/-- The words of a number times a power of two. -/
theorem dig_pow_le (m k j : Nat) (hm : m < b64) (hk : k ≤ 64 * j) : (dig b64 (m * 2 ^ k)).length ≤ j + 1 := by
  refine dig_length_le b64_two _ _ ?_
  have h1 : 2 ^ k ≤ b64 ^ j := by rw [b64_pow, ← Nat.pow_mul]; exact Nat.pow_le_pow_right (by omega) hk
  rw [Nat.pow_succ, Nat.mul_comm (b64 ^ j)]
  exact Nat.mul_lt_mul_of_lt_of_le hm h1 (Nat.pow_pos b64_pos)

set_option maxHeartbeats 1000000 in
theorem float_err (b : Nat) (w : World) (hb : b < b64) (he : fE b = 2047) : Calls Try.prog 122 #[.float .f64 b] w (RetRatE 0 1 w) := by
  have hi := (fE_2047 b hb).1 he
  have hal : Below w.heap.size w (w.alloc (.cells #[.bool false, .slice none 0 0, .slice none 0 0] 50)) := (Below.refl _ _).alloc (Nat.le_refl _) _
  by_cases hn : infR < b % sgnW
  · have t : decide (infR < b % sgnW) = true := by simp [hn]
    clear he hi hn hb
    go_enter Try.func122, Try.ntmps122
    go_wp2_with fail
    refine (isNaN_any b _).mono ?_
    rw [t]
    rintro e w' ⟨rfl, rfl⟩
    go_wp2_with fail
    refine bodyPost_ret (v := .tuple #[.agg #[.bool false, .slice none 0 0, .slice none 0 0], .int .i64 1]) (by simp [results, Try.results122, go_sem]) rfl ⟨_, rfl, IsRat.zero _, hal⟩
  · have t : decide (infR < b % sgnW) = false := by simp [hn]
    have t2 : decide (b % sgnW = infR) = true := by simp; omega
    have Hi := Lib.hid (fun w => isInf_any b w hb hn)
    clear he hi hn hb
    go_enter Try.func122, Try.ntmps122
    go_wp2_with fail
    refine (isNaN_any b _).mono ?_
    rw [t]
    rintro e w' ⟨rfl, rfl⟩
    go_wp2_with fail
    refine (Hi.out _).mono ?_
    rw [t2]
    rintro e w' ⟨rfl, rfl⟩
    go_wp2_with fail
    refine bodyPost_ret (v := .tuple #[.agg #[.bool false, .slice none 0 0, .slice none 0 0], .int .i64 1]) (by simp [results, Try.results122, go_sem]) rfl ⟨_, rfl, IsRat.zero _, hal⟩

set_option maxHeartbeats 2000000 in
theorem float_ok (b : Nat) (w : World) (hb : b < b64) (he : fE b ≠ 2047) : Calls Try.prog 122 #[.float .f64 b] w (RetRatE (fval b) 0 w) := by
  have hi : ¬ infR ≤ b % sgnW := fun h => he ((fE_2047 b hb).2 h)
  have t : decide (infR < b % sgnW) = false := by simp; omega
  have t2 : decide (b % sgnW = infR) = false := by simp; omega
  have Hi := Lib.hid (fun w => isInf_any b w hb (by omega))
  have h1 := run_Float64bits
  have e1 := bits_m0 b hb
  have e2 := bits_e b hb
  have e3 := bits_m b
  have e4 := bits_s b
  have hE : (fE b : Int) ≤ 2047 := by have := Nat.mod_lt (b / bin52) (show 0 < 2048 by omega); show ((b / bin52 % 2048 : Nat) : Int) ≤ 2047; omega
  have hal : Below w.heap.size w (w.alloc (.cells #[.bool false, .slice none 0 0, .slice none 0 0] 50)) := (Below.refl _ _).alloc (Nat.le_refl _) _
  have hB0 := blk_new w #[.bool false, .slice none 0 0, .slice none 0 0] 50
  have hM := Nat.lt_trans (fM_lt b) bin52_b64
  obtain ⟨M, hMe⟩ : ∃ M, M = fM b := ⟨_, rfl⟩
  obtain ⟨E, hEe⟩ : ∃ E, E = fE1 b := ⟨_, rfl⟩
  have Hv : Hid (fval b = mkQ (fS b) (M * 2 ^ (E - 1075)) (2 ^ (1075 - E))) := by show fval b = _; rw [hMe, hEe]; rfl
  rw [← hMe] at hM
  have hE1 : E ≤ 2047 := by rw [hEe]; unfold fE1; split <;> omega
  have HM := Lib.hid hM
  by_cases h0 : fE b = 0
  · have c1 : ((fE b : Int) == 0) = true := by simp [h0]
    have hM0 : M = fM0 b := by rw [hMe]; simp [fM, h0]
    have hE0 : E = 1 := by rw [hEe]; simp [fE1, h0]
    rw [← hM0] at e1
    subst hE0
    clear hMe hEe hM0 h0 hi hM e3
    obtain ⟨k, hk⟩ : ∃ k, k = 1075 - 1 := ⟨_, rfl⟩
    have e5 : (1074 : Int) = (k : Int) := by omega
    have hk2 : k ≤ 1075 := by omega
    have Hq : Hid (mkQ (fS b) M (2 ^ k) = fval b) := by
      show mkQ (fS b) M (2 ^ k) = fval b
      rw [Hv.out, ← hk, show 1 - 1075 = 0 from rfl, Nat.pow_zero, Nat.mul_one]
    clear hk
    clear Hv hE1 he
    generalize fE b = eb at *
    go_enter Try.func122, Try.ntmps122
    go_wp2_with fail
    refine (isNaN_any b _).mono ?_
    rw [t]
    rintro e w' ⟨rfl, rfl⟩
    go_wp2_with fail
    refine (Hi.out _).mono ?_
    rw [t2]
    rintro e w' ⟨rfl, rfl⟩
    clear t t2 Hi
    go_wp2_with fail
    refine (word_any M _ HM.out).mono ?_
    rintro e w1 ⟨v1, rfl, hv1, hb1⟩
    have hx1 := ext_trans hal hb1
    have hB1 := blk_keep hB0 hb1 (by simp)
    clear hal hB0
    go_wp2_with fail
    refine (show Calls _ _ #[.int .u64 1] _ _ from word_any 1 _ (by unfold b64; omega)).mono ?_
    rintro e w2 ⟨v2, rfl, hv2, hb2⟩
    have hx2 := ext_trans hx1 hb2
    have hB2 := blk_keep hB1 hb2 (blk_lt hB1)
    have hv12 := hv1.below hb2
    clear hx1 hB1 hb1 hv1
    go_wp2_with fail
    refine (show Calls _ _ #[v2, .int .i64 (k : Nat)] _ _ from left_any 1 k _ _ hv2 (by have := dig_length_le b64_two 1 1 (by unfold b64; omega); omega) (by omega)).mono ?_
    rintro e w3 ⟨v3, rfl, hv3, hb3⟩
    have hx3 := ext_trans hx2 hb3
    have hB3 := blk_keep hB2 hb3 (blk_lt hB2)
    have hv13 := hv12.below hb3
    clear hx2 hB2 hb2 hv12 hv2
    rw [Nat.one_mul] at hv3
    go_wp2_with fail
    refine (reduced_any (fS b) M (2 ^ k) _ _ _ hv13 hv3 (Nat.two_pow_pos _) (by have := dig_length_le b64_two 1 M (by simpa using HM.out); omega) (by have := dig_pow_le 1 k 17 (by unfold b64; omega) (by omega); rw [Nat.one_mul] at this; omega)).mono ?_
    rintro e w4 ⟨v, rfl, hv, hb4⟩
    rw [Hq.out] at hv
    have hx4 := ext_trans hx3 hb4
    have hB4 := blk_keep hB3 hb4 (blk_lt hB3)
    obtain ⟨a1, n1, a2, n2, rfl, hn', hd'⟩ := hv.opened
    have HB4 := Lib.hid hB4
    have hBl := blk_lt hB4
    have c0 := blk_cell hB4 0 (.bool false) rfl
    have c1 := blk_cell hB4 1 (.slice none 0 0) rfl
    have c2 := blk_cell hB4 2 (.slice none 0 0) rfl
    have f0 := blk_frozen hB4 0
    have f1 := blk_frozen hB4 1
    have f2 := blk_frozen hB4 2
    clear hv hb3 hb4 hx3 hB3 hB4 hv13 hv3
    generalize fval b = q at *
    go_wp2_with fail
    refine bodyPost_ret (v := .tuple #[.agg #[.bool (decide (q.num < 0)), .slice a1 (dig b64 q.num.natAbs).length _, .slice a2 (dig b64 (dn q.den)).length _], .int .i64 0]) (by simp [results, Try.results122, go_sem, c0, c1, c2]; first | done | exact ⟨⟨rfl, rfl⟩, rfl⟩ | exact ⟨rfl, rfl⟩ | rfl) rfl ⟨_, rfl, ?_, below_store3 hx4 (Nat.le_refl _)⟩
    exact ⟨_, _, rfl, store3 HB4.out hn', store3 HB4.out hd'⟩
  · have c1 : ((fE b : Int) == 0) = false := by simp; omega
    have hM0 : M = fM0 b + bin52 := by rw [hMe]; simp [fM, h0]
    have hE0 : E = fE b := by rw [hEe]; simp [fE1, h0]
    rw [← hM0] at e3
    rw [← hE0] at e2 c1 hE
    have c2 : ¬ (E = 0) := by omega
    clear hMe hEe hM0 hE0 h0 hi hM
    by_cases h5 : 1075 ≤ E
    · have Hq : Hid (mkQ (fS b) (M * 2 ^ (E - 1075)) 1 = fval b) := by show _ = _; rw [Hv.out, Nat.sub_eq_zero_of_le h5, Nat.pow_zero]
      have e5 : (E : Int) - 1075 = ((E - 1075 : Nat) : Int) := by omega
      have c3 : (1075 : Int) ≤ E := by omega
      clear Hv he
      go_enter Try.func122, Try.ntmps122
      go_wp2_with fail
      refine (isNaN_any b _).mono ?_
      rw [t]
      rintro e w' ⟨rfl, rfl⟩
      go_wp2_with fail
      refine (Hi.out _).mono ?_
      rw [t2]
      rintro e w' ⟨rfl, rfl⟩
      clear t t2 Hi
      go_wp2_with fail
      refine (word_any M _ HM.out).mono ?_
      rintro e w1 ⟨v1, rfl, hv1, hb1⟩
      have hx1 := ext_trans hal hb1
      have hB1 := blk_keep hB0 hb1 (by simp)
      clear hal hB0
      go_wp2_with fail
      refine (left_any M (E - 1075) _ _ hv1 (by have := dig_length_le b64_two 1 M (by simpa using HM.out); omega) (by omega)).mono ?_
      rintro e w2 ⟨v2, rfl, hv2, hb2⟩
      have hx2 := ext_trans hx1 hb2
      have hB2 := blk_keep hB1 hb2 (blk_lt hB1)
      clear hx1 hB1 hb1 hv1
      go_wp2_with fail
      refine (show Calls _ _ #[.int .u64 1] _ _ from word_any 1 _ (by unfold b64; omega)).mono ?_
      rintro e w3 ⟨v3, rfl, hv3, hb3⟩
      have hx3 := ext_trans hx2 hb3
      have hB3 := blk_keep hB2 hb3 (blk_lt hB2)
      have hv13 := hv2.below hb3
      clear hx2 hB2 hb2 hv2
      go_wp2_with fail
      refine (reduced_any (fS b) (M * 2 ^ (E - 1075)) 1 _ _ _ hv13 hv3 (by omega) (by have := dig_pow_le M (E - 1075) 16 HM.out (by omega); omega) (by have := dig_length_le b64_two 1 1 (by unfold b64; omega); omega)).mono ?_
      rintro e w4 ⟨v, rfl, hv, hb4⟩
      rw [Hq.out] at hv
      have hx4 := ext_trans hx3 hb4
      have hB4 := blk_keep hB3 hb4 (blk_lt hB3)
      obtain ⟨a1, n1, a2, n2, rfl, hn', hd'⟩ := hv.opened
      have HB4 := Lib.hid hB4
      have hBl := blk_lt hB4
      have c0 := blk_cell hB4 0 (.bool false) rfl
      have c1 := blk_cell hB4 1 (.slice none 0 0) rfl
      have c2 := blk_cell hB4 2 (.slice none 0 0) rfl
      have f0 := blk_frozen hB4 0
      have f1 := blk_frozen hB4 1
      have f2 := blk_frozen hB4 2
      clear hv hb3 hb4 hx3 hB3 hB4 hv13 hv3
      generalize fval b = q at *
      go_wp2_with fail
      refine bodyPost_ret (v := .tuple #[.agg #[.bool (decide (q.num < 0)), .slice a1 (dig b64 q.num.natAbs).length _, .slice a2 (dig b64 (dn q.den)).length _], .int .i64 0]) (by simp [results, Try.results122, go_sem, c0, c1, c2]; first | done | exact ⟨⟨rfl, rfl⟩, rfl⟩ | exact ⟨rfl, rfl⟩ | rfl) rfl ⟨_, rfl, ?_, below_store3 hx4 (Nat.le_refl _)⟩
      exact ⟨_, _, rfl, store3 HB4.out hn', store3 HB4.out hd'⟩
    · have Hq : Hid (mkQ (fS b) M (2 ^ (1075 - E)) = fval b) := by show _ = _; rw [Hv.out, Nat.sub_eq_zero_of_le (show E ≤ 1075 by omega), Nat.pow_zero, Nat.mul_one]
      obtain ⟨k, hk⟩ : ∃ k, k = 1075 - E := ⟨_, rfl⟩
      have e5 : (1075 : Int) - E = (k : Int) := by omega
      have hk2 : k ≤ 1075 := by omega
      rw [← hk] at Hq
      have c3 : (E : Int) < 1075 := by omega
      have c4 : decide ((1075 : Int) ≤ E) = false := by simp; omega
      clear Hv he hk
      go_enter Try.func122, Try.ntmps122
      go_wp2_with fail
      refine (isNaN_any b _).mono ?_
      rw [t]
      rintro e w' ⟨rfl, rfl⟩
      go_wp2_with fail
      refine (Hi.out _).mono ?_
      rw [t2]
      rintro e w' ⟨rfl, rfl⟩
      clear t t2 Hi
      go_wp2_with fail
      refine (word_any M _ HM.out).mono ?_
      rintro e w1 ⟨v1, rfl, hv1, hb1⟩
      have hx1 := ext_trans hal hb1
      have hB1 := blk_keep hB0 hb1 (by simp)
      clear hal hB0
      go_wp2_with fail
      refine (show Calls _ _ #[.int .u64 1] _ _ from word_any 1 _ (by unfold b64; omega)).mono ?_
      rintro e w2 ⟨v2, rfl, hv2, hb2⟩
      have hx2 := ext_trans hx1 hb2
      have hB2 := blk_keep hB1 hb2 (blk_lt hB1)
      have hv12 := hv1.below hb2
      clear hx1 hB1 hb1 hv1
      go_wp2_with fail
      refine (show Calls _ _ #[v2, .int .i64 (k : Nat)] _ _ from left_any 1 k _ _ hv2 (by have := dig_length_le b64_two 1 1 (by unfold b64; omega); omega) (by omega)).mono ?_
      rintro e w3 ⟨v3, rfl, hv3, hb3⟩
      have hx3 := ext_trans hx2 hb3
      have hB3 := blk_keep hB2 hb3 (blk_lt hB2)
      have hv13 := hv12.below hb3
      clear hx2 hB2 hb2 hv12 hv2
      rw [Nat.one_mul] at hv3
      go_wp2_with fail
      refine (reduced_any (fS b) M (2 ^ k) _ _ _ hv13 hv3 (Nat.two_pow_pos _) (by have := dig_length_le b64_two 1 M (by simpa using HM.out); omega) (by have := dig_pow_le 1 k 17 (by unfold b64; omega) (by omega); rw [Nat.one_mul] at this; omega)).mono ?_
      rintro e w4 ⟨v, rfl, hv, hb4⟩
      rw [Hq.out] at hv
      have hx4 := ext_trans hx3 hb4
      have hB4 := blk_keep hB3 hb4 (blk_lt hB3)
      obtain ⟨a1, n1, a2, n2, rfl, hn', hd'⟩ := hv.opened
      have HB4 := Lib.hid hB4
      have hBl := blk_lt hB4
      have c0 := blk_cell hB4 0 (.bool false) rfl
      have c1 := blk_cell hB4 1 (.slice none 0 0) rfl
      have c2 := blk_cell hB4 2 (.slice none 0 0) rfl
      have f0 := blk_frozen hB4 0
      have f1 := blk_frozen hB4 1
      have f2 := blk_frozen hB4 2
      clear hv hb3 hb4 hx3 hB3 hB4 hv13 hv3
      generalize fval b = q at *
      go_wp2_with fail
      refine bodyPost_ret (v := .tuple #[.agg #[.bool (decide (q.num < 0)), .slice a1 (dig b64 q.num.natAbs).length _, .slice a2 (dig b64 (dn q.den)).length _], .int .i64 0]) (by simp [results, Try.results122, go_sem, c0, c1, c2]; first | done | exact ⟨⟨rfl, rfl⟩, rfl⟩ | exact ⟨rfl, rfl⟩ | rfl) rfl ⟨_, rfl, ?_, below_store3 hx4 (Nat.le_refl _)⟩
      exact ⟨_, _, rfl, store3 HB4.out hn', store3 HB4.out hd'⟩

end Go.Proofs.Ytkdcgkafjkklcaa

/- THE WALK OF THE REFERENCE's Float. -/
namespace Go.Proofs.Ytkdcgkafjkklcaa
open Go.RowKit

theorem RB.isRow {w : World} {B : Nat} (h : RB w B) {k : IntKind} {v : Value} {ds : List Nat} (hv : IsRow k w v ds) (neg : Bool) (x1 y1 : Option Addr) (i1 j1 k1 l1 : Nat) :
    IsRow k (((w.setCell ⟨B, 0, none⟩ (.bool neg)).setCell ⟨B, 1, none⟩ (.slice x1 i1 j1)).setCell ⟨B, 2, none⟩ (.slice y1 k1 l1)) v ds := by
  obtain ⟨b, x, i, j, y, k, l, T, h⟩ := h
  exact store3 h hv
theorem RB.far {w : World} {B B' : Nat} (h : RB w B) (hne : B' ≠ B) (neg : Bool) (x1 y1 : Option Addr) (i1 j1 k1 l1 : Nat) :
    RB (((w.setCell ⟨B', 0, none⟩ (.bool neg)).setCell ⟨B', 1, none⟩ (.slice x1 i1 j1)).setCell ⟨B', 2, none⟩ (.slice y1 k1 l1)) B := by
  obtain ⟨b, x, i, j, y, k, l, T, h⟩ := h
  exact ⟨b, x, i, j, y, k, l, T, by rw [heap_setCell_other _ _ _ _ (Ne.symm hne), heap_setCell_other _ _ _ _ (Ne.symm hne), heap_setCell_other _ _ _ _ (Ne.symm hne)]; exact h⟩
theorem mkQ_pw2 (m a b : Nat) : mkQ false m 1 * pw2 a b = mkQ false (m * 2 ^ a) (2 ^ b) := by
  unfold pw2 mkQ
  rw [Rat.mkRat_mul_mkRat, Nat.one_mul]
  have := sg_mul false false m (2 ^ a)
  simp only [BEq.rfl, Bool.not_true] at this
  rw [this]
theorem mkQ_negate (m d : Nat) : -mkQ false m d = mkQ true m d := by
  unfold mkQ sg
  rw [Rat.neg_mkRat]
  rfl
theorem pw2_size (a b : Nat) (ha : a ≤ 100000) (hb : b ≤ 100000) (h : a = 0 ∨ b = 0) : szQ (pw2 a b) 34359738368 := by
  have hl : ∀ k, k ≤ 100000 → (dig b32 (2 ^ k)).length ≤ 100000 := fun k hk => by
    have := dig_length_le b32_two (k / 32 + 1) (2 ^ k) (by rw [b32_pow32]; exact Nat.pow_lt_pow_right (by omega) (by omega))
    omega
  have h1 : (dig b32 1).length ≤ 1 := dig32_one
  rcases h with rfl | rfl
  · obtain ⟨e1, e2, _⟩ := pw2_neg b
    unfold szQ
    rw [e1, e2]
    have := hl b hb
    omega
  · obtain ⟨e1, e2, _⟩ := pw2_pos a
    unfold szQ
    rw [e1, e2]
    have := hl a ha
    omega
theorem mkQ_size (s : Bool) (n d k : Nat) (hd : 0 < d) (h1 : (dig b32 n).length ≤ k) (h2 : (dig b32 d).length ≤ k) : szQ (mkQ s n d) k := by
  unfold szQ
  rw [mkQ_num _ _ _ hd, mkQ_den _ _ _ hd]
  exact ⟨Nat.le_trans (dig_length_mono b32_two (Nat.div_le_self _ _)) h1, Nat.le_trans (dig_length_mono b32_two (Nat.div_le_self _ _)) h2⟩

end Go.Proofs.Ytkdcgkafjkklcaa

/- THE WALKS OF law01.Of AND OF THE REFERENCE's Of: an api.Frac as a fraction. -/
namespace Go.Proofs.Ytkdcgkafjkklcaa
open Go.RowKit

/-- What an api.Frac is worth. -/
def fracQ (n d : Int) : Rat := if d ≤ 0 then (n : Rat) else (n : Rat) / (d : Rat)

set_option maxHeartbeats 2000000 in
theorem of_any (n d : Int) (w : World) (h1 : -9223372036854775808 ≤ n) (h2 : n ≤ 9223372036854775807) (h3 : -9223372036854775808 ≤ d) (h4 : d ≤ 9223372036854775807) :
    Calls Try.prog 34 #[.agg #[.int .i64 n, .int .i64 d]] w (RetRat (fracQ n d) w) := by
  by_cases hd : d ≤ 0
  · have Hq : Hid ((n : Rat) = fracQ n d) := by show _ = fracQ n d; unfold fracQ; rw [if_pos hd]
    have hal := ((Below.refl w.heap.size w).alloc (Nat.le_refl _) (.cells #[.int .i64 n, .int .i64 d] 97)).alloc (by simp) (.cells #[.bool false, .slice none 0 0, .slice none 0 0] 50)
    have hB0 := blk_new (w.alloc (.cells #[.int .i64 n, .int .i64 d] 97)) #[.bool false, .slice none 0 0, .slice none 0 0] 50
    rw [World.size_alloc] at hB0
    go_enter Try.func34, Try.ntmps34
    go_wp2_with fail
    refine (int_any n _ h1 h2).mono ?_
    rintro e w1 ⟨v, rfl, hv, hb1⟩
    rw [Hq.out] at hv
    have hx1 := hal.trans (hb1.mono hal.size)
    have hB1 := blk_keep hB0 hb1 (by simp)
    obtain ⟨a1, c1', a2, c2', rfl, n1, n2⟩ := hv.opened
    generalize fracQ n d = q at *
    clear hv hb1 hal hB0
    have hBl := blk_lt hB1
    have c0 := blk_cell hB1 0 (.bool false) rfl
    have c1 := blk_cell hB1 1 (.slice none 0 0) rfl
    have c2 := blk_cell hB1 2 (.slice none 0 0) rfl
    have f0 := blk_frozen hB1 0
    have f1 := blk_frozen hB1 1
    have f2 := blk_frozen hB1 2
    have HB := Lib.hid hB1
    clear hB1
    have hxe := below_store3 (u0 := .bool (decide (q.num < 0))) (u1 := .slice a1 (dig b64 q.num.natAbs).length c1') (u2 := .slice a2 (dig b64 (dn q.den)).length c2') hx1 (Nat.le_succ _)
    go_wp2_with fail
    refine bodyPost_ret (v := .agg #[.bool (decide (q.num < 0)), .slice a1 (dig b64 q.num.natAbs).length _, .slice a2 (dig b64 (dn q.den)).length _]) (by simp [results, Try.results34, go_sem, c0, c1, c2]; first | done | exact ⟨rfl, rfl⟩ | rfl) rfl ⟨_, rfl, ?_, hxe⟩
    exact ⟨_, _, rfl, store3 HB.out n1, store3 HB.out n2⟩
  · have Hq : Hid ((n : Rat) / (d : Rat) = fracQ n d) := by show _ = fracQ n d; unfold fracQ; rw [if_neg hd]
    have hd0 : d ≠ 0 := by omega
    have hal := ((Below.refl w.heap.size w).alloc (Nat.le_refl _) (.cells #[.int .i64 n, .int .i64 d] 97)).alloc (by simp) (.cells #[.bool false, .slice none 0 0, .slice none 0 0] 50)
    have hB0 := blk_new (w.alloc (.cells #[.int .i64 n, .int .i64 d] 97)) #[.bool false, .slice none 0 0, .slice none 0 0] 50
    rw [World.size_alloc] at hB0
    go_enter Try.func34, Try.ntmps34
    go_wp2_with fail
    refine (new_any n d _ h1 h2 h3 h4 hd0).mono ?_
    rintro e w1 ⟨v, rfl, hv, hb1⟩
    rw [Hq.out] at hv
    have hx1 := hal.trans (hb1.mono hal.size)
    have hB1 := blk_keep hB0 hb1 (by simp)
    obtain ⟨a1, c1', a2, c2', rfl, n1, n2⟩ := hv.opened
    generalize fracQ n d = q at *
    clear hv hb1 hal hB0
    have hBl := blk_lt hB1
    have c0 := blk_cell hB1 0 (.bool false) rfl
    have c1 := blk_cell hB1 1 (.slice none 0 0) rfl
    have c2 := blk_cell hB1 2 (.slice none 0 0) rfl
    have f0 := blk_frozen hB1 0
    have f1 := blk_frozen hB1 1
    have f2 := blk_frozen hB1 2
    have HB := Lib.hid hB1
    clear hB1
    have hxe := below_store3 (u0 := .bool (decide (q.num < 0))) (u1 := .slice a1 (dig b64 q.num.natAbs).length c1') (u2 := .slice a2 (dig b64 (dn q.den)).length c2') hx1 (Nat.le_succ _)
    go_wp2_with fail
    refine bodyPost_ret (v := .agg #[.bool (decide (q.num < 0)), .slice a1 (dig b64 q.num.natAbs).length _, .slice a2 (dig b64 (dn q.den)).length _]) (by simp [results, Try.results34, go_sem, hBl, c0, c1, c2]; first | done | exact ⟨rfl, rfl⟩ | rfl) rfl ⟨_, rfl, ?_, hxe.alloc hxe.size _⟩
    exact IsRat.below (w := ((w1.setCell ⟨w.heap.size + 1, 0, none⟩ (.bool (decide (q.num < 0)))).setCell ⟨w.heap.size + 1, 1, none⟩ (.slice a1 (dig b64 q.num.natAbs).length c1')).setCell ⟨w.heap.size + 1, 2, none⟩ (.slice a2 (dig b64 (dn q.den)).length c2')) ⟨_, _, rfl, store3 HB.out n1, store3 HB.out n2⟩ ((Below.refl _ _).alloc (Nat.le_refl _) _)

theorem fracQ_bits (n d : Int) (h1 : -9223372036854775808 ≤ n) (h2 : n ≤ 9223372036854775807) (h3 : -9223372036854775808 ≤ d) (h4 : d ≤ 9223372036854775807) : (fracQ n d).num.natAbs < b64 ∧ (fracQ n d).den < b64 := by
  unfold fracQ
  split
  · rename_i h
    exact ⟨by simp; unfold b64; omega, by simp; unfold b64; omega⟩
  · rename_i h
    rw [← new_plain n d (by omega)]
    have hd : 0 < d.natAbs := by omega
    rw [mkQ_num _ _ _ hd, mkQ_den _ _ _ hd]
    exact ⟨Nat.lt_of_le_of_lt (Nat.div_le_self _ _) (by unfold b64; omega), Nat.lt_of_le_of_lt (Nat.div_le_self _ _) (by unfold b64; omega)⟩
theorem fracQ_szR (n d : Int) (h1 : -9223372036854775808 ≤ n) (h2 : n ≤ 9223372036854775807) (h3 : -9223372036854775808 ≤ d) (h4 : d ≤ 9223372036854775807) : szR (fracQ n d) 1 := by
  obtain ⟨a, b⟩ := fracQ_bits n d h1 h2 h3 h4
  exact ⟨dig_length_le b64_two 1 _ (by simpa using a), dig_length_le b64_two 1 _ (by simpa using b)⟩
theorem fracQ_szQ (n d : Int) (h1 : -9223372036854775808 ≤ n) (h2 : n ≤ 9223372036854775807) (h3 : -9223372036854775808 ≤ d) (h4 : d ≤ 9223372036854775807) : szQ (fracQ n d) 2 := by
  obtain ⟨a, b⟩ := fracQ_bits n d h1 h2 h3 h4
  unfold b64 at a b
  exact ⟨dig_length_le b32_two 2 _ (by unfold b32; omega), dig_length_le b32_two 2 _ (by unfold b32; omega)⟩

end Go.Proofs.Ytkdcgkafjkklcaa

/- TABLES: what a slice of entries reads as; the walks of store.rate. -/
namespace Go.Proofs.Ytkdcgkafjkklcaa
open Go.RowKit

/-- Four cells read as an entry: a fraction and a rate. -/
def EntAt (R : World → Value → Rat → Prop) (w : World) (b o : Nat) (e : Rat × Int) : Prop :=
  ∃ v0 vn vd, w.cell? ⟨b, o, none⟩ = some v0 ∧ w.cell? ⟨b, o + 1, none⟩ = some vn ∧ w.cell? ⟨b, o + 2, none⟩ = some vd ∧ w.cell? ⟨b, o + 3, none⟩ = some (.int .i64 e.2) ∧ R w (.agg #[v0, vn, vd]) e.1
/-- The slice v reads as the table es. -/
def EntsOf (R : World → Value → Rat → Prop) (w : World) (v : Value) (es : List (Rat × Int)) : Prop :=
  ∃ ao cap, v = .slice ao es.length cap ∧ (0 < es.length → ∃ b off, ao = some ⟨b, off, none⟩ ∧ b < w.heap.size ∧ ∀ i, i < es.length → EntAt R w b (off + i * 4) (es.getD i (0, 0)))

theorem EntAt.below {R : World → Value → Rat → Prop} (hR : ∀ w w' v q, R w v q → Below w.heap.size w w' → R w' v q) {w w' : World} {b o : Nat} {e : Rat × Int} (h : EntAt R w b o e) (hb : Below w.heap.size w w') (hl : b < w.heap.size) : EntAt R w' b o e := by
  obtain ⟨v0, vn, vd, h0, h1, h2, h3, h4⟩ := h
  have c : ∀ j v, w.cell? ⟨b, j, none⟩ = some v → w'.cell? ⟨b, j, none⟩ = some v := fun j v h => (hb.cell (p := ⟨b, j, none⟩) hl).trans h
  exact ⟨v0, vn, vd, c _ _ h0, c _ _ h1, c _ _ h2, c _ _ h3, hR _ _ _ _ h4 hb⟩
theorem EntsOf.below {R : World → Value → Rat → Prop} (hR : ∀ w w' v q, R w v q → Below w.heap.size w w' → R w' v q) {w w' : World} {v : Value} {es : List (Rat × Int)} (h : EntsOf R w v es) (hb : Below w.heap.size w w') : EntsOf R w' v es := by
  obtain ⟨ao, cap, rfl, h⟩ := h
  refine ⟨ao, cap, rfl, fun hl => ?_⟩
  obtain ⟨b, off, rfl, hlt, h⟩ := h hl
  exact ⟨b, off, rfl, Nat.lt_of_lt_of_le hlt hb.size, fun i hi => (h i hi).below hR hb hlt⟩

/-- The rate at a temperature: that of the last entry from which on it holds. -/
def rateUp (es : List (Rat × Int)) (T : Rat) : Int := es.foldl (fun acc e => if cmpR e.1 T ≤ 0 then e.2 else acc) 0
theorem rateUp_take (es : List (Rat × Int)) (T : Rat) (i : Nat) (hi : i < es.length) :
    rateUp (es.take (i + 1)) T = if cmpR (es.getD i (0, 0)).1 T ≤ 0 then (es.getD i (0, 0)).2 else rateUp (es.take i) T := by
  unfold rateUp
  rw [List.take_add_one, List.foldl_append]
  simp [hi]

theorem IsRat.belowAll : ∀ (w w' : World) (v : Value) (q : Rat), IsRat w v q → Below w.heap.size w w' → IsRat w' v q := fun _ _ _ _ h hb => h.below hb
theorem IsR.belowAll : ∀ (w w' : World) (v : Value) (q : Rat), IsR w v q → Below w.heap.size w w' → IsR w' v q := fun _ _ _ _ h hb => h.below hb

set_option maxHeartbeats 2000000 in
theorem rate_any (es : List (Rat × Int)) (T : Rat) (ve vT : Value) (w : World) (he : EntsOf IsRat w ve es) (hT : IsRat w vT T) (hs : ∀ i, i < es.length → szR (es.getD i (0, 0)).1 274877906944) (hsT : szR T 274877906944) (hlen : es.length ≤ 1000000) :
    Calls Try.prog 124 #[ve, vT] w (RetInt (rateUp es T) w) := by
  obtain ⟨ao, cap, rfl, hE⟩ := he
  obtain ⟨a1, c1, a2, c2, rfl, n1, n2⟩ := hT.opened
  have HT := Lib.hid hT
  have HS := Lib.hid hs
  have HST := Lib.hid hsT
  have HE := Lib.hid hE
  clear hT hs hsT n1 n2 hE
  generalize hvT : Value.agg #[.bool (decide (T.num < 0)), .slice a1 (dig b64 T.num.natAbs).length c1, .slice a2 (dig b64 (dn T.den)).length c2] = vT' at HT
  have hal : Below w.heap.size w (w.alloc (.cells #[.bool (decide (T.num < 0)), .slice a1 (dig b64 T.num.natAbs).length c1, .slice a2 (dig b64 (dn T.den)).length c2] 50)) := (Below.refl _ _).alloc (Nat.le_refl _) _
  have hB0 := blk_new w #[.bool (decide (T.num < 0)), .slice a1 (dig b64 T.num.natAbs).length c1, .slice a2 (dig b64 (dn T.den)).length c2] 50
  subst hvT
  go_enter Try.func124, Try.ntmps124
  go_wp2_with fail
  go_loopw [5, 10] (fun rv iv wr => ∃ (i : Nat), i ≤ es.length ∧ iv = .int .i64 i ∧ rv = .int .i64 (rateUp (es.take i) T) ∧ Below w.heap.size w wr ∧ Hid (wr.heap[w.heap.size]? = some (.cells #[.bool (decide (T.num < 0)), .slice a1 (dig b64 T.num.natAbs).length c1, .slice a2 (dig b64 (dn T.den)).length c2] 50 (0, 0))))
    (fun _ iv _ => es.length - (intOf iv).toNat)
  case atStart => exact ⟨0, Nat.zero_le _, rfl, by simp [rateUp], hal, hB0⟩
  case round =>
    clear hal hB0
    obtain ⟨i, hi, rfl, rfl, hbel, hB⟩ := hrel
    by_cases hlt : i < es.length
    · obtain ⟨b, off, rfl, hbl, hEE⟩ := HE.out (by omega)
      have hEi := (hEE i hlt).below IsRat.belowAll hbel hbl
      obtain ⟨v0, vn, vd, g0, g1, g2, g3, gR⟩ := hEi
      have HR := Lib.hid gR
      obtain ⟨e1, f1, e2, f2, hag, m1, m2⟩ := gR.opened
      simp only [Value.agg.injEq, Array.mk.injEq, List.cons.injEq, and_true] at hag
      obtain ⟨rfl, rfl, rfl⟩ := hag
      have hst := Lib.hid (rateUp_take es T i hlt)
      have hsz := Lib.hid (HS.out i hlt)
      have hlt' : (i : Int) < es.length := by omega
      have hBl := blk_lt hB.out
      have t0 := blk_cell hB.out 0 (.bool (decide (T.num < 0))) rfl
      have t1 := blk_cell hB.out 1 (.slice a1 (dig b64 T.num.natAbs).length c1) rfl
      have t2 := blk_cell hB.out 2 (.slice a2 (dig b64 (dn T.den)).length c2) rfl
      generalize (es.getD i (0, 0)).1 = x at *
      generalize (es.getD i (0, 0)).2 = y at *
      clear m1 m2 gR hEE
      go_wp2_with fail
      have hal2 : Below wr.heap.size wr (wr.alloc (.cells #[.bool (decide (x.num < 0)), .slice e1 (dig b64 x.num.natAbs).length f1, .slice e2 (dig b64 (dn x.den)).length f2, .int .i64 y] 106)) := (Below.refl _ _).alloc (Nat.le_refl _) _
      refine (cmpRat_any x T _ _ _ (HR.out.below hal2) (HT.out.below (ext_trans hbel hal2)) hsz.out HST.out).mono ?_
      rintro e w2 ⟨rfl, hb2⟩
      have hN := blk_keep (blk_new wr #[.bool (decide (x.num < 0)), .slice e1 (dig b64 x.num.natAbs).length f1, .slice e2 (dig b64 (dn x.den)).length f2, .int .i64 y] 106) hb2 (by simp)
      have n3 := blk_cell hN 3 (.int .i64 y) rfl
      have hx2 := ext_trans hbel (ext_trans hal2 hb2)
      have hB2 := blk_keep hB.out (ext_trans hal2 hb2) hBl
      have HB2 := Lib.hid hB2
      clear hB2 hN t0 t1 t2 g0 g1 g2 g3 hb2 hal2
      by_cases hc : cmpR x T ≤ 0
      · have hc' : decide (cmpR x T ≤ 0) = true := decide_eq_true hc
        have hr : Hid (rateUp (es.take (i + 1)) T = y) := by show _ = y; rw [hst.out, if_pos hc]
        clear hc hst
        generalize cmpR x T = c at *
        go_wp2_with fail
        exact ⟨⟨i + 1, by omega, by go_num, by rw [hr.out], hx2, HB2.out⟩, meas_up hlt⟩
      · have hc' : decide (cmpR x T ≤ 0) = false := decide_eq_false hc
        have hr : Hid (rateUp (es.take (i + 1)) T = rateUp (es.take i) T) := by show _ = _; rw [hst.out, if_neg hc]
        clear hc hst
        generalize cmpR x T = c at *
        go_wp2_with fail
        exact ⟨⟨i + 1, by omega, by go_num, by rw [hr.out], hx2, HB2.out⟩, meas_up hlt⟩
    · obtain rfl : i = es.length := by omega
      rw [List.take_length]
      go_wp2_with fail
      go_ret
      exact ⟨rfl, hbel⟩

end Go.Proofs.Ytkdcgkafjkklcaa
