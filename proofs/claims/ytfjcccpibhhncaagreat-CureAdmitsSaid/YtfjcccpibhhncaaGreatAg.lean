/- Part g of the lemmas and walks. -/
import Derived.Test.YtfjcccpibhhncaaGreatAf

namespace Go.Proofs.YtfjcccpibhhncaaGreat
open Go.RowKit

theorem Sx.to {w0 w W : World} {bs cs : List Bx} {fs : List Fx} (h : Sx w0 w bs fs) (e : w = W) (eb : bs = cs) : Sx w0 W cs fs := by subst e; subst eb; exact h
theorem nbs : (∀ {α : Type} {xs : List α} {i : Nat} (h : i < xs.toArray.size), xs.toArray[i] = xs[i]) ∧ (∀ {α : Type} (a : α) (l : List α) (h : 0 < (a :: l).length), (a :: l)[0] = a) ∧ (∀ {α : Type} (a : α) (l : List α) (i : Nat) (h : i + 1 < (a :: l).length), (a :: l)[i + 1] = l[i]'(by simpa using h)) ∧ (∀ {α : Type} (l : List α) (i : Nat) (a : α), l.toArray.setIfInBounds i a = (l.set i a).toArray) ∧ (∀ {α : Type} {x : α} {xs : List α} {a : α}, (x :: xs).set 0 a = a :: xs) ∧ ∀ {α : Type} {x : α} {xs : List α} {i : Nat} {a : α}, (x :: xs).set (i + 1) a = x :: xs.set i a :=
 ⟨nb1, nb2, nb3, nb4, nb5, nb6⟩
section
variable {P : Program} {ops : Array Oper} {Q : Exit → Act → World → Prop} {md : Region.Mode} {S : World → Prop}
theorem tkB {i : Nat} {oi : Oper} {v : Value} {fuel : Nat} {listed : Array Bool} {a : Act} {w : World} (hi : ops[i]? = some oi) (hy : ∀ w, S w → (execOp a.eval oi).run P w = .ok (.value v) w)
  (h : wpAnyH P md ops Q S fuel (listed.setIfInBounds i true) (a.put oi.dst v) w) (hS : S w := by assumption) (hw : Region.wanted oi (yielded ops a.tmps) = true := by first | rfl | kernel_rfl) (hs : Region.noSelect ops = true := by kernel_rfl) (hf : Region.free md ops listed i = true := by kernel_rfl)
  (hr : (Region.ready md ops listed).contains i = true := by kernel_rfl) (hQ : ∀ c a w, Q (.panic c) (a.put oi.dst v) w → Q (.panic c) a w := by exact fun _ _ _ h => h) : wpAnyH P md ops Q S (fuel + 1) listed a w :=
 tkA hi (Or.inl ⟨hw, hy⟩) hS h hs hf hr hQ
theorem tkC {i : Nat} {oi : Oper} {fuel : Nat} {listed : Array Bool} {a : Act} {w : World} (hi : ops[i]? = some oi)
  (h : wpAnyH P md ops Q S fuel (listed.setIfInBounds i true) (a.put oi.dst undef) w) (hS : S w := by assumption) (hw : Region.wanted oi (yielded ops a.tmps) = false := by first | rfl | kernel_rfl) (hs : Region.noSelect ops = true := by kernel_rfl) (hf : Region.free md ops listed i = true := by kernel_rfl)
  (hr : (Region.ready md ops listed).contains i = true := by kernel_rfl) (hQ : ∀ c a w, Q (.panic c) (a.put oi.dst undef) w → Q (.panic c) a w := by exact fun _ _ _ h => h) : wpAnyH P md ops Q S (fuel + 1) listed a w :=
 tkA (v := undef) hi (Or.inr ⟨hw, rfl⟩) hS h hs hf hr hQ
end
theorem loQ_le {a b : Rat} (h : a ≤ b) : loQ a b = a := if_pos (cmp_le0.2 h)
theorem hiQ_le {a b : Rat} (h : a ≤ b) : hiQ a b = b := by
 unfold hiQ
 have := @cmp_lt0 a b
 split
 ·
  grind
 ·
  rfl
theorem loQ_ge {a b : Rat} (h : b ≤ a) : loQ a b = b := by
 unfold loQ
 have := @cmp_le0 a b
 split
 ·
  grind
 ·
  rfl
theorem hiQ_ge {a b : Rat} (h : b ≤ a) : hiQ a b = a := by
 unfold hiQ
 have := @cmp_lt0 a b
 split
 ·
  rfl
 ·
  grind
theorem lo_le_l (a b : Rat) : loQ a b ≤ a := by rcases (@Rat.le_total a b) with h | h; rw [loQ_le h]; exact Rat.le_refl; rw [loQ_ge h]; exact h
theorem lo_le_r (a b : Rat) : loQ a b ≤ b := by rcases (@Rat.le_total a b) with h | h; rw [loQ_le h]; exact h; rw [loQ_ge h]; exact Rat.le_refl
theorem hi_ge_l (a b : Rat) : a ≤ hiQ a b := by rcases (@Rat.le_total a b) with h | h; rw [hiQ_le h]; exact h; rw [hiQ_ge h]; exact Rat.le_refl
theorem hi_ge_r (a b : Rat) : b ≤ hiQ a b := by rcases (@Rat.le_total a b) with h | h; rw [hiQ_le h]; exact Rat.le_refl; rw [hiQ_ge h]; exact h
theorem lo_ge {a b c : Rat} (h1 : c ≤ a) (h2 : c ≤ b) : c ≤ loQ a b := by rcases (@Rat.le_total a b) with h | h; rw [loQ_le h]; exact h1; rw [loQ_ge h]; exact h2
theorem hi_le {a b c : Rat} (h1 : a ≤ c) (h2 : b ≤ c) : hiQ a b ≤ c := by rcases (@Rat.le_total a b) with h | h; rw [hiQ_le h]; exact h2; rw [hiQ_ge h]; exact h1

theorem lo_assoc (a b c d : Rat) : loQ (loQ (loQ (loQ a a) b) c) d = loQ (loQ a b) (loQ c d) := by
 refine Rat.le_antisymm ?_ ?_
 ·
  have h1 := lo_le_l (loQ (loQ (loQ a a) b) c) d
  have h2 := lo_le_r (loQ (loQ (loQ a a) b) c) d
  have h3 := lo_le_l (loQ (loQ a a) b) c
  have h4 := lo_le_r (loQ (loQ a a) b) c
  have h5 := lo_le_l (loQ a a) b
  have h6 := lo_le_r (loQ a a) b
  have h7 := lo_le_l a a
  exact lo_ge (lo_ge (by grind) (by grind)) (lo_ge (by grind) (by grind))
 ·
  have h1 := lo_le_l (loQ a b) (loQ c d)
  have h2 := lo_le_r (loQ a b) (loQ c d)
  have h3 := lo_le_l a b
  have h4 := lo_le_r a b
  have h5 := lo_le_l c d
  have h6 := lo_le_r c d
  exact lo_ge (lo_ge (lo_ge (lo_ge (by grind) (by grind)) (by grind)) (by grind)) (by grind)
theorem hi_assoc (a b c d : Rat) : hiQ (hiQ (hiQ (hiQ a a) b) c) d = hiQ (hiQ a b) (hiQ c d) := by
 refine Rat.le_antisymm ?_ ?_
 ·
  have h1 := hi_ge_l (hiQ a b) (hiQ c d)
  have h2 := hi_ge_r (hiQ a b) (hiQ c d)
  have h3 := hi_ge_l a b
  have h4 := hi_ge_r a b
  have h5 := hi_ge_l c d
  have h6 := hi_ge_r c d
  exact hi_le (hi_le (hi_le (hi_le (by grind) (by grind)) (by grind)) (by grind)) (by grind)
 ·
  have h1 := hi_ge_l (hiQ (hiQ (hiQ a a) b) c) d
  have h2 := hi_ge_r (hiQ (hiQ (hiQ a a) b) c) d
  have h3 := hi_ge_l (hiQ (hiQ a a) b) c
  have h4 := hi_ge_r (hiQ (hiQ a a) b) c
  have h5 := hi_ge_l (hiQ a a) b
  have h6 := hi_ge_r (hiQ a a) b
  have h7 := hi_ge_l a a
  exact hi_le (hi_le (by grind) (by grind)) (hi_le (by grind) (by grind))
theorem best_lo {a b c d : Rat} (h1 : a ≤ b) (h2 : c ≤ d) : bestUp ltB (fun i => [a, b, c, d].getD i 0) 3 = loQ a c := by
 have e1 : ltB b a = false := decide_eq_false (by rw [cmp_lt0]; grind)
 show (if ltB d (if ltB c (if ltB b a then b else a) then c else (if ltB b a then b else a)) then d else (if ltB c (if ltB b a then b else a) then c else (if ltB b a then b else a))) = _
 rw [e1]
 simp only [Bool.false_eq_true, if_false]
 rcases (@Rat.le_total a c) with h | h
 ·
  have e2 : ltB c a = false := decide_eq_false (by rw [cmp_lt0]; grind)
  have e3 : ltB d a = false := decide_eq_false (by rw [cmp_lt0]; grind)
  rw [e2, loQ_le h]
  simp [e3]
 ·
  rw [loQ_ge h]
  have e3 : ltB d c = false := decide_eq_false (by rw [cmp_lt0]; grind)
  by_cases hc : ltB c a = true
  ·
   rw [if_pos hc, e3]; rfl
  ·
   rw [if_neg hc]
   have hca : ¬ c < a := fun hx => hc (decide_eq_true (cmp_lt0.2 hx))
   obtain rfl : a = c := by grind
   rw [e3]; rfl
theorem best_hi {a b c d : Rat} (h1 : a ≤ b) (h2 : c ≤ d) : bestUp gtB (fun i => [a, b, c, d].getD i 0) 3 = hiQ b d := by
 have g : ∀ x y : Rat, gtB x y = true ↔ y < x := fun x y => by
  unfold gtB
  rw [decide_eq_true_iff]
  have := @cmp_le0 x y
  constructor
  ·
   intro h; grind
  ·
   intro h; have : ¬ cmpR x y ≤ 0 := fun hx => by grind
   omega
 show (if gtB d (if gtB c (if gtB b a then b else a) then c else (if gtB b a then b else a)) then d else (if gtB c (if gtB b a then b else a) then c else (if gtB b a then b else a))) = _
 have e1 : (if gtB b a = true then b else a) = b := by
  by_cases hb : gtB b a = true
  ·
   rw [if_pos hb]
  ·
   rw [if_neg hb]; rw [g] at hb; grind
 rw [e1]
 rcases (@Rat.le_total b d) with h | h
 ·
  rw [hiQ_le h]
  by_cases hc : gtB c b = true
  ·
   rw [if_pos hc]
   by_cases hd : gtB d c = true
   ·
    rw [if_pos hd]
   ·
    rw [if_neg hd]; rw [g] at hd; grind
  ·
   rw [if_neg hc]
   by_cases hd : gtB d b = true
   ·
    rw [if_pos hd]
   ·
    rw [if_neg hd]; rw [g] at hd; grind
 ·
  rw [hiQ_ge h]
  have hc : ¬ gtB c b = true := by rw [g]; grind
  rw [if_neg hc]
  have hd : ¬ gtB d b = true := by rw [g]; grind
  rw [if_neg hd]
theorem down_bd_sz {x : Rat} {k B : Nat} (hk : k ≤ 256) (hB : B ≤ 18446744073709551616) (h0 : -((B : Int) : Rat) ≤ x) (h1 : x ≤ ((B : Int) : Rat)) : szR (downQ x k) 30 := by
 rw [← floor_down, floorQ_eq]
 refine szR_mono (szR_mul (j := 6) (szR_int ?_ (by omega)) (szR_pw2 (show 0 ≤ 256 by omega) hk)) (by omega)
 have e1 := Rat.mul_le_mul_of_nonneg_right h0 (Rat.le_of_lt (pw2_pos1 k))
 have e2 := Rat.mul_le_mul_of_nonneg_right h1 (Rat.le_of_lt (pw2_pos1 k))
 have f1 : (-((B * 2 ^ k : Nat) : Int)) ≤ (x * pw2 k 0).floor := Rat.le_floor_iff.2 (by rw [Rat.intCast_neg, Int.natCast_mul, Rat.intCast_mul, ← pw2_nat]; grind)
 have f2 : (x * pw2 k 0).floor ≤ ((B * 2 ^ k : Nat) : Int) := Rat.intCast_le_intCast.1 (by rw [Int.natCast_mul, Rat.intCast_mul, ← pw2_nat]; have := Rat.floor_le (x * pw2 k 0); grind)
 have h2 : 2 ^ k ≤ 2 ^ 256 := Nat.pow_le_pow_right (by omega) hk
 have h4 : B * 2 ^ k ≤ 18446744073709551616 * 2 ^ 256 := Nat.mul_le_mul hB h2
 have h3 : 18446744073709551616 * 2 ^ 256 < b64 ^ 6 := by unfold b64; decide +kernel
 omega
theorem up_bd_sz {x : Rat} {k B : Nat} (hk : k ≤ 256) (hB : B ≤ 18446744073709551616) (h0 : -((B : Int) : Rat) ≤ x) (h1 : x ≤ ((B : Int) : Rat)) : szR (upQ x k) 30 := by
 unfold upQ
 exact szR_neg (down_bd_sz hk hB (by grind) (by grind))
def bdQ (B : Nat) (x : Rat) : Prop := -((B : Int) : Rat) ≤ x ∧ x ≤ ((B : Int) : Rat)
theorem bdQ_lo {B : Nat} {a b : Rat} (h1 : bdQ B a) (h2 : bdQ B b) : bdQ B (loQ a b) := by unfold loQ; split <;> assumption
theorem bdQ_hi {B : Nat} {a b : Rat} (h1 : bdQ B a) (h2 : bdQ B b) : bdQ B (hiQ a b) := by unfold hiQ; split <;> assumption
theorem bdQ_down {B k : Nat} {a : Rat} (h : bdQ B a) : bdQ B (downQ a k) :=
 ⟨by have := down_int (n := -(B : Int)) (x := a) (by rw [Rat.intCast_neg]; exact h.1) k; rw [Rat.intCast_neg] at this; exact this, Rat.le_trans (down_le a k) h.2⟩
theorem bdQ_up {B k : Nat} {a : Rat} (h : bdQ B a) : bdQ B (upQ a k) := ⟨Rat.le_trans h.1 (up_ge a k), up_int h.2 k⟩
def towQ (t l a : Rat) : Rat := t + l * (a - t)
theorem bdQ_tow {B : Nat} {t l a : Rat} (ht : bdQ B t) (ha : bdQ B a) (h0 : 0 ≤ l) (h1 : l ≤ 1) : bdQ B (towQ t l a) := by
 obtain ⟨t0, t1⟩ := ht
 obtain ⟨a0, a1⟩ := ha
 unfold towQ bdQ
 generalize ((B : Int) : Rat) = M at *
 have g1 : 0 ≤ l * (M - a) := Rat.mul_nonneg h0 (by grind)
 have g2 : 0 ≤ (1 - l) * (M - t) := Rat.mul_nonneg (by grind) (by grind)
 have g3 : 0 ≤ l * (M + a) := Rat.mul_nonneg h0 (by grind)
 have g4 : 0 ≤ (1 - l) * (M + t) := Rat.mul_nonneg (by grind) (by grind)
 constructor <;> grind
def flLo (t0 t1 l0 l1 a : Rat) : Rat := loQ (loQ (towQ t0 l0 a) (towQ t0 l1 a)) (loQ (towQ t1 l0 a) (towQ t1 l1 a))
def flHi (t0 t1 l0 l1 a : Rat) : Rat := hiQ (hiQ (towQ t0 l0 a) (towQ t0 l1 a)) (hiQ (towQ t1 l0 a) (towQ t1 l1 a))
def flUp (S l0 l1 : Rat) (k : Nat) (aq : List Rat) : Nat → Rat × Rat
 | 0 => (S, S)
 | n + 1 => (downQ (flLo (flUp S l0 l1 k aq n).1 (flUp S l0 l1 k aq n).2 l0 l1 (aq.getD n 0)) k, upQ (flHi (flUp S l0 l1 k aq n).1 (flUp S l0 l1 k aq n).2 l0 l1 (aq.getD n 0)) k)
def flR (S l0 l1 : Rat) (k : Nat) (aq : List Rat) (n : Nat) : List (List Rat) := (List.range n).map fun i => [(flUp S l0 l1 k aq (i + 1)).1, (flUp S l0 l1 k aq (i + 1)).2]
theorem flR_succ (S l0 l1 : Rat) (k : Nat) (aq : List Rat) (n : Nat) : flR S l0 l1 k aq (n + 1) = flR S l0 l1 k aq n ++ [[(flUp S l0 l1 k aq (n + 1)).1, (flUp S l0 l1 k aq (n + 1)).2]] := by
 unfold flR
 rw [List.range_succ, List.map_append]
 rfl
theorem flR_len (S l0 l1 : Rat) (k : Nat) (aq : List Rat) (n : Nat) : (flR S l0 l1 k aq n).length = n := by simp [flR]
theorem flR_at (S l0 l1 : Rat) (k : Nat) (aq : List Rat) {n i : Nat} (h : i < n) : (flR S l0 l1 k aq n).getD i [] = [(flUp S l0 l1 k aq (i + 1)).1, (flUp S l0 l1 k aq (i + 1)).2] := by
 unfold flR
 simp [List.getD, h]
theorem fl_ok {S l0 l1 : Rat} {k B : Nat} {aq : List Rat} (hk : k ≤ 256) (hB : B ≤ 18446744073709551616) (hS : bdQ B S) (hs : szR S 30) (h0 : 0 ≤ l0) (h01 : l0 ≤ 1) (h1 : 0 ≤ l1) (h11 : l1 ≤ 1) (ha : ∀ i, bdQ B (aq.getD i 0)) : ∀ n,
  bdQ B (flUp S l0 l1 k aq n).1 ∧ bdQ B (flUp S l0 l1 k aq n).2 ∧ szR (flUp S l0 l1 k aq n).1 30 ∧ szR (flUp S l0 l1 k aq n).2 30
 | 0 => ⟨hS, hS, hs, hs⟩
 | n + 1 => by
  obtain ⟨i1, i2, _, _⟩ := fl_ok hk hB hS hs h0 h01 h1 h11 ha n
  have b1 : bdQ B (flLo (flUp S l0 l1 k aq n).1 (flUp S l0 l1 k aq n).2 l0 l1 (aq.getD n 0)) := bdQ_lo (bdQ_lo (bdQ_tow i1 (ha n) h0 h01) (bdQ_tow i1 (ha n) h1 h11)) (bdQ_lo (bdQ_tow i2 (ha n) h0 h01) (bdQ_tow i2 (ha n) h1 h11))
  have b2 : bdQ B (flHi (flUp S l0 l1 k aq n).1 (flUp S l0 l1 k aq n).2 l0 l1 (aq.getD n 0)) := bdQ_hi (bdQ_hi (bdQ_tow i1 (ha n) h0 h01) (bdQ_tow i1 (ha n) h1 h11)) (bdQ_hi (bdQ_tow i2 (ha n) h0 h01) (bdQ_tow i2 (ha n) h1 h11))
  exact ⟨bdQ_down b1, bdQ_up b2, down_bd_sz hk hB b1.1 b1.2, up_bd_sz hk hB b2.1 b2.2⟩
def mtNow (least : Rat) (ts : List (List Rat)) : Nat → Nat
 | 0 => 0
 | n + 1 => if cmpR ((ts.getD n []).getD 0 0) least < 0 then 0 else mtNow least ts n + 1
def mtBest (least : Rat) (ts : List (List Rat)) : Nat → Nat
 | 0 => 0
 | n + 1 => max (mtBest least ts n) (mtNow least ts (n + 1))
def mtPre (S : Rat) (ts : List (List Rat)) : Nat → Rat
 | 0 => S
 | n + 1 => (ts.getD n []).getD 0 0
def mtBad (S most rise : Rat) (ts : List (List Rat)) (n : Nat) : Bool := decide (cmpR ((ts.getD n []).getD 1 0) most > 0) || decide (cmpR ((ts.getD n []).getD 1 0 - mtPre S ts n) rise > 0)
def mtOk (S most rise : Rat) (ts : List (List Rat)) : Nat → Bool
 | 0 => true
 | n + 1 => mtOk S most rise ts n && !mtBad S most rise ts n
def mtOf (S least most rise : Rat) (m : Int) (ts : List (List Rat)) : Bool := mtOk S most rise ts ts.length && decide (m ≤ (mtBest least ts ts.length : Int))
theorem mtOk_no {S most rise : Rat} {ts : List (List Rat)} {i n : Nat} (h : mtBad S most rise ts i = true) (hi : i < n) : mtOk S most rise ts n = false := by
 induction n with
 | zero => omega
 | succ n ih =>
  unfold mtOk
  rcases Nat.lt_or_ge i n with h1 | h1
  ·
   rw [ih h1]; rfl
  ·
   obtain rfl : i = n := by omega
   rw [h]; simp
theorem mtNow_le (least : Rat) (ts : List (List Rat)) : ∀ n, mtNow least ts n ≤ n
 | 0 => Nat.le_refl _
 | n + 1 => by
  have := mtNow_le least ts n
  unfold mtNow
  split <;> omega
theorem mtBest_le (least : Rat) (ts : List (List Rat)) : ∀ n, mtBest least ts n ≤ n
 | 0 => Nat.le_refl _
 | n + 1 => by
  have := mtBest_le least ts n
  have := mtNow_le least ts (n + 1)
  unfold mtBest
  omega
def ndErr (least most rise : Rat) (m : Int) : Int := if m < 1 ∨ 256 < m ∨ sgnI (decide (rise.num < 0)) rise.num.natAbs < 0 ∨ cmpR least most > 0 then 1 else 0
def flErr (l0 l1 : Rat) (n : Nat) : Int := if partB l0 l1 = false then 1 else if 256 < n then 4 else 0
def nxE (t0 t1 l0 l1 a : Rat) : Nat → Rat
 | 0 => towQ t0 l0 a
 | 1 => towQ t0 l1 a
 | 2 => towQ t1 l0 a
 | _ => towQ t1 l1 a
def nxL (t0 t1 l0 l1 a : Rat) : Nat → Rat
 | 0 => 0
 | 1 => loQ (towQ t0 l0 a) (towQ t0 l0 a)
 | n + 2 => loQ (nxL t0 t1 l0 l1 a (n + 1)) (nxE t0 t1 l0 l1 a (n + 1))
def nxH (t0 t1 l0 l1 a : Rat) : Nat → Rat
 | 0 => 0
 | 1 => hiQ (towQ t0 l0 a) (towQ t0 l0 a)
 | n + 2 => hiQ (nxH t0 t1 l0 l1 a (n + 1)) (nxE t0 t1 l0 l1 a (n + 1))
theorem nx_lo (t0 t1 l0 l1 a : Rat) : nxL t0 t1 l0 l1 a 4 = flLo t0 t1 l0 l1 a := lo_assoc _ _ _ _
theorem nx_hi (t0 t1 l0 l1 a : Rat) : nxH t0 t1 l0 l1 a 4 = flHi t0 t1 l0 l1 a := hi_assoc _ _ _ _
theorem nx_le (t0 t1 l0 l1 a : Rat) : ∀ n, nxL t0 t1 l0 l1 a n ≤ nxH t0 t1 l0 l1 a n
 | 0 => Rat.le_refl
 | 1 => lo_hi _ _
 | n + 2 => Rat.le_trans (lo_le_r _ _) (hi_ge_r _ _)
theorem towQ_sz {t l a : Rat} {i j k : Nat} (h1 : szR t i) (h2 : szR l j) (h3 : szR a k) : szR (towQ t l a) (i + (j + (k + i + 1)) + 1) := szR_add h1 (szR_mul h2 (szR_sub h3 h1))
theorem nx_sz {t0 t1 l0 l1 a : Rat} (h0 : szR t0 1000) (h1 : szR t1 1000) (h2 : szR l0 1000) (h3 : szR l1 1000) (h4 : szR a 1000) : ∀ n, szR (nxL t0 t1 l0 l1 a n) 10000 ∧ szR (nxH t0 t1 l0 l1 a n) 10000 := by
 have e : ∀ n, szR (nxE t0 t1 l0 l1 a n) 10000 := fun n => by
  match n with
  | 0 => exact szR_mono (towQ_sz h0 h2 h4) (by omega)
  | 1 => exact szR_mono (towQ_sz h0 h3 h4) (by omega)
  | 2 => exact szR_mono (towQ_sz h1 h2 h4) (by omega)
  | n + 3 => exact szR_mono (towQ_sz h1 h3 h4) (by omega)
 intro n
 induction n with
 | zero => exact ⟨szR_zero _ (by omega), szR_zero _ (by omega)⟩
 | succ n ih =>
  match n with
  | 0 => exact ⟨loN_sz (e 0) (e 0), hiN_sz (e 0) (e 0)⟩
  | n + 1 => exact ⟨loN_sz ih.1 (e (n + 1)), hiN_sz ih.2 (e (n + 1))⟩
def pk2 (x y : R3) : Nat → R3
 | 0 => x
 | _ => y
def nxStep (t0 t1 l0 l1 a tq lq : Rat) (j : Nat) : Prop :=
 (j = 0 → nxL t0 t1 l0 l1 a (j + 1) = loQ (tq + (lq * (a - tq))) (tq + (lq * (a - tq))) ∧ nxH t0 t1 l0 l1 a (j + 1) = hiQ (tq + (lq * (a - tq))) (tq + (lq * (a - tq)))) ∧
 (j ≠ 0 → nxL t0 t1 l0 l1 a (j + 1) = loQ (nxL t0 t1 l0 l1 a j) (tq + (lq * (a - tq))) ∧ nxH t0 t1 l0 l1 a (j + 1) = hiQ (nxH t0 t1 l0 l1 a j) (tq + (lq * (a - tq))))
theorem FrcAt.r3 {w : World} {b o : Nat} {q : Rat} (h : FrcAt IsRat w b o q) : ∃ x : R3, w.cell? ⟨b, o, none⟩ = some (.bool x.b) ∧ w.cell? ⟨b, o + 1, none⟩ = some (.slice x.a x.n x.c) ∧ w.cell? ⟨b, o + 2, none⟩ = some (.slice x.d x.m x.e) ∧ IsRat w x.val q := by
 obtain ⟨v0, vn, vd, h0, h1, h2, h3⟩ := h
 obtain ⟨x, hx⟩ := h3.open3
 injection hx with hx
 injection hx with hx
 simp only [List.cons.injEq, and_true] at hx
 obtain ⟨rfl, rfl, rfl⟩ := hx
 exact ⟨x, h0, h1, h2, h3⟩
theorem FrcAt.r3q {w : World} {b o : Nat} {q : Rat} (h : FrcAt IsR w b o q) : ∃ x : R3, w.cell? ⟨b, o, none⟩ = some (.bool x.b) ∧ w.cell? ⟨b, o + 1, none⟩ = some (.slice x.a x.n x.c) ∧ w.cell? ⟨b, o + 2, none⟩ = some (.slice x.d x.m x.e) ∧ IsR w x.val q := by
 obtain ⟨v0, vn, vd, h0, h1, h2, h3⟩ := h
 obtain ⟨x, hx⟩ := h3.open3
 injection hx with hx
 injection hx with hx
 simp only [List.cons.injEq, and_true] at hx
 obtain ⟨rfl, rfl, rfl⟩ := hx
 exact ⟨x, h0, h1, h2, h3⟩
end Go.Proofs.YtfjcccpibhhncaaGreat

namespace Go.Proofs.YtfjcccpibhhncaaGreat
open Go.RowKit

def RowOf (p : Bool) (k : Nat) (w : World) (xs : List Value) (qs : List (List Rat)) : Prop :=
 xs.length = qs.length * (3 * k) ∧ ∀ i, i < qs.length → ∀ j, j < k → ∃ x : R3, xs[i * (3 * k) + j * 3]? = some (.bool x.b) ∧ xs[i * (3 * k) + j * 3 + 1]? = some (.slice x.a x.n x.c) ∧ xs[i * (3 * k) + j * 3 + 2]? = some (.slice x.d x.m x.e) ∧ Fr p w x.val ((qs.getD i []).getD j 0)
def RecsOf (p : Bool) (k : Nat) (w : World) (v : Value) (qs : List (List Rat)) : Prop :=
 ∃ ao cap, v = .slice ao qs.length cap ∧ (0 < qs.length → ∃ b off, ao = some ⟨b, off, none⟩ ∧ b < w.heap.size ∧ ∀ i, i < qs.length → ∀ j, j < k →
  ∃ x : R3, w.cell? ⟨b, off + i * (3 * k) + j * 3, none⟩ = some (.bool x.b) ∧ w.cell? ⟨b, off + i * (3 * k) + j * 3 + 1, none⟩ = some (.slice x.a x.n x.c) ∧ w.cell? ⟨b, off + i * (3 * k) + j * 3 + 2, none⟩ = some (.slice x.d x.m x.e) ∧ Fr p w x.val ((qs.getD i []).getD j 0))
theorem RecsOf.below {p : Bool} {k : Nat} {w w' : World} {v : Value} {qs : List (List Rat)} (h : RecsOf p k w v qs) (hb : Below w.heap.size w w') : RecsOf p k w' v qs := by
 obtain ⟨ao, cap, rfl, h⟩ := h
 refine ⟨ao, cap, rfl, fun hl => ?_⟩
 obtain ⟨b, off, rfl, hlt, h⟩ := h hl
 have c : ∀ o v, w.cell? ⟨b, o, none⟩ = some v → w'.cell? ⟨b, o, none⟩ = some v := fun o v h => (hb.cell (p := ⟨b, o, none⟩) hlt).trans h
 refine ⟨b, off, rfl, Nat.lt_of_lt_of_le hlt hb.size, fun i hi j hj => ?_⟩
 obtain ⟨x, h1, h2, h3, h4⟩ := h i hi j hj
 exact ⟨x, c _ _ h1, c _ _ h2, c _ _ h3, h4.below hb⟩
theorem RowOf.mono {p : Bool} {k : Nat} {w w' : World} {xs : List Value} {qs : List (List Rat)} (h : RowOf p k w xs qs) (hf : ∀ v q, Fr p w v q → Fr p w' v q) : RowOf p k w' xs qs :=
 ⟨h.1, fun i hi j hj => by obtain ⟨x, h1, h2, h3, h4⟩ := h.2 i hi j hj; exact ⟨x, h1, h2, h3, hf _ _ h4⟩⟩
theorem RowOf.nil (p : Bool) (k : Nat) (w : World) : RowOf p k w [] [] := ⟨by simp, fun i hi => absurd hi (by simp)⟩
def cellsR (l : List R3) : List Value := l.flatMap fun x => [.bool x.b, .slice x.a x.n x.c, .slice x.d x.m x.e]
theorem cellsR_length (l : List R3) : (cellsR l).length = l.length * 3 := by
 induction l with
 | nil => rfl
 | cons x l ih => simp [cellsR] at ih ⊢; omega
theorem cellsR_at (l : List R3) (j : Nat) (hj : j < l.length) : ∃ x, l[j]? = some x ∧ (cellsR l)[j * 3]? = some (.bool x.b) ∧ (cellsR l)[j * 3 + 1]? = some (.slice x.a x.n x.c) ∧ (cellsR l)[j * 3 + 2]? = some (.slice x.d x.m x.e) := by
 induction l generalizing j with
 | nil => simp at hj
 | cons y l ih =>
  match j with
  | 0 => exact ⟨y, rfl, rfl, rfl, rfl⟩
  | j + 1 =>
   obtain ⟨x, h0, h1, h2, h3⟩ := ih j (by simpa using hj)
   have e : ∀ m, (cellsR (y :: l))[(j + 1) * 3 + m]? = (cellsR l)[j * 3 + m]? := fun m => by
    show (_ :: _ :: _ :: cellsR l)[(j + 1) * 3 + m]? = _
    rw [show (j + 1) * 3 + m = (j * 3 + m) + 1 + 1 + 1 by omega, List.getElem?_cons_succ, List.getElem?_cons_succ, List.getElem?_cons_succ]
   exact ⟨x, by simpa using h0, by rw [← h1]; exact e 0, by rw [← h2]; exact e 1, by rw [← h3]; exact e 2⟩
theorem RowOf.snoc {p : Bool} {k : Nat} {w : World} {xs : List Value} {qs : List (List Rat)} (h : RowOf p k w xs qs) (l : List R3) (rs : List Rat) (hl : l.length = k) (hr : ∀ j x, l[j]? = some x → Fr p w x.val (rs.getD j 0)) :
  RowOf p k w (xs ++ cellsR l) (qs ++ [rs]) := by
 obtain ⟨h0, h1⟩ := h
 refine ⟨by rw [List.length_append, List.length_append, cellsR_length, h0, hl, List.length_singleton, Nat.add_mul]; omega, fun i hi j hj => ?_⟩
 rw [List.length_append, List.length_singleton] at hi
 rcases Nat.lt_or_ge i qs.length with hi1 | hi1
 ·
  obtain ⟨x, g1, g2, g3, g4⟩ := h1 i hi1 j hj
  have hlt : i * (3 * k) + j * 3 + 2 < xs.length := by
   rw [h0]
   have : (i + 1) * (3 * k) ≤ qs.length * (3 * k) := Nat.mul_le_mul_right _ hi1
   rw [Nat.add_mul] at this
   omega
  have e2 : (qs ++ [rs]).getD i [] = qs.getD i [] := by simp [List.getD, List.getElem?_append_left hi1]
  rw [e2]
  exact ⟨x, by rw [List.getElem?_append_left (by omega)]; exact g1, by rw [List.getElem?_append_left (by omega)]; exact g2, by rw [List.getElem?_append_left (by omega)]; exact g3, g4⟩
 ·
  obtain rfl : i = qs.length := by omega
  obtain ⟨x, g0, g1, g2, g3⟩ := cellsR_at l j (by omega)
  have e : ∀ m, (xs ++ cellsR l)[qs.length * (3 * k) + j * 3 + m]? = (cellsR l)[j * 3 + m]? := fun m => by
   rw [List.getElem?_append_right (by omega), h0]
   congr 1
   omega
  have e2 : (qs ++ [rs]).getD qs.length [] = rs := by simp [List.getD]
  rw [e2]
  exact ⟨x, by rw [← g1]; exact e 0, by rw [← g2]; exact e 1, by rw [← g3]; exact e 2, hr j x g0⟩
theorem RecsOf.ofRow {p : Bool} {k : Nat} {w : World} {base : Nat} {e : TypeId} {v : Value} {xs : List Value} {qs : List (List Rat)} (h : LRow w base e (3 * k) v qs.length xs) (ht : RowOf p k w xs qs) : RecsOf p k w v qs := by
 rcases Nat.eq_zero_or_pos qs.length with h0 | hp
 ·
  rcases h.1.2 with ⟨rfl, _⟩ | ⟨g, cap, cur, rfl, _⟩
  ·
   exact ⟨none, 0, by rw [h0], fun h => absurd h (by omega)⟩
  ·
   exact ⟨_, _, rfl, fun h => absurd h (by omega)⟩
 ·
  obtain ⟨g, cap, rfl⟩ := ownsRow_some h.1 hp
  have hc : ∀ j u, xs[j]? = some u → w.cell? ((⟨g, 0, none⟩ : Addr).add j) = some u := h.1.cells (g := g) rfl
  have hlt : g < w.heap.size := (h.lt rfl).1
  refine ⟨_, _, rfl, fun _ => ⟨g, 0, rfl, hlt, fun i hi j hj => ?_⟩⟩
  obtain ⟨x, h1, h2, h3, h4⟩ := ht.2 i hi j hj
  have ea : ∀ j, (⟨g, 0, none⟩ : Addr).add j = ⟨g, 0 + j, none⟩ := fun j => by unfold Addr.add; split <;> simp_all
  have ec : ∀ o u, xs[o]? = some u → w.cell? ⟨g, 0 + o, none⟩ = some u := fun o u h => by rw [← ea]; exact hc _ _ h
  refine ⟨x, ?_, ?_, ?_, h4⟩
  ·
   have := ec _ _ h1; rw [show 0 + (i * (3 * k) + j * 3) = 0 + i * (3 * k) + j * 3 by omega] at this; exact this
  ·
   have := ec _ _ h2; rw [show 0 + (i * (3 * k) + j * 3 + 1) = 0 + i * (3 * k) + j * 3 + 1 by omega] at this; exact this
  ·
   have := ec _ _ h3; rw [show 0 + (i * (3 * k) + j * 3 + 2) = 0 + i * (3 * k) + j * 3 + 2 by omega] at this; exact this
structure GrR where
 e : TypeId
 p : Bool
 k : Nat
 v : Value
 xs : List Value
 qs : List (List Rat)
structure GsR (w0 w : World) (bs : List Bx) (gs : List GrR) : Prop where
 row : ∀ (i : Nat) (g : GrR), gs[i]? = some g → LRow w w0.heap.size g.e (3 * g.k) g.v g.qs.length g.xs
 mean : ∀ (i : Nat) (g : GrR), gs[i]? = some g → RowOf g.p g.k w g.xs g.qs
 sep : ∀ b, b ∈ bs → ∀ g, g ∈ gs → g.v.ownBlock ≠ some b.1
 apart : ∀ (i j : Nat) (g h : GrR), gs[i]? = some g → gs[j]? = some h → i ≠ j → ∀ c, g.v.ownBlock = some c → h.v.ownBlock ≠ some c
theorem GsR.nil (w0 w : World) (bs : List Bx) : GsR w0 w bs [] := ⟨fun i g h => by simp at h, fun i g h => by simp at h, fun b hb g hg => by simp at hg, fun i j g h hi => by simp at hi⟩
theorem GsR.add {w0 w : World} {bs : List Bx} {gs : List GrR} (h : GsR w0 w bs gs) (e : TypeId) (p : Bool) (k : Nat) : GsR w0 w bs (⟨e, p, k, .slice none 0 0, [], []⟩ :: gs) := by
 refine ⟨fun i g hi => ?_, fun i g hi => ?_, fun b hb g hg => ?_, fun i j g g' hi hj hij c hc => ?_⟩
 ·
  match i, hi with
  | 0, hi => simp at hi; subst hi; exact LRow.nil _ _ _ _
  | i + 1, hi => exact h.row i g (by simpa using hi)
 ·
  match i, hi with
  | 0, hi => simp at hi; subst hi; exact RowOf.nil _ _ _
  | i + 1, hi => exact h.mean i g (by simpa using hi)
 ·
  rcases List.mem_cons.1 hg with rfl | hg
  ·
   exact fun hc => by cases hc
  ·
   exact h.sep b hb g hg
 ·
  match i, j, hi, hj with
  | 0, _, hi, _ => simp at hi; subst hi; cases hc
  | i + 1, 0, _, hj => simp at hj; subst hj; exact fun hc => by cases hc
  | i + 1, j + 1, hi, hj => exact h.apart i j g g' (by simpa using hi) (by simpa using hj) (by omega) c hc
theorem GsR.below {w0 w w' : World} {bs : List Bx} {gs : List GrR} (h : GsR w0 w bs gs) (hb : Below w.heap.size w w') : GsR w0 w' bs gs :=
 ⟨fun i g hi => (h.row i g hi).below hb, fun i g hi => (h.mean i g hi).mono fun _ _ hf => hf.below hb, h.sep, h.apart⟩
theorem GsR.alloc {w0 w : World} {bs : List Bx} {gs : List GrR} (h : GsR w0 w bs gs) {B T : Nat} {cs : Array Value} (hB : w.heap.size = B) : GsR w0 (w.alloc (.cells cs T)) ((B, cs, T) :: bs) gs := by
 have h' := h.below ((Below.refl w.heap.size w).alloc (Nat.le_refl _) (.cells cs T))
 refine ⟨h'.row, h'.mean, fun b hb g hg => ?_, h'.apart⟩
 rcases List.mem_cons.1 hb with rfl | hb
 ·
  intro hc
  obtain ⟨i, hi⟩ := List.mem_iff_getElem?.1 hg
  have := ((h.row i g hi).lt hc).1
  dsimp only at this
  omega
 ·
  exact h.sep b hb g hg
theorem GsR.box {w0 w : World} {bs : List Bx} {gs : List GrR} (h : GsR w0 w bs gs) {B T : Nat} {cs : Array Value} (hne : ∀ g, g ∈ gs → g.v.ownBlock ≠ some B) : GsR w0 w ((B, cs, T) :: bs) gs :=
 ⟨h.row, h.mean, fun b hb g hg => by rcases List.mem_cons.1 hb with rfl | hb; exact hne g hg; exact h.sep b hb g hg, h.apart⟩
theorem GsR.mono {w0 w : World} {bs bs' : List Bx} {gs : List GrR} (h : GsR w0 w bs gs) (hm : ∀ b, b ∈ bs' → ∃ b2, b2 ∈ bs ∧ b2.1 = b.1) : GsR w0 w bs' gs :=
 ⟨h.row, h.mean, fun b hb g hg => by obtain ⟨b2, h1, h2⟩ := hm b hb; rw [← h2]; exact h.sep b2 h1 g hg, h.apart⟩
theorem GsR.set {w0 w : World} {bs : List Bx} {gs : List GrR} {fs : List Fx} (h : GsR w0 w bs gs) (hs : Sx w0 w bs fs) (i : Nat) {B T : Nat} {cs : Array Value} (hi : bs[i]? = some (B, cs, T)) (j : Nat) (v : Value) : GsR w0 (w.setCell ⟨B, j, none⟩ v) bs gs := by
 obtain ⟨h1, h2, h3⟩ := hs.box i _ hi
 have hm : (B, cs, T) ∈ bs := List.mem_iff_getElem?.2 ⟨i, hi⟩
 exact ⟨fun k g hg => (h.row k g hg).keep fun c hc => heap_setCell_other w ⟨B, j, none⟩ c v (fun e => h.sep _ hm g (List.mem_iff_getElem?.2 ⟨k, hg⟩) (by rw [hc, e])), fun k g hg => (h.mean k g hg).mono fun _ _ hf => hf.set h1 h3 j v, h.sep, h.apart⟩
theorem GsR.set2 {w0 w : World} {bs : List Bx} {gs : List GrR} {fs : List Fx} (h : GsR w0 w bs gs) (hs : Sx w0 w bs fs) (i : Nat) {B T : Nat} {cs : Array Value} (hi : bs[i]? = some (B, cs, T)) (j : Nat) (v : Value) : GsR w0 (w.setCell ⟨B, j, none⟩ v) (bs.set i (B, cs.setIfInBounds j v, T)) gs :=
 (h.set hs i hi j v).mono fun b hb => by
  rcases List.mem_or_eq_of_mem_set hb with hb | rfl
  ·
   exact ⟨b, hb, rfl⟩
  ·
   exact ⟨(B, cs, T), List.mem_iff_getElem?.2 ⟨i, hi⟩, rfl⟩
theorem GsR.st_R {w0 w : World} {bs : List Bx} {gs : List GrR} {fs : List Fx} (h : GsR w0 w bs gs) (hs : Sx w0 w bs fs) (i : Nat) (o0 : R3) (n0 : R3) {B T : Nat} (hi : bs[i]? = some (B, #[.bool o0.b, .slice o0.a o0.n o0.c, .slice o0.d o0.m o0.e], T)) :
  GsR w0 ((((w).setCell ⟨B, 0, none⟩ (.bool n0.b)).setCell ⟨B, 1, none⟩ (.slice n0.a n0.n n0.c)).setCell ⟨B, 2, none⟩ (.slice n0.d n0.m n0.e)) (bs.set i (B, #[.bool n0.b, .slice n0.a n0.n n0.c, .slice n0.d n0.m n0.e], T)) gs := by
 have hl := (List.getElem?_eq_some_iff.1 hi).1
 have g := (((h).set2 (hs) i hi 0 (.bool n0.b)).set2 ((hs).set i hi 0 (v := .bool n0.b) rfl) i (by rw [List.getElem?_set, if_pos rfl, if_pos (by simpa using hl)]) 1 (.slice n0.a n0.n n0.c)).set2 (((hs).set i hi 0 (v := .bool n0.b) rfl).set i (by rw [List.getElem?_set, if_pos rfl, if_pos (by simpa using hl)]) 1 (v := .slice n0.a n0.n n0.c) rfl) i (by rw [List.getElem?_set, if_pos rfl, if_pos (by simpa using hl)]) 2 (.slice n0.d n0.m n0.e)
 simpa using g
theorem GsR.st_RR {w0 w : World} {bs : List Bx} {gs : List GrR} {fs : List Fx} (h : GsR w0 w bs gs) (hs : Sx w0 w bs fs) (i : Nat) (o0 : R3) (o1 : R3) (n0 : R3) (n1 : R3) {B T : Nat} (hi : bs[i]? = some (B, #[.bool o0.b, .slice o0.a o0.n o0.c, .slice o0.d o0.m o0.e, .bool o1.b, .slice o1.a o1.n o1.c, .slice o1.d o1.m o1.e], T)) :
  GsR w0 (((((((w).setCell ⟨B, 0, none⟩ (.bool n0.b)).setCell ⟨B, 1, none⟩ (.slice n0.a n0.n n0.c)).setCell ⟨B, 2, none⟩ (.slice n0.d n0.m n0.e)).setCell ⟨B, 3, none⟩ (.bool n1.b)).setCell ⟨B, 4, none⟩ (.slice n1.a n1.n n1.c)).setCell ⟨B, 5, none⟩ (.slice n1.d n1.m n1.e)) (bs.set i (B, #[.bool n0.b, .slice n0.a n0.n n0.c, .slice n0.d n0.m n0.e, .bool n1.b, .slice n1.a n1.n n1.c, .slice n1.d n1.m n1.e], T)) gs := by
 have hl := (List.getElem?_eq_some_iff.1 hi).1
 have g := ((((((h).set2 (hs) i hi 0 (.bool n0.b)).set2 ((hs).set i hi 0 (v := .bool n0.b) rfl) i (by rw [List.getElem?_set, if_pos rfl, if_pos (by simpa using hl)]) 1 (.slice n0.a n0.n n0.c)).set2 (((hs).set i hi 0 (v := .bool n0.b) rfl).set i (by rw [List.getElem?_set, if_pos rfl, if_pos (by simpa using hl)]) 1 (v := .slice n0.a n0.n n0.c) rfl) i (by rw [List.getElem?_set, if_pos rfl, if_pos (by simpa using hl)]) 2 (.slice n0.d n0.m n0.e)).set2 ((((hs).set i hi 0 (v := .bool n0.b) rfl).set i (by rw [List.getElem?_set, if_pos rfl, if_pos (by simpa using hl)]) 1 (v := .slice n0.a n0.n n0.c) rfl).set i (by rw [List.getElem?_set, if_pos rfl, if_pos (by simpa using hl)]) 2 (v := .slice n0.d n0.m n0.e) rfl) i (by rw [List.getElem?_set, if_pos rfl, if_pos (by simpa using hl)]) 3 (.bool n1.b)).set2 (((((hs).set i hi 0 (v := .bool n0.b) rfl).set i (by rw [List.getElem?_set, if_pos rfl, if_pos (by simpa using hl)]) 1 (v := .slice n0.a n0.n n0.c) rfl).set i (by rw [List.getElem?_set, if_pos rfl, if_pos (by simpa using hl)]) 2 (v := .slice n0.d n0.m n0.e) rfl).set i (by rw [List.getElem?_set, if_pos rfl, if_pos (by simpa using hl)]) 3 (v := .bool n1.b) rfl) i (by rw [List.getElem?_set, if_pos rfl, if_pos (by simpa using hl)]) 4 (.slice n1.a n1.n n1.c)).set2 ((((((hs).set i hi 0 (v := .bool n0.b) rfl).set i (by rw [List.getElem?_set, if_pos rfl, if_pos (by simpa using hl)]) 1 (v := .slice n0.a n0.n n0.c) rfl).set i (by rw [List.getElem?_set, if_pos rfl, if_pos (by simpa using hl)]) 2 (v := .slice n0.d n0.m n0.e) rfl).set i (by rw [List.getElem?_set, if_pos rfl, if_pos (by simpa using hl)]) 3 (v := .bool n1.b) rfl).set i (by rw [List.getElem?_set, if_pos rfl, if_pos (by simpa using hl)]) 4 (v := .slice n1.a n1.n n1.c) rfl) i (by rw [List.getElem?_set, if_pos rfl, if_pos (by simpa using hl)]) 5 (.slice n1.d n1.m n1.e)
 simpa using g
theorem Fr.grown {p : Bool} {w w' : World} {v : Value} {q : Rat} {row : Option Nat} (h : Fr p w v q) (hg : w.grownBy w' row) (hr : ∀ g, row = some g → NoDig w g) : Fr p w' v q := by
 cases p with
 | true => exact IsRat.grown3 (h : IsRat w v q) hg hr
 | false => exact IsR.grown3 (h : IsR w v q) hg hr
theorem cells_blk {w : World} {B T : Nat} {cs : Array Value} (h : w.heap[B]? = some (.cells cs T (0, 0))) : ∀ j u, cs.toList[j]? = some u → w.cell? ((⟨B, 0, none⟩ : Addr).add j) = some u := by
 intro j u hu
 have ea : (⟨B, 0, none⟩ : Addr).add j = ⟨B, 0 + j, none⟩ := by unfold Addr.add; split <;> simp_all
 rw [ea]
 exact blk_cell h (0 + j) u (by rw [Nat.zero_add]; simpa using hu)
theorem Sx.append {w0 w w' : World} {bs : List Bx} {fs : List Fx} {gs : List GrR} (h : Sx w0 w bs fs) (hg : GsR w0 w bs gs) (i : Nat) {g : GrR} (hi : gs[i]? = some g) (l : List R3) (rs : List Rat) {v' : Value} (hl : l.length = g.k) (hr : ∀ j x, l[j]? = some x → Fr g.p w x.val (rs.getD j 0))
  (hL : LRow w' w0.heap.size g.e (3 * g.k) v' (g.qs.length + 1) (g.xs ++ cellsR l)) (hgr : w.grownBy w' g.v.ownBlock) (hat : ∀ c, v'.ownBlock = some c → g.v.ownBlock = some c ∨ c = w.heap.size) :
  Sx w0 w' bs fs ∧ GsR w0 w' bs (gs.set i ⟨g.e, g.p, g.k, v', g.xs ++ cellsR l, g.qs ++ [rs]⟩) := by
 have hm : g ∈ gs := List.mem_iff_getElem?.2 ⟨i, hi⟩
 have hnd : ∀ c, g.v.ownBlock = some c → NoDig w c := (hg.row i g hi).2
 have hfr : ∀ p v q, Fr p w v q → Fr p w' v q := fun p v q hf => hf.grown hgr hnd
 have hblt : ∀ b, b ∈ bs → b.1 < w.heap.size := fun b hb => by
  obtain ⟨j, hj⟩ := List.mem_iff_getElem?.1 hb
  exact blk_lt (h.box j b hj).1
 refine ⟨⟨h.bel.grown hgr h.bel.size (ownBlock_base3 (hg.row i g hi).1), fun j b hj => ?_, h.nod, fun j f hf => hfr _ _ _ (h.fra j f hf)⟩, fun j g' hj => ?_, fun j g' hj => ?_, fun b hb g' hg' => ?_, fun j k g1 g2 hj hk hjk c hc => ?_⟩
 ·
  obtain ⟨h1, h2⟩ := h.box j b hj
  exact ⟨(hgr.block b.1 (blk_lt h1) (fun e => hg.sep b (List.mem_iff_getElem?.2 ⟨j, hj⟩) g hm e.symm)).trans h1, h2⟩
 ·
  rw [List.getElem?_set] at hj
  by_cases hij : i = j
  ·
   subst hij
   rw [if_pos rfl] at hj
   split at hj
   ·
    injection hj with hj
    subst hj
    show LRow w' w0.heap.size g.e (3 * g.k) v' (g.qs ++ [rs]).length (g.xs ++ cellsR l)
    rw [List.length_append]
    exact hL
   ·
    exact absurd hj (by simp)
  ·
   rw [if_neg hij] at hj
   exact (hg.row j g' hj).grown hgr fun c hc e => hg.apart j i g' g hj hi (fun e => hij e.symm) c hc e.symm
 ·
  rw [List.getElem?_set] at hj
  by_cases hij : i = j
  ·
   subst hij
   rw [if_pos rfl] at hj
   split at hj
   ·
    injection hj with hj
    subst hj
    exact ((hg.mean i g hi).mono fun _ _ hf => hfr _ _ _ hf).snoc l rs hl (fun j x hx => hfr _ _ _ (hr j x hx))
   ·
    exact absurd hj (by simp)
  ·
   rw [if_neg hij] at hj
   exact (hg.mean j g' hj).mono fun _ _ hf => hfr _ _ _ hf
 ·
  rcases List.mem_or_eq_of_mem_set hg' with hg' | rfl
  ·
   exact hg.sep b hb g' hg'
  ·
   intro hc
   rcases hat _ hc with h1 | h1
   ·
    exact hg.sep b hb g hm h1
   ·
    have := hblt b hb; omega
 ·
  have hlt : ∀ (n : Nat) (g' : GrR), gs[n]? = some g' → ∀ c, g'.v.ownBlock = some c → c < w.heap.size := fun n g' hn c hc => ((hg.row n g' hn).lt hc).1
  rw [List.getElem?_set] at hj hk
  by_cases hij : i = j
  ·
   subst hij
   rw [if_pos rfl] at hj
   rw [if_neg hjk] at hk
   split at hj
   ·
    injection hj with hj
    subst hj
    intro hc2
    rcases hat _ hc with h1 | h1
    ·
     exact hg.apart i k g g2 hi hk hjk c h1 hc2
    ·
     have := hlt k g2 hk c hc2; omega
   ·
    exact absurd hj (by simp)
  ·
   rw [if_neg hij] at hj
   by_cases hik : i = k
   ·
    subst hik
    rw [if_pos rfl] at hk
    split at hk
    ·
     injection hk with hk
     subst hk
     intro hc2
     rcases hat _ hc2 with h1 | h1
     ·
      exact hg.apart j i g1 g hj hi hjk c hc h1
     ·
      have := hlt j g1 hj c hc; omega
    ·
     exact absurd hk (by simp)
   ·
    rw [if_neg hik] at hk
    exact hg.apart j k g1 g2 hj hk hjk c hc
end Go.Proofs.YtfjcccpibhhncaaGreat

namespace Go.Proofs.YtfjcccpibhhncaaGreat
open Go.RowKit

theorem GsR.to {w0 w W : World} {bs cs : List Bx} {gs : List GrR} (h : GsR w0 w bs gs) (e : w = W) (eb : bs = cs) : GsR w0 W cs gs := by subst e; subst eb; exact h
def RetRecs (p : Bool) (k : Nat) (qs : List (List Rat)) (w : World) (e : Ending) (w' : World) : Prop := ∃ v, e = .returned v ∧ RecsOf p k w' v qs ∧ Below w.heap.size w w'
def RetRecsE (p : Bool) (k : Nat) (qs : List (List Rat)) (er : Int) (w : World) (e : Ending) (w' : World) : Prop := ∃ v, e = .returned (.tuple #[v, .int .i64 er]) ∧ RecsOf p k w' v qs ∧ Below w.heap.size w w'
def flT (qs : List (List Rat)) (er : Int) : List (List Rat) := if er = 0 then qs else []
theorem RecsOf.nil (p : Bool) (k : Nat) (w : World) : RecsOf p k w (.slice none 0 0) [] := ⟨none, 0, rfl, fun h => absurd h (by simp)⟩
theorem idx__2_ratio_Ratio_0 (x0 : R3) (x1 : R3) (w : World) : (Instr.index 209 (.agg #[.bool x0.b, .slice x0.a x0.n x0.c, .slice x0.d x0.m x0.e, .bool x1.b, .slice x1.a x1.n x1.c, .slice x1.d x1.m x1.e]) (.int .i64 0)).run Tryz.prog w = .ok (x0.val) w := by kernel_rfl
theorem idx__2_ratio_Ratio_1 (x0 : R3) (x1 : R3) (w : World) : (Instr.index 209 (.agg #[.bool x0.b, .slice x0.a x0.n x0.c, .slice x0.d x0.m x0.e, .bool x1.b, .slice x1.a x1.n x1.c, .slice x1.d x1.m x1.e]) (.int .i64 1)).run Tryz.prog w = .ok (x1.val) w := by kernel_rfl
theorem idx__4_ratio_Ratio_0 (x0 : R3) (x1 : R3) (x2 : R3) (x3 : R3) (w : World) : (Instr.index 208 (.agg #[.bool x0.b, .slice x0.a x0.n x0.c, .slice x0.d x0.m x0.e, .bool x1.b, .slice x1.a x1.n x1.c, .slice x1.d x1.m x1.e, .bool x2.b, .slice x2.a x2.n x2.c, .slice x2.d x2.m x2.e, .bool x3.b, .slice x3.a x3.n x3.c, .slice x3.d x3.m x3.e]) (.int .i64 0)).run Tryz.prog w = .ok (x0.val) w := by kernel_rfl
theorem idx__4_ratio_Ratio_1 (x0 : R3) (x1 : R3) (x2 : R3) (x3 : R3) (w : World) : (Instr.index 208 (.agg #[.bool x0.b, .slice x0.a x0.n x0.c, .slice x0.d x0.m x0.e, .bool x1.b, .slice x1.a x1.n x1.c, .slice x1.d x1.m x1.e, .bool x2.b, .slice x2.a x2.n x2.c, .slice x2.d x2.m x2.e, .bool x3.b, .slice x3.a x3.n x3.c, .slice x3.d x3.m x3.e]) (.int .i64 1)).run Tryz.prog w = .ok (x1.val) w := by kernel_rfl
theorem idx__4_ratio_Ratio_2 (x0 : R3) (x1 : R3) (x2 : R3) (x3 : R3) (w : World) : (Instr.index 208 (.agg #[.bool x0.b, .slice x0.a x0.n x0.c, .slice x0.d x0.m x0.e, .bool x1.b, .slice x1.a x1.n x1.c, .slice x1.d x1.m x1.e, .bool x2.b, .slice x2.a x2.n x2.c, .slice x2.d x2.m x2.e, .bool x3.b, .slice x3.a x3.n x3.c, .slice x3.d x3.m x3.e]) (.int .i64 2)).run Tryz.prog w = .ok (x2.val) w := by kernel_rfl
theorem idx__4_ratio_Ratio_3 (x0 : R3) (x1 : R3) (x2 : R3) (x3 : R3) (w : World) : (Instr.index 208 (.agg #[.bool x0.b, .slice x0.a x0.n x0.c, .slice x0.d x0.m x0.e, .bool x1.b, .slice x1.a x1.n x1.c, .slice x1.d x1.m x1.e, .bool x2.b, .slice x2.a x2.n x2.c, .slice x2.d x2.m x2.e, .bool x3.b, .slice x3.a x3.n x3.c, .slice x3.d x3.m x3.e]) (.int .i64 3)).run Tryz.prog w = .ok (x3.val) w := by kernel_rfl
theorem idx2_any (x0 x1 : R3) (e : Nat) (he : e < 2) (w : World) : (Instr.index 209 (.agg #[.bool x0.b, .slice x0.a x0.n x0.c, .slice x0.d x0.m x0.e, .bool x1.b, .slice x1.a x1.n x1.c, .slice x1.d x1.m x1.e]) (.int .i64 (e : Int))).run Tryz.prog w = .ok (pk2 x0 x1 e).val w := by
 match e, he with
 | 0, _ => exact idx__2_ratio_Ratio_0 x0 x1 w
 | 1, _ => exact idx__2_ratio_Ratio_1 x0 x1 w
theorem rhull_le (a b c d : Rat) (vx vy : Value) (w : World) (hx : IsRng w vx a b) (hy : IsRng w vy c d) (h1 : a ≤ b) (h2 : c ≤ d) (s1 : szR a 274877906944) (s2 : szR b 274877906944) (s3 : szR c 274877906944) (s4 : szR d 274877906944) :
  Calls Tryz.prog 44 #[vx, vy] w (RetRng (loQ a c) (hiQ b d) w) := by
 have := rhull_any a b c d vx vy w hx hy s1 s2 s3 s4
 rw [best_lo h1 h2, best_hi h1 h2] at this
 exact this
theorem inf_ratio_Range : (Tryz.prog.info? 43).map (fun i => (i.zero, i.size, i.bytes)) = some (some (.agg #[.bool false, .slice none 0 0, .slice none 0 0, .bool false, .slice none 0 0, .slice none 0 0]), 6, 112) := by kernel_rfl
set_option maxRecDepth 100000 in
set_option maxHeartbeats 4000000 in
theorem tcheck_any (l0 l1 : Rat) (n c : Nat) (a : Option Addr) (vx : Value) (w : World) (hx : IsRng w vx l0 l1) (s1 : szR l1 1000) : Calls Tryz.prog 56 #[vx, .slice a n c] w (RetInt (flErr l0 l1 n) w) := by
 obtain ⟨x1, x2, rfl, hx1, hx2⟩ := hx
 have HS := Lib.hid (((Sx.init w).addP hx1).addP hx2)
 have SL1 := Lib.hid s1
 clear hx1 hx2 s1
 by_cases hn : 256 < n
 ·
  have HNN := Lib.hid hn
  have tn1 : decide ((n : Int) > 256) = true := decide_eq_true (by omega)
  have tn2 : decide (256 < n) = true := decide_eq_true hn
  have tn3 : decide (256 < (n : Int)) = true := decide_eq_true (by omega)
  clear hn
  go_enter Tryz.func56, Tryz.ntmps56
  go_wp2_with fail
  generalize hW1 : (w).alloc (.cells _ _) = W1 at *
  replace HS := Lib.hid (((HS.out).alloc (B := w.heap.size) rfl (by rfl)).to hW1 (by (try simp only [nb5, nb6]); rfl))
  clear hW1
  cases t2 : partB l0 l1 with
  | true =>
   refine (part_any l0 l1 _ _ (rngP (HS.out.p 1 _ _ rfl) (HS.out.p 0 _ _ rfl)) (szR_mono SL1.out (by omega))).mono ?_
   rw [t2]
   rintro e w3 ⟨rfl, hb3⟩
   replace HS := Lib.hid (HS.out.below hb3)
   clear hb3
   go_wp2_with fail
   have HR : Hid (flErr l0 l1 n = 4) := by show _ = _; unfold flErr; rw [if_neg (by rw [t2]; simp)]; rw [if_pos HNN.out]
   go_ret
   exact ⟨by rw [HR.out] <;> rfl, HS.out.bel⟩
  | false =>
   refine (part_any l0 l1 _ _ (rngP (HS.out.p 1 _ _ rfl) (HS.out.p 0 _ _ rfl)) (szR_mono SL1.out (by omega))).mono ?_
   rw [t2]
   rintro e w4 ⟨rfl, hb4⟩
   replace HS := Lib.hid (HS.out.below hb4)
   clear hb4
   go_wp2_with fail
   have HR : Hid (flErr l0 l1 n = 1) := by show _ = _; unfold flErr; rw [if_pos t2]
   go_ret
   exact ⟨by rw [HR.out] <;> rfl, HS.out.bel⟩
 ·
  have HNN := Lib.hid hn
  have tn1 : decide ((n : Int) > 256) = false := decide_eq_false (by omega)
  have tn2 : decide (256 < n) = false := decide_eq_false hn
  have tn3 : decide (256 < (n : Int)) = false := decide_eq_false (by omega)
  clear hn
  go_enter Tryz.func56, Tryz.ntmps56
  go_wp2_with fail
  generalize hW5 : (w).alloc (.cells _ _) = W5 at *
  replace HS := Lib.hid (((HS.out).alloc (B := w.heap.size) rfl (by rfl)).to hW5 (by (try simp only [nb5, nb6]); rfl))
  clear hW5
  cases t6 : partB l0 l1 with
  | true =>
   refine (part_any l0 l1 _ _ (rngP (HS.out.p 1 _ _ rfl) (HS.out.p 0 _ _ rfl)) (szR_mono SL1.out (by omega))).mono ?_
   rw [t6]
   rintro e w7 ⟨rfl, hb7⟩
   replace HS := Lib.hid (HS.out.below hb7)
   clear hb7
   go_wp2_with fail
   have HR : Hid (flErr l0 l1 n = 0) := by show _ = _; unfold flErr; rw [if_neg (by rw [t6]; simp)]; rw [if_neg HNN.out]
   go_ret
   exact ⟨by rw [HR.out] <;> rfl, HS.out.bel⟩
  | false =>
   refine (part_any l0 l1 _ _ (rngP (HS.out.p 1 _ _ rfl) (HS.out.p 0 _ _ rfl)) (szR_mono SL1.out (by omega))).mono ?_
   rw [t6]
   rintro e w8 ⟨rfl, hb8⟩
   replace HS := Lib.hid (HS.out.below hb8)
   clear hb8
   go_wp2_with fail
   have HR : Hid (flErr l0 l1 n = 1) := by show _ = _; unfold flErr; rw [if_pos t6]
   go_ret
   exact ⟨by rw [HR.out] <;> rfl, HS.out.bel⟩
set_option maxRecDepth 100000 in
set_option maxHeartbeats 4000000 in
theorem ncheck_any (le mo ri : Rat) (m : Int) (y1 y2 y3 : R3) (w : World) (h1 : IsRat w y1.val le) (h2 : IsRat w y2.val mo) (h3 : IsRat w y3.val ri) (s1 : szR le 1000) (s2 : szR mo 1000) (s3 : szR ri 1000) : Calls Tryz.prog 57 #[.agg #[.bool y1.b, .slice y1.a y1.n y1.c, .slice y1.d y1.m y1.e, .bool y2.b, .slice y2.a y2.n y2.c, .slice y2.d y2.m y2.e, .bool y3.b, .slice y3.a y3.n y3.c, .slice y3.d y3.m y3.e, .int .i64 m]] w (RetInt (ndErr le mo ri m) w) := by
 have HS := Lib.hid ((((Sx.init w).addP h1).addP h2).addP h3)
 have SE := Lib.hid s1
 have SM := Lib.hid s2
 have SI := Lib.hid s3
 clear h1 h2 h3 s1 s2 s3
 go_enter Tryz.func57, Tryz.ntmps57
 by_cases t1p : m < 1
 ·
  have t1 : decide (m < 1) = true := decide_eq_true t1p
  have T1 := Lib.hid t1p
  clear t1p
  go_wp2_with fail
  generalize hW2 : (w).alloc (.cells _ _) = W2 at *
  replace HS := Lib.hid (((HS.out).alloc (B := w.heap.size) rfl (by rfl)).to hW2 (by (try simp only [nb5, nb6]); rfl))
  clear hW2
  have HR : Hid (ndErr le mo ri m = 1) := by
   show _ = _
   unfold ndErr
   have t1q := T1.out
   rw [if_pos (by omega)]
  go_ret
  exact ⟨by rw [HR.out] <;> rfl, HS.out.bel⟩
 ·
  have t1 : decide (m < 1) = false := decide_eq_false t1p
  have T1 := Lib.hid t1p
  clear t1p
  by_cases t3p : m > 256
  ·
   have t3 : decide (m > 256) = true := decide_eq_true t3p
   have T3 := Lib.hid t3p
   clear t3p
   go_wp2_with fail
   generalize hW4 : (w).alloc (.cells _ _) = W4 at *
   replace HS := Lib.hid (((HS.out).alloc (B := w.heap.size) rfl (by rfl)).to hW4 (by (try simp only [nb5, nb6]); rfl))
   clear hW4
   have HR : Hid (ndErr le mo ri m = 1) := by
    show _ = _
    unfold ndErr
    have t1q := T1.out
    have t3q := T3.out
    rw [if_pos (by omega)]
   go_ret
   exact ⟨by rw [HR.out] <;> rfl, HS.out.bel⟩
  ·
   have t3 : decide (m > 256) = false := decide_eq_false t3p
   have T3 := Lib.hid t3p
   clear t3p
   go_wp2_with fail
   generalize hW5 : (w).alloc (.cells _ _) = W5 at *
   replace HS := Lib.hid (((HS.out).alloc (B := w.heap.size) rfl (by rfl)).to hW5 (by (try simp only [nb5, nb6]); rfl))
   clear hW5
   obtain ⟨c6, hc6⟩ : ∃ κ, κ = sgnI (decide (ri.num < 0)) ri.num.natAbs := ⟨_, rfl⟩
   have HC6 := Lib.hid hc6
   clear hc6
   refine (signR_any ri _ _ (HS.out.p 0 _ _ rfl)).mono ?_
   rw [← HC6.out]
   rintro e w6 ⟨rfl, hb6⟩
   replace HS := Lib.hid (HS.out.below hb6)
   clear hb6
   by_cases t7p : c6 < 0
   ·
    have t7 : decide (c6 < 0) = true := decide_eq_true t7p
    have T7 := Lib.hid t7p
    clear t7p
    go_wp2_with fail
    have HR : Hid (ndErr le mo ri m = 1) := by
     show _ = _
     unfold ndErr
     rw [← HC6.out]
     have t1q := T1.out
     have t3q := T3.out
     have t7q := T7.out
     rw [if_pos (by omega)]
    go_ret
    exact ⟨by rw [HR.out] <;> rfl, HS.out.bel⟩
   ·
    have t7 : decide (c6 < 0) = false := decide_eq_false t7p
    have T7 := Lib.hid t7p
    clear t7p
    have b0e := (HS.out.at 0 _ _ _ rfl)
    have b0c0 := blk_cell b0e 0 (.bool y1.b) rfl
    have b0c1 := blk_cell b0e 1 (.slice y1.a y1.n y1.c) rfl
    have b0c2 := blk_cell b0e 2 (.slice y1.d y1.m y1.e) rfl
    have b0c3 := blk_cell b0e 3 (.bool y2.b) rfl
    have b0c4 := blk_cell b0e 4 (.slice y2.a y2.n y2.c) rfl
    have b0c5 := blk_cell b0e 5 (.slice y2.d y2.m y2.e) rfl
    have b0c6 := blk_cell b0e 6 (.bool y3.b) rfl
    have b0c7 := blk_cell b0e 7 (.slice y3.a y3.n y3.c) rfl
    have b0c8 := blk_cell b0e 8 (.slice y3.d y3.m y3.e) rfl
    have b0c9 := blk_cell b0e 9 (.int .i64 m) rfl
    have b0f0 := blk_frozen b0e 0
    have b0f1 := blk_frozen b0e 1
    have b0f2 := blk_frozen b0e 2
    have b0f3 := blk_frozen b0e 3
    have b0f4 := blk_frozen b0e 4
    have b0f5 := blk_frozen b0e 5
    have b0f6 := blk_frozen b0e 6
    have b0f7 := blk_frozen b0e 7
    have b0f8 := blk_frozen b0e 8
    have b0f9 := blk_frozen b0e 9
    have b0l := blk_lt b0e
    clear b0e
    go_wp2_with fail
    clear b0c0 b0c1 b0c2 b0c3 b0c4 b0c5 b0c6 b0c7 b0c8 b0c9 b0f0 b0f1 b0f2 b0f3 b0f4 b0f5 b0f6 b0f7 b0f8 b0f9 b0l
    obtain ⟨c8, hc8⟩ : ∃ κ, κ = cmpR le mo := ⟨_, rfl⟩
    have HC8 := Lib.hid hc8
    clear hc8
    refine (cmpRat_any le mo _ _ _ (HS.out.p 2 _ _ rfl) (HS.out.p 1 _ _ rfl) (szR_mono SE.out (by omega)) (szR_mono SM.out (by omega))).mono ?_
    rw [← HC8.out]
    rintro e w8 ⟨rfl, hb8⟩
    replace HS := Lib.hid (HS.out.below hb8)
    clear hb8
    by_cases t9p : c8 > 0
    ·
     have t9 : decide (c8 > 0) = true := decide_eq_true t9p
     have T9 := Lib.hid t9p
     clear t9p
     go_wp2_with fail
     have HR : Hid (ndErr le mo ri m = 1) := by
      show _ = _
      unfold ndErr
      rw [← HC6.out, ← HC8.out]
      have t1q := T1.out
      have t3q := T3.out
      have t7q := T7.out
      have t9q := T9.out
      rw [if_pos (by omega)]
     go_ret
     exact ⟨by rw [HR.out] <;> rfl, HS.out.bel⟩
    ·
     have t9 : decide (c8 > 0) = false := decide_eq_false t9p
     have T9 := Lib.hid t9p
     clear t9p
     go_wp2_with fail
     have HR : Hid (ndErr le mo ri m = 0) := by
      show _ = _
      unfold ndErr
      rw [← HC6.out, ← HC8.out]
      have t1q := T1.out
      have t3q := T3.out
      have t7q := T7.out
      have t9q := T9.out
      rw [if_neg (by omega)]
     go_ret
     exact ⟨by rw [HR.out] <;> rfl, HS.out.bel⟩
set_option maxRecDepth 100000 in
set_option maxHeartbeats 8000000 in
theorem follow_any (l0 l1 S : Rat) (aq : List Rat) (k : Nat) (hk : k ≤ 256) (z : Int) (hz : min (max z 0) 256 = (k : Int)) (vx vS va : Value) (w : World) (hx : IsRng w vx l0 l1) (hS : IsRat w vS S) (ha : FrcsOf IsRat w va aq) (hl : aq.length ≤ 300) (s0 : szR l0 1000) (s1 : szR l1 1000) (sS : szR S 1000) (sa : ∀ i, szR (aq.getD i 0) 1000) (sF : ∀ i, szR (flUp S l0 l1 k aq i).1 1000 ∧ szR (flUp S l0 l1 k aq i).2 1000) :
  Calls Tryz.prog 61 #[vx, vS, va, .int .i64 z] w (RetRecs true 2 (flR S l0 l1 k aq aq.length) w) := by
 obtain ⟨x1, x2, rfl, hx1, hx2⟩ := hx
 obtain ⟨x3, rfl⟩ := hS.open3
 have HS := Lib.hid ((((Sx.init w).addP hx1).addP hx2).addP hS)
 have SL0 := Lib.hid s0
 have SL1 := Lib.hid s1
 have SS := Lib.hid sS
 have HZA := Lib.hid sa
 have HZF := Lib.hid sF
 have HK := Lib.hid hk
 have HZK := Lib.hid hz
 obtain ⟨aa, ca, rfl, hE⟩ := ha
 have HE := Lib.hid hE
 clear hx1 hx2 hS s0 s1 sS sa sF hE hk hz
 go_enter Tryz.func61, Tryz.ntmps61
 go_wp2_with fail
 generalize hW1 : ((w).alloc (.cells _ _)).alloc (.cells _ _) = W1 at *
 replace HS := Lib.hid ((((HS.out).alloc (B := w.heap.size) rfl (by rfl)).alloc (B := w.heap.size + 1) (by simp) (by rfl)).to hW1 (by (try simp only [nb5, nb6]); rfl))
 clear hW1
 refine (only_any S _ _ (HS.out.p 0 _ _ rfl)).mono ?_
 rintro e w2 ⟨v2, rfl, ⟨z2a, z2b, rfl, hv2, hw2⟩, hb2⟩
 replace HS := Lib.hid (HS.out.below hb2)
 clear hb2
 replace HS := Lib.hid (HS.out.addP hv2)
 clear hv2
 replace HS := Lib.hid (HS.out.addP hw2)
 clear hw2
 go_wp2_with fail
 generalize hW3 : (w2).alloc (.cells _ _) = W3 at *
 replace HS := Lib.hid (((HS.out).alloc (B := w2.heap.size) rfl (by rfl)).to hW3 (by (try simp only [nb5, nb6]); rfl))
 clear hW3
 have HG := Lib.hid ((GsR.nil w W3 [(w2.heap.size, arr6 z2a z2b, 43), (w.heap.size + 1, x3.arr, 41), (w.heap.size, arr6 x1 x2, 46)]).add 43 true 2)
 go_wp2_with fail
 go_loopw [22, 9] (fun u22 u9 wr => ∃ (i : Nat) (m1 m2 : R3) (rv : Value) (rx : List Value), i ≤ aq.length ∧ u22 = .int .i64 i ∧ rv = u9 ∧ Hid (Sx w wr [(w2.heap.size, arr6 m1 m2, 43), (w.heap.size + 1, x3.arr, 41), (w.heap.size, arr6 x1 x2, 46)] [(true, m2.val, (flUp S l0 l1 k aq i).2), (true, m1.val, (flUp S l0 l1 k aq i).1), (true, x3.val, S), (true, x2.val, l1), (true, x1.val, l0)]) ∧ Hid (GsR w wr [(w2.heap.size, arr6 m1 m2, 43), (w.heap.size + 1, x3.arr, 41), (w.heap.size, arr6 x1 x2, 46)] [⟨43, true, 2, rv, rx, (flR S l0 l1 k aq i)⟩]))
  (fun u _ _ => aq.length - (intOf u).toNat)
 case atStart => exact ⟨0, z2a, z2b, .slice none 0 0, [], Nat.zero_le _, rfl, rfl, Lib.hid ((((((HS.out.bare).addP (HS.out.p 4 _ _ rfl)).addP (HS.out.p 3 _ _ rfl)).addP (HS.out.p 2 _ _ rfl)).addP (HS.out.p 1 _ _ rfl)).addP (HS.out.p 0 _ _ rfl)), HG⟩
 case round =>
  obtain ⟨wr4, hwr4⟩ : ∃ z, z = wr := ⟨_, rfl⟩
  subst hwr4
  clear HS HG
  obtain ⟨i, m1, m2, rv, rx, hi, rfl, rfl, HS, HG⟩ := hrel
  by_cases hlt : i < aq.length
  ·
   have hlt' : (i : Int) < aq.length := by omega
   have hge' : (0 : Int) ≤ i := by omega
   have HLT := Lib.hid hlt
   obtain ⟨b, off, rfl, hbl, hEE⟩ := HE.out (by omega)
   have HBL := Lib.hid hbl
   obtain ⟨A, g0, g1, g2, hA⟩ := FrcAt.r3 (hEE i hlt)
   have A0 := Lib.hid g0
   have A1 := Lib.hid g1
   have A2 := Lib.hid g2
   have hln := flR_len S l0 l1 k aq i
   have HFS := Lib.hid (flR_succ S l0 l1 k aq i)
   clear g0 g1 g2 hbl hEE
   replace HS := Lib.hid (HS.out.addP (hA.below HS.out.bel))
   clear hA
   have SA := Lib.hid (HZA.out i)
   obtain ⟨f1, f2⟩ := HZF.out i
   have ST0 := Lib.hid f1
   have ST1 := Lib.hid f2
   clear f1 f2
   have HU1 : Hid ((flUp S l0 l1 k aq (i + 1)).1 = downQ (flLo (flUp S l0 l1 k aq i).1 (flUp S l0 l1 k aq i).2 l0 l1 (aq.getD i 0)) k) := rfl
   have HU2 : Hid ((flUp S l0 l1 k aq (i + 1)).2 = upQ (flHi (flUp S l0 l1 k aq i).1 (flUp S l0 l1 k aq i).2 l0 l1 (aq.getD i 0)) k) := rfl
   generalize (flUp S l0 l1 k aq i).1 = t0 at *
   generalize (flUp S l0 l1 k aq i).2 = t1 at *
   generalize aq.getD i 0 = a at *
   rw [← nx_lo] at HU1
   rw [← nx_hi] at HU2
   clear hlt
   have Ac0 := (HS.out.bel.cell (p := ⟨b, off + i * 3, none⟩) HBL.out).trans A0.out
   have Ac1 := (HS.out.bel.cell (p := ⟨b, off + i * 3 + 1, none⟩) HBL.out).trans A1.out
   have Ac2 := (HS.out.bel.cell (p := ⟨b, off + i * 3 + 2, none⟩) HBL.out).trans A2.out
   go_wp2_with fail
   clear Ac0 Ac1 Ac2
   generalize hW5 : ((wr4).alloc (.cells _ _)).alloc (.cells _ _) = W5 at *
   replace HG := Lib.hid ((((HG.out).alloc (B := wr4.heap.size) rfl).alloc (B := wr4.heap.size + 1) (by simp)).to hW5 (by (try simp only [nb5, nb6]); rfl))
   replace HS := Lib.hid ((((HS.out).alloc (B := wr4.heap.size) rfl (by rfl)).alloc (B := wr4.heap.size + 1) (by simp) (by rfl)).to hW5 (by (try simp only [nb5, nb6]); rfl))
   clear hW5
   refine wp_region_held_drew (S := (fun w' => Sx w w' [(wr4.heap.size + 1, #[.bool false, .slice none 0 0, .slice none 0 0, .bool false, .slice none 0 0, .slice none 0 0], 43), (wr4.heap.size, A.arr, 41), (w2.heap.size, arr6 m1 m2, 43), (w.heap.size + 1, x3.arr, 41), (w.heap.size, arr6 x1 x2, 46)] [])) (by kernel_rfl) ((HS.out.drew).bare) (fun hh => ?_)
   replace HS := Lib.hid HS.out.drew
   replace HG := Lib.hid (HG.out.below (Below.refl _ _).drew)
   refine tkB (i := 0) (v := ?vk7) rfl ?hk7 ?rk7
   case hk7 => intro u hSu; (try dsimp only at hSu); obtain ⟨qb2c0, qb2c1, qb2c2, qb2c3, qb2c4, qb2c5, _⟩ := fac6 (x := m1) (y := m2) (hSu.at 2 _ _ _ rfl); clear hSu; go_simp <;> with_reducible rfl
   try simp only [nbs, Act.put]
   refine tkB (i := 2) (v := ?vk8) rfl ?hk8 ?rk8
   case hk8 => intro u hSu; (try dsimp only at hSu); obtain ⟨qb2c0, qb2c1, qb2c2, qb2c3, qb2c4, qb2c5, _⟩ := fac6 (x := m1) (y := m2) (hSu.at 2 _ _ _ rfl); clear hSu; go_simp <;> with_reducible rfl
   try simp only [nbs, Act.put]
   refine tkB (i := 4) (v := ?vk9) rfl ?hk9 ?rk9
   case hk9 => intro u hSu; (try dsimp only at hSu); obtain ⟨qb2c0, qb2c1, qb2c2, qb2c3, qb2c4, qb2c5, _⟩ := fac6 (x := m1) (y := m2) (hSu.at 2 _ _ _ rfl); clear hSu; go_simp <;> with_reducible rfl
   try simp only [nbs, Act.put]
   refine tkB (i := 6) (v := ?vk10) rfl ?hk10 ?rk10
   case hk10 => intro u hSu; (try dsimp only at hSu); obtain ⟨qb2c0, qb2c1, qb2c2, qb2c3, qb2c4, qb2c5, _⟩ := fac6 (x := m1) (y := m2) (hSu.at 2 _ _ _ rfl); clear hSu; go_simp <;> with_reducible rfl
   try simp only [nbs, Act.put]
   refine tkB (i := 9) (v := ?vk11) rfl ?hk11 ?rk11
   case hk11 => intro u hSu; go_simp <;> with_reducible rfl
   try simp only [nbs, Act.put]
   refine rdA (i := 1) rfl (fun K hK => ?_)
   go_simp
   have a13 := HS.out.p 2 _ _ rfl
   have a14 := HS.out.p 1 _ _ rfl
   go_wp2_with (go_at_call 72; (with_reducible refine (rlo_any t0 t1 _ _ (rngP a13 a14)).mono ?_); rintro e w12 ⟨v12, rfl, hv12, hb12⟩; obtain ⟨z12, rfl⟩ := hv12.open3)
   refine hK.out _ _ (Sx.below hh hb12) (fun hh => ?_)
   clear hK K
   try simp only [nbs, Act.put]
   replace HS := Lib.hid (HS.out.below hb12)
   replace HG := Lib.hid (HG.out.below hb12)
   clear hb12 a13 a14
   replace HS := Lib.hid (HS.out.addP hv12)
   clear hv12
   refine rdA (i := 3) rfl (fun K hK => ?_)
   go_simp
   have a16 := HS.out.p 3 _ _ rfl
   have a17 := HS.out.p 2 _ _ rfl
   go_wp2_with (go_at_call 72; (with_reducible refine (rlo_any t0 t1 _ _ (rngP a16 a17)).mono ?_); rintro e w15 ⟨v15, rfl, hv15, hb15⟩; obtain ⟨z15, rfl⟩ := hv15.open3)
   refine hK.out _ _ (Sx.below hh hb15) (fun hh => ?_)
   clear hK K
   try simp only [nbs, Act.put]
   replace HS := Lib.hid (HS.out.below hb15)
   replace HG := Lib.hid (HG.out.below hb15)
   clear hb15 a16 a17
   replace HS := Lib.hid (HS.out.addP hv15)
   clear hv15
   refine rdA (i := 5) rfl (fun K hK => ?_)
   go_simp
   have a19 := HS.out.p 4 _ _ rfl
   have a20 := HS.out.p 3 _ _ rfl
   go_wp2_with (go_at_call 80; (with_reducible refine (rhi_any t0 t1 _ _ (rngP a19 a20)).mono ?_); rintro e w18 ⟨v18, rfl, hv18, hb18⟩; obtain ⟨z18, rfl⟩ := hv18.open3)
   refine hK.out _ _ (Sx.below hh hb18) (fun hh => ?_)
   clear hK K
   try simp only [nbs, Act.put]
   replace HS := Lib.hid (HS.out.below hb18)
   replace HG := Lib.hid (HG.out.below hb18)
   clear hb18 a19 a20
   replace HS := Lib.hid (HS.out.addP hv18)
   clear hv18
   refine rdA (i := 7) rfl (fun K hK => ?_)
   go_simp
   have a22 := HS.out.p 5 _ _ rfl
   have a23 := HS.out.p 4 _ _ rfl
   go_wp2_with (go_at_call 80; (with_reducible refine (rhi_any t0 t1 _ _ (rngP a22 a23)).mono ?_); rintro e w21 ⟨v21, rfl, hv21, hb21⟩; obtain ⟨z21, rfl⟩ := hv21.open3)
   refine hK.out _ _ (Sx.below hh hb21) (fun hh => ?_)
   clear hK K
   try simp only [nbs, Act.put]
   replace HS := Lib.hid (HS.out.below hb21)
   replace HG := Lib.hid (HG.out.below hb21)
   clear hb21 a22 a23
   replace HS := Lib.hid (HS.out.addP hv21)
   clear hv21
   refine tkB (i := 8) (v := ?vk24) rfl ?hk24 ?rk24
   case hk24 => intro u hSu; go_simp <;> with_reducible rfl
   try simp only [nbs, Act.put]
   refine wpAnyH_done (by kernel_rfl) ?_ _
   go_wp2_with fail
   go_loopw [35] (fun u35 wr => ∃ (j : Nat) (n1 n2 : R3), j ≤ 4 ∧ u35 = .int .i64 j ∧ Hid (Sx w wr [(wr4.heap.size + 1, arr6 n1 n2, 43), (wr4.heap.size, A.arr, 41), (w2.heap.size, arr6 m1 m2, 43), (w.heap.size + 1, x3.arr, 41), (w.heap.size, arr6 x1 x2, 46)] [(true, n2.val, (nxH t0 t1 l0 l1 a j)), (true, n1.val, (nxL t0 t1 l0 l1 a j)), (true, z21.val, t1), (true, z18.val, t1), (true, z15.val, t0), (true, z12.val, t0), (true, A.val, a), (true, m2.val, t1), (true, m1.val, t0), (true, x3.val, S), (true, x2.val, l1), (true, x1.val, l0)]) ∧ Hid (GsR w wr [(wr4.heap.size + 1, arr6 n1 n2, 43), (wr4.heap.size, A.arr, 41), (w2.heap.size, arr6 m1 m2, 43), (w.heap.size + 1, x3.arr, 41), (w.heap.size, arr6 x1 x2, 46)] [⟨43, true, 2, rv, rx, (flR S l0 l1 k aq i)⟩]))
    (fun u _ => 4 - (intOf u).toNat)
   case atStart => exact ⟨0, r30, r30, Nat.zero_le _, rfl, Lib.hid (((((((((((((HS.out.bare).addP (HS.out.p 9 _ _ rfl)).addP (HS.out.p 8 _ _ rfl)).addP (HS.out.p 7 _ _ rfl)).addP (HS.out.p 6 _ _ rfl)).addP (HS.out.p 5 _ _ rfl)).addP (HS.out.p 4 _ _ rfl)).addP (HS.out.p 3 _ _ rfl)).addP (HS.out.p 2 _ _ rfl)).addP (HS.out.p 1 _ _ rfl)).addP (HS.out.p 0 _ _ rfl)).addP (isRat_r30 _)).addP (isRat_r30 _)), HG⟩
   case round =>
    obtain ⟨wr25, hwr25⟩ : ∃ z, z = wr := ⟨_, rfl⟩
    subst hwr25
    clear HS HG
    obtain ⟨j, n1, n2, hi, rfl, HS, HG⟩ := hrel
    by_cases hlt : j < 4
    ·
     have hlt' : (j : Int) < 4 := by omega
     have hge' : (0 : Int) ≤ j := by omega
     have HLT := Lib.hid hlt
     have HNX := Lib.hid (nx_sz ST0.out ST1.out SL0.out SL1.out SA.out j)
     have HNL := Lib.hid (nx_le t0 t1 l0 l1 a j)
     have hj4 : j = 0 ∨ j = 1 ∨ j = 2 ∨ j = 3 := by omega
     obtain ⟨TT, tq, lq, e, hix, hTT, he2, hr1, hsq, hpk, hzt, hzl⟩ : ∃ (TT : R3) (tq lq : Rat) (e : Nat), (∀ w, (Instr.index 208 (.agg #[.bool z12.b, .slice z12.a z12.n z12.c, .slice z12.d z12.m z12.e, .bool z15.b, .slice z15.a z15.n z15.c, .slice z15.d z15.m z15.e, .bool z18.b, .slice z18.a z18.n z18.c, .slice z18.d z18.m z18.e, .bool z21.b, .slice z21.a z21.n z21.c, .slice z21.d z21.m z21.e]) (.int .i64 (j : Int))).run Tryz.prog w = .ok TT.val w) ∧ IsRat wr25 TT.val tq ∧ e < 2 ∧ j % 2 = e ∧ nxStep t0 t1 l0 l1 a tq lq j ∧ (∀ x y w, Fr true w x.val l0 → Fr true w y.val l1 → Fr true w (pk2 x y e).val lq) ∧ szR tq 1000 ∧ szR lq 1000 := by
      rcases hj4 with rfl | rfl | rfl | rfl
      ·
       exact ⟨z12, t0, l0, 0, fun w => idx__4_ratio_Ratio_0 z12 z15 z18 z21 w, (HS.out.p 5 _ _ rfl), by omega, rfl, ⟨fun _ => ⟨rfl, rfl⟩, fun h => absurd rfl h⟩, fun _ _ _ h1 _ => h1, ST0.out, SL0.out⟩
      ·
       exact ⟨z15, t0, l1, 1, fun w => idx__4_ratio_Ratio_1 z12 z15 z18 z21 w, (HS.out.p 4 _ _ rfl), by omega, rfl, ⟨fun h => absurd h (by omega), fun _ => ⟨rfl, rfl⟩⟩, fun _ _ _ _ h2 => h2, ST0.out, SL1.out⟩
      ·
       exact ⟨z18, t1, l0, 0, fun w => idx__4_ratio_Ratio_2 z12 z15 z18 z21 w, (HS.out.p 3 _ _ rfl), by omega, rfl, ⟨fun h => absurd h (by omega), fun _ => ⟨rfl, rfl⟩⟩, fun _ _ _ h1 _ => h1, ST1.out, SL0.out⟩
      ·
       exact ⟨z21, t1, l1, 1, fun w => idx__4_ratio_Ratio_3 z12 z15 z18 z21 w, (HS.out.p 2 _ _ rfl), by omega, rfl, ⟨fun h => absurd h (by omega), fun _ => ⟨rfl, rfl⟩⟩, fun _ _ _ _ h2 => h2, ST1.out, SL1.out⟩
     have HIX := Lib.hid hix
     have HE2 := Lib.hid he2
     have HNS := Lib.hid hsq
     have HPK := Lib.hid hpk
     have STQ := Lib.hid hzt
     have SLQ := Lib.hid hzl
     have hr2 : Int.tmod (j : Int) 2 = (e : Int) := by rw [Int.tmod_eq_emod_of_nonneg (by omega)]; omega
     have hr3 : (j : Int) % 2 = (e : Int) := by omega
     have hr4 : IntKind.i64.wrap (e : Int) = (e : Int) := IntWalk.i64_in _ (by omega)
     replace HS := Lib.hid (HS.out.addP hTT)
     clear hix hTT he2 hsq hpk hzt hzl hlt hj4
     have ix26 := HIX.out
     go_wp2_with fail
     clear ix26
     generalize hW27 : (wr25).alloc (.cells _ _) = W27 at *
     replace HG := Lib.hid (((HG.out).alloc (B := wr25.heap.size) rfl).to hW27 (by (try simp only [nb5, nb6]); rfl))
     replace HS := Lib.hid (((HS.out).alloc (B := wr25.heap.size) rfl (by rfl)).to hW27 (by (try simp only [nb5, nb6]); rfl))
     clear hW27
     refine wp_region_held_drew (S := (fun w' => Sx w w' [(wr25.heap.size, TT.arr, 41), (wr4.heap.size + 1, arr6 n1 n2, 43), (wr4.heap.size, A.arr, 41), (w2.heap.size, arr6 m1 m2, 43), (w.heap.size + 1, x3.arr, 41), (w.heap.size, arr6 x1 x2, 46)] [])) (by kernel_rfl) ((HS.out.drew).bare) (fun hh => ?_)
     replace HS := Lib.hid HS.out.drew
     replace HG := Lib.hid (HG.out.below (Below.refl _ _).drew)
     have HSW := Lib.hid HS.out.bel.size
     refine tkB (i := 0) (v := ?vk29) rfl ?hk29 ?rk29
     case hk29 => intro u hSu; go_simp <;> with_reducible rfl
     try simp only [nbs, Act.put]
     refine tkB (i := 1) (v := ?vk30) rfl ?hk30 ?rk30
     case hk30 => intro u hSu; (try dsimp only at hSu); obtain ⟨qb0c0, qb0c1, qb0c2, qb0c3, qb0c4, qb0c5, _⟩ := fac6 (x := x1) (y := x2) (hSu.at 5 _ _ _ rfl); clear hSu; go_simp <;> with_reducible rfl
     try simp only [nbs, Act.put]
     refine tkB (i := 3) (v := ?vk31) rfl ?hk31 ?rk31
     case hk31 => intro u hSu; go_simp <;> with_reducible rfl
     try simp only [nbs, Act.put]
     refine tkB (i := 4) (v := ?vk32) rfl ?hk32 ?rk32
     case hk32 => intro u hSu; (try dsimp only at hSu); obtain ⟨qb0c0, qb0c1, qb0c2, qb0c3, qb0c4, qb0c5, _⟩ := fac6 (x := x1) (y := x2) (hSu.at 5 _ _ _ rfl); clear hSu; go_simp <;> with_reducible rfl
     try simp only [nbs, Act.put]
     refine tkB (i := 7) (v := ?vk33) rfl ?hk33 ?rk33
     case hk33 => intro u hSu; go_simp <;> with_reducible rfl
     try simp only [nbs, Act.put]
     refine tkB (i := 8) (v := ?vk34) rfl ?hk34 ?rk34
     case hk34 => intro u hSu; go_simp <;> with_reducible rfl
     try simp only [nbs, Act.put]
     refine wpAnyH_modular [2, 5, 6, 9, 10] [2, 5, 10] [6, 9] [41, 44, 45, 48, 16] #[true, true, true, true, true, true, true, true, true, true, true, false] 1 [(2, 41), (5, 44), (6, 45), (9, 48), (10, 16)] [(2, []), (5, [2]), (6, [2, 5]), (9, [6]), (10, [])] [10] [(2, fun v w => ∃ z35 : R3, v = z35.val ∧ Fr true w z35.val l0), (5, fun v w => ∃ z36 : R3, v = z36.val ∧ Fr true w z36.val l1), (6, fun v w => ∃ z35q6 z36q6 : R3, v = .agg #[.bool z35q6.b, .slice z35q6.a z35q6.n z35q6.c, .slice z35q6.d z35q6.m z35q6.e, .bool z36q6.b, .slice z36q6.a z36q6.n z36q6.c, .slice z36q6.d z36q6.m z36q6.e] ∧ Fr true w z35q6.val l0 ∧ Fr true w z36q6.val l1), (9, fun v w => ∃ yr28q9 : R3, v = yr28q9.val ∧ Fr true w yr28q9.val lq), (10, fun v w => ∃ Br28_10 : Nat, v = .pointer (some ⟨Br28_10, 0, none⟩) ∧ W27.drew.heap.size ≤ Br28_10 ∧ w.heap[Br28_10]? = some (.cells #[.bool false, .slice none 0 0, .slice none 0 0] 41 (0, 0)))]
      rfl (by kernel_rfl) (by decide) rfl ⟨(fun v w w' hb ⟨z0, e, h0⟩ => ⟨z0, e, Fr.below h0 hb⟩), ⟨(fun v w w' hb ⟨z0, e, h0⟩ => ⟨z0, e, Fr.below h0 hb⟩), ⟨(fun v w w' hb ⟨z0, z1, e, h0, h1⟩ => ⟨z0, z1, e, Fr.below h0 hb, Fr.below h1 hb⟩), ⟨(fun v w w' hb ⟨z0, e, h0⟩ => ⟨z0, e, Fr.below h0 hb⟩), ⟨(fun v w w' hb ⟨B, e, g, k⟩ => ⟨B, e, g, blk_keep k hb (blk_lt k)⟩), trivial⟩⟩⟩⟩⟩ ⟨fun v w ⟨B, e, g, k⟩ => ⟨B, e, blk_lt k⟩, trivial⟩ (fun w' hb => Sx.below hh hb) ⟨?_, ?_, ?_, trivial⟩ ⟨?_, ?_, trivial⟩ (by decide) ?_
     ·
      refine StepM.of rfl (fun f w' hb hp K hK => ?_)
      have HSB := HS
      replace HS := Lib.hid (HS.out.below hb)
      simp only [fillA, fillT, List.foldl_cons, List.foldl_nil, Act.put, nb4, nb5, nb6]
      have a37 := HS.out.p 12 _ _ rfl
      have a38 := HS.out.p 11 _ _ rfl
      go_simp
      go_wp2_with (go_at_call 72; (with_reducible refine (rlo_any l0 l1 _ _ (rngP a37 a38)).mono ?_); rintro e w35 ⟨v35, rfl, hv35, hb35⟩; obtain ⟨z35, rfl⟩ := hv35.open3)
      exact hK.out _ _ (z35.val) (by simp only [fillA, fillT, List.foldl_cons, List.foldl_nil, Act.put, nb4, nb5, nb6, nb1, nb2, nb3]) ⟨z35, rfl, hv35⟩ (fun h => absurd h (by decide)) hb35
     ·
      refine StepM.of rfl (fun f w' hb hp K hK => ?_)
      have HSB := HS
      replace HS := Lib.hid (HS.out.below hb)
      simp only [fillA, fillT, List.foldl_cons, List.foldl_nil, Act.put, nb4, nb5, nb6]
      have a39 := HS.out.p 12 _ _ rfl
      have a40 := HS.out.p 11 _ _ rfl
      go_simp
      go_wp2_with (go_at_call 80; (with_reducible refine (rhi_any l0 l1 _ _ (rngP a39 a40)).mono ?_); rintro e w36 ⟨v36, rfl, hv36, hb36⟩; obtain ⟨z36, rfl⟩ := hv36.open3)
      exact hK.out _ _ (z36.val) (by simp only [fillA, fillT, List.foldl_cons, List.foldl_nil, Act.put, nb4, nb5, nb6, nb1, nb2, nb3]) ⟨z36, rfl, hv36⟩ (fun h => absurd h (by decide)) hb36
     ·
      refine StepM.of rfl (fun f w' hb hp K hK => ?_)
      have HSB := HS
      replace HS := Lib.hid (HS.out.below hb)
      simp only [fillA, fillT, List.foldl_cons, List.foldl_nil, Act.put, nb4, nb5, nb6]
      go_simp
      exact hK.out _ _ (.pointer (some ⟨w'.heap.size, 0, none⟩)) (by simp only [fillA, fillT, List.foldl_cons, List.foldl_nil, Act.put, nb4, nb5, nb6, nb1, nb2, nb3]) ⟨_, rfl, hb.size, blk_new _ _ _⟩ (fun _ => rfl) (below1 w' _)
     ·
      refine EagerM.of rfl (fun f w' hb hp => ?_)
      obtain ⟨z35, e2, h2_0⟩ : ∃ z35 : R3, f 41 = z35.val ∧ Fr true w' z35.val l0 := hp 2 (by decide)
      obtain ⟨z36, e5, h5_0⟩ : ∃ z36 : R3, f 44 = z36.val ∧ Fr true w' z36.val l1 := hp 5 (by decide)
      refine ⟨.agg #[.bool z35.b, .slice z35.a z35.n z35.c, .slice z35.d z35.m z35.e, .bool z36.b, .slice z36.a z36.n z36.c, .slice z36.d z36.m z36.e], ⟨z35, z36, rfl, h2_0, h5_0⟩, by first | rfl | kernel_rfl, fun u => ?_⟩
      simp only [fillA, fillT, List.foldl_cons, List.foldl_nil, Act.put, nb4, nb5, nb6, e2, e5]
      go_simp <;> with_reducible rfl
     ·
      refine EagerM.of rfl (fun f w' hb hp => ?_)
      obtain ⟨z35q6, z36q6, e6, h6_0, h6_1⟩ : ∃ z35q6 z36q6 : R3, f 45 = .agg #[.bool z35q6.b, .slice z35q6.a z35q6.n z35q6.c, .slice z35q6.d z35q6.m z35q6.e, .bool z36q6.b, .slice z36q6.a z36q6.n z36q6.c, .slice z36q6.d z36q6.m z36q6.e] ∧ Fr true w' z35q6.val l0 ∧ Fr true w' z36q6.val l1 := hp 6 (by decide)
      refine ⟨(pk2 z35q6 z36q6 e).val, ⟨(pk2 z35q6 z36q6 e), rfl, (HPK.out _ _ _ h6_0 h6_1)⟩, by first | rfl | kernel_rfl, fun u => ?_⟩
      simp only [fillA, fillT, List.foldl_cons, List.foldl_nil, Act.put, nb4, nb5, nb6, e6]
      have fq := idx2_any z35q6 z36q6 e HE2.out
      go_simp <;> with_reducible rfl
     ·
      intro f wr28 hb hp hd
      obtain ⟨z35, e2, h2_0⟩ : ∃ z35 : R3, f 41 = z35.val ∧ Fr true wr28 z35.val l0 := hp 2 (by decide)
      obtain ⟨z36, e5, h5_0⟩ : ∃ z36 : R3, f 44 = z36.val ∧ Fr true wr28 z36.val l1 := hp 5 (by decide)
      obtain ⟨z35q6, z36q6, e6, h6_0, h6_1⟩ : ∃ z35q6 z36q6 : R3, f 45 = .agg #[.bool z35q6.b, .slice z35q6.a z35q6.n z35q6.c, .slice z35q6.d z35q6.m z35q6.e, .bool z36q6.b, .slice z36q6.a z36q6.n z36q6.c, .slice z36q6.d z36q6.m z36q6.e] ∧ Fr true wr28 z35q6.val l0 ∧ Fr true wr28 z36q6.val l1 := hp 6 (by decide)
      obtain ⟨yr28q9, e9, h9_0⟩ : ∃ yr28q9 : R3, f 48 = yr28q9.val ∧ Fr true wr28 yr28q9.val lq := hp 9 (by decide)
      obtain ⟨Br28_10, e10, g10, k10⟩ : ∃ Br28_10 : Nat, f 16 = .pointer (some ⟨Br28_10, 0, none⟩) ∧ W27.drew.heap.size ≤ Br28_10 ∧ wr28.heap[Br28_10]? = some (.cells #[.bool false, .slice none 0 0, .slice none 0 0] 41 (0, 0)) := hp 10 (by decide)
      replace hh := Sx.below hh hb
      have hlt := HS.out.lt
      replace HS := Lib.hid (HS.out.below hb)
      have hltg := HG.out.row
      replace HG := Lib.hid (HG.out.below hb)
      replace HS := Lib.hid (HS.out.addP h2_0)
      replace HS := Lib.hid (HS.out.addP h5_0)
      replace HS := Lib.hid (HS.out.addP h6_0)
      replace HS := Lib.hid (HS.out.addP h6_1)
      replace HS := Lib.hid (HS.out.addP h9_0)
      have hge10 : w.heap.size ≤ Br28_10 := Nat.le_trans HSW.out g10
      have hne10 : ∀ b, b ∈ ([(wr25.heap.size, TT.arr, 41), (wr4.heap.size + 1, arr6 n1 n2, 43), (wr4.heap.size, A.arr, 41), (w2.heap.size, arr6 m1 m2, 43), (w.heap.size + 1, x3.arr, 41), (w.heap.size, arr6 x1 x2, 46)] : List Bx) → b.1 ≠ Br28_10 := by
       intro b hb
       simp only [List.mem_cons, List.not_mem_nil, or_false] at hb
       rcases hb with rfl | rfl | rfl | rfl | rfl | rfl
       ·
        have := hlt _ (List.mem_iff_getElem?.2 ⟨0, rfl⟩); dsimp only at this ⊢; omega
       ·
        have := hlt _ (List.mem_iff_getElem?.2 ⟨1, rfl⟩); dsimp only at this ⊢; omega
       ·
        have := hlt _ (List.mem_iff_getElem?.2 ⟨2, rfl⟩); dsimp only at this ⊢; omega
       ·
        have := hlt _ (List.mem_iff_getElem?.2 ⟨3, rfl⟩); dsimp only at this ⊢; omega
       ·
        have := hlt _ (List.mem_iff_getElem?.2 ⟨4, rfl⟩); dsimp only at this ⊢; omega
       ·
        have := hlt _ (List.mem_iff_getElem?.2 ⟨5, rfl⟩); dsimp only at this ⊢; omega
      replace HS := Lib.hid (HS.out.addBox k10 hge10 (by rfl) hne10)
      replace HG := Lib.hid (HG.out.box (B := Br28_10) (T := 41) (cs := #[.bool false, .slice none 0 0, .slice none 0 0]) (fun g hg hc => by obtain ⟨n, hn⟩ := List.mem_iff_getElem?.1 hg; have := ((hltg n g hn).lt hc).1; have := g10; omega))
      simp only [fillA, fillT, List.foldl_cons, List.foldl_nil, Act.put, nb4, nb5, nb6, e2, e5, e6, e9, e10]
      clear hp hd hb hlt e2 e5 e6 e9 e10 hltg
      refine rdA (i := 11) rfl (fun K hK => ?_)
      have b6e := (HS.out.at 0 _ _ _ rfl)
      have b6c0 := blk_cell b6e 0 (.bool false) rfl
      have b6c1 := blk_cell b6e 1 (.slice none 0 0) rfl
      have b6c2 := blk_cell b6e 2 (.slice none 0 0) rfl
      have b6f0 := blk_frozen b6e 0
      have b6f1 := blk_frozen b6e 1
      have b6f2 := blk_frozen b6e 2
      have b6l := blk_lt b6e
      clear b6e
      go_simp
      refine hK.out _ _ ((((HS.out).st_R 0 r30 yr28q9 rfl)).erase 0) (fun hh => ?_)
      clear hK K b6c0 b6c1 b6c2 b6f0 b6f1 b6f2 b6l
      try simp only [nbs, Act.put]
      generalize hW41 : (((wr28).setCell _ _).setCell _ _).setCell _ _ = W41 at *
      replace HG := Lib.hid (((HG.out).st_R (HS.out) 0 r30 yr28q9 rfl).to hW41 (by (try simp only [nb5, nb6]); rfl))
      replace HS := Lib.hid (((HS.out).st_R 0 r30 yr28q9 rfl).to hW41 (by (try simp only [nb5, nb6]); rfl))
      clear hW41
      refine wpAnyH_done (by kernel_rfl) ?_ _
      go_wp2_with fail
      refine wp_region_held_drew (S := (fun w' => Sx w w' [(Br28_10, yr28q9.arr, 41), (wr25.heap.size, TT.arr, 41), (wr4.heap.size + 1, arr6 n1 n2, 43), (wr4.heap.size, A.arr, 41), (w2.heap.size, arr6 m1 m2, 43), (w.heap.size + 1, x3.arr, 41), (w.heap.size, arr6 x1 x2, 46)] [])) (by kernel_rfl) ((HS.out.drew).bare) (fun hh => ?_)
      replace HS := Lib.hid HS.out.drew
      replace HG := Lib.hid (HG.out.below (Below.refl _ _).drew)
      have HSW := Lib.hid HS.out.bel.size
      refine tkB (i := 0) (v := ?vk43) rfl ?hk43 ?rk43
      case hk43 => intro u hSu; (try dsimp only at hSu); obtain ⟨qb5c0, qb5c1, qb5c2, _⟩ := fac3 (x := TT) (hSu.at 1 _ _ _ rfl); clear hSu; go_simp <;> with_reducible rfl
      try simp only [nbs, Act.put]
      refine tkB (i := 1) (v := ?vk44) rfl ?hk44 ?rk44
      case hk44 => intro u hSu; (try dsimp only at hSu); obtain ⟨qb6c0, qb6c1, qb6c2, _⟩ := fac3 (x := yr28q9) (hSu.at 0 _ _ _ rfl); clear hSu; go_simp <;> with_reducible rfl
      try simp only [nbs, Act.put]
      refine tkB (i := 2) (v := ?vk45) rfl ?hk45 ?rk45
      case hk45 => intro u hSu; (try dsimp only at hSu); obtain ⟨qb3c0, qb3c1, qb3c2, _⟩ := fac3 (x := A) (hSu.at 3 _ _ _ rfl); clear hSu; go_simp <;> with_reducible rfl
      try simp only [nbs, Act.put]
      refine tkB (i := 3) (v := ?vk46) rfl ?hk46 ?rk46
      case hk46 => intro u hSu; (try dsimp only at hSu); obtain ⟨qb5c0, qb5c1, qb5c2, _⟩ := fac3 (x := TT) (hSu.at 1 _ _ _ rfl); clear hSu; go_simp <;> with_reducible rfl
      try simp only [nbs, Act.put]
      refine wpAnyH_modular [4, 5, 6, 7, 8] [4, 5, 6, 7, 8] [] [53, 54, 55, 56, 17] #[true, true, true, true, true, true, true, true, true, false] 1 [(4, 53), (5, 54), (6, 55), (7, 56), (8, 17)] [(4, []), (5, [4]), (6, [5]), (7, [6]), (8, [])] [8] [(4, fun v w => ∃ z47 : R3, v = z47.val ∧ Fr true w z47.val (a - tq)), (5, fun v w => ∃ z48 : R3, v = z48.val ∧ Fr true w z48.val (lq * (a - tq))), (6, fun v w => ∃ z49 : R3, v = z49.val ∧ Fr true w z49.val (tq + (lq * (a - tq)))), (7, fun v w => ∃ z50a z50b : R3, v = .agg #[.bool z50a.b, .slice z50a.a z50a.n z50a.c, .slice z50a.d z50a.m z50a.e, .bool z50b.b, .slice z50b.a z50b.n z50b.c, .slice z50b.d z50b.m z50b.e] ∧ Fr true w z50a.val (tq + (lq * (a - tq))) ∧ Fr true w z50b.val (tq + (lq * (a - tq)))), (8, fun v w => ∃ Br42_8 : Nat, v = .pointer (some ⟨Br42_8, 0, none⟩) ∧ W41.drew.heap.size ≤ Br42_8 ∧ w.heap[Br42_8]? = some (.cells #[.bool false, .slice none 0 0, .slice none 0 0, .bool false, .slice none 0 0, .slice none 0 0] 43 (0, 0)))]
       rfl (by kernel_rfl) (by decide) rfl ⟨(fun v w w' hb ⟨z0, e, h0⟩ => ⟨z0, e, Fr.below h0 hb⟩), ⟨(fun v w w' hb ⟨z0, e, h0⟩ => ⟨z0, e, Fr.below h0 hb⟩), ⟨(fun v w w' hb ⟨z0, e, h0⟩ => ⟨z0, e, Fr.below h0 hb⟩), ⟨(fun v w w' hb ⟨z0, z1, e, h0, h1⟩ => ⟨z0, z1, e, Fr.below h0 hb, Fr.below h1 hb⟩), ⟨(fun v w w' hb ⟨B, e, g, k⟩ => ⟨B, e, g, blk_keep k hb (blk_lt k)⟩), trivial⟩⟩⟩⟩⟩ ⟨fun v w ⟨B, e, g, k⟩ => ⟨B, e, blk_lt k⟩, trivial⟩ (fun w' hb => Sx.below hh hb) ⟨?_, ?_, ?_, ?_, ?_, trivial⟩ trivial (by decide) ?_
      ·
       refine StepM.of rfl (fun f w' hb hp K hK => ?_)
       have HSB := HS
       replace HS := Lib.hid (HS.out.below hb)
       simp only [fillA, fillT, List.foldl_cons, List.foldl_nil, Act.put, nb4, nb5, nb6]
       have a51 := HS.out.p 12 _ _ rfl
       have a52 := HS.out.p 5 _ _ rfl
       go_simp
       go_wp2_with (go_at_call 40; (with_reducible refine (subRat_any a tq _ _ _ a51 a52 (szR_mono SA.out (by omega)) (szR_mono STQ.out (by omega))).mono ?_); rintro e w47 ⟨v47, rfl, hv47, hb47⟩; obtain ⟨z47, rfl⟩ := hv47.open3)
       exact hK.out _ _ (z47.val) (by simp only [fillA, fillT, List.foldl_cons, List.foldl_nil, Act.put, nb4, nb5, nb6, nb1, nb2, nb3]) ⟨z47, rfl, hv47⟩ (fun h => absurd h (by decide)) hb47
      ·
       refine StepM.of rfl (fun f w' hb hp K hK => ?_)
       obtain ⟨z47, e4, h4_0⟩ : ∃ z47 : R3, f 53 = z47.val ∧ Fr true w' z47.val (a - tq) := hp 4 (by decide)
       have HSB := HS
       replace HS := Lib.hid (HS.out.below hb)
       replace HS := Lib.hid (HS.out.addP h4_0)
       simp only [fillA, fillT, List.foldl_cons, List.foldl_nil, Act.put, nb4, nb5, nb6, e4]
       have a53 := HS.out.p 1 _ _ rfl
       have a54 := HS.out.p 0 _ _ rfl
       go_simp
       go_wp2_with (go_at_call 39; (with_reducible refine (mulRat_any lq (a - tq) _ _ _ a53 a54 (szR_mono SLQ.out (by omega)) (szR_mono (szR_sub SA.out STQ.out) (by omega))).mono ?_); rintro e w48 ⟨v48, rfl, hv48, hb48⟩; obtain ⟨z48, rfl⟩ := hv48.open3)
       exact hK.out _ _ (z48.val) (by simp only [fillA, fillT, List.foldl_cons, List.foldl_nil, Act.put, nb4, nb5, nb6, nb1, nb2, nb3, e4]) ⟨z48, rfl, hv48⟩ (fun h => absurd h (by decide)) hb48
      ·
       refine StepM.of rfl (fun f w' hb hp K hK => ?_)
       obtain ⟨z48, e5, h5_0⟩ : ∃ z48 : R3, f 54 = z48.val ∧ Fr true w' z48.val (lq * (a - tq)) := hp 5 (by decide)
       have HSB := HS
       replace HS := Lib.hid (HS.out.below hb)
       replace HS := Lib.hid (HS.out.addP h5_0)
       simp only [fillA, fillT, List.foldl_cons, List.foldl_nil, Act.put, nb4, nb5, nb6, e5]
       have a55 := HS.out.p 6 _ _ rfl
       have a56 := HS.out.p 0 _ _ rfl
       go_simp
       go_wp2_with (go_at_call 38; (with_reducible refine (addRat_any tq (lq * (a - tq)) _ _ _ a55 a56 (szR_mono STQ.out (by omega)) (szR_mono (szR_mul SLQ.out (szR_sub SA.out STQ.out)) (by omega))).mono ?_); rintro e w49 ⟨v49, rfl, hv49, hb49⟩; obtain ⟨z49, rfl⟩ := hv49.open3)
       exact hK.out _ _ (z49.val) (by simp only [fillA, fillT, List.foldl_cons, List.foldl_nil, Act.put, nb4, nb5, nb6, nb1, nb2, nb3, e5]) ⟨z49, rfl, hv49⟩ (fun h => absurd h (by decide)) hb49
      ·
       refine StepM.of rfl (fun f w' hb hp K hK => ?_)
       obtain ⟨z49, e6, h6_0⟩ : ∃ z49 : R3, f 55 = z49.val ∧ Fr true w' z49.val (tq + (lq * (a - tq))) := hp 6 (by decide)
       have HSB := HS
       replace HS := Lib.hid (HS.out.below hb)
       replace HS := Lib.hid (HS.out.addP h6_0)
       simp only [fillA, fillT, List.foldl_cons, List.foldl_nil, Act.put, nb4, nb5, nb6, e6]
       have a57 := HS.out.p 0 _ _ rfl
       go_simp
       go_wp2_with (go_at_call 34; (with_reducible refine (only_any (tq + (lq * (a - tq))) _ _ a57).mono ?_); rintro e w50 ⟨v50, rfl, ⟨z50a, z50b, rfl, hv50, hw50⟩, hb50⟩)
       exact hK.out _ _ (.agg #[.bool z50a.b, .slice z50a.a z50a.n z50a.c, .slice z50a.d z50a.m z50a.e, .bool z50b.b, .slice z50b.a z50b.n z50b.c, .slice z50b.d z50b.m z50b.e]) (by simp only [fillA, fillT, List.foldl_cons, List.foldl_nil, Act.put, nb4, nb5, nb6, nb1, nb2, nb3, e6]) ⟨z50a, z50b, rfl, hv50, hw50⟩ (fun h => absurd h (by decide)) hb50
      ·
       refine StepM.of rfl (fun f w' hb hp K hK => ?_)
       have HSB := HS
       replace HS := Lib.hid (HS.out.below hb)
       simp only [fillA, fillT, List.foldl_cons, List.foldl_nil, Act.put, nb4, nb5, nb6]
       go_simp
       exact hK.out _ _ (.pointer (some ⟨w'.heap.size, 0, none⟩)) (by simp only [fillA, fillT, List.foldl_cons, List.foldl_nil, Act.put, nb4, nb5, nb6, nb1, nb2, nb3]) ⟨_, rfl, hb.size, blk_new _ _ _⟩ (fun _ => rfl) (below1 w' _)
      ·
       intro f wr42 hb hp hd
       obtain ⟨z47, e4, h4_0⟩ : ∃ z47 : R3, f 53 = z47.val ∧ Fr true wr42 z47.val (a - tq) := hp 4 (by decide)
       obtain ⟨z48, e5, h5_0⟩ : ∃ z48 : R3, f 54 = z48.val ∧ Fr true wr42 z48.val (lq * (a - tq)) := hp 5 (by decide)
       obtain ⟨z49, e6, h6_0⟩ : ∃ z49 : R3, f 55 = z49.val ∧ Fr true wr42 z49.val (tq + (lq * (a - tq))) := hp 6 (by decide)
       obtain ⟨z50a, z50b, e7, h7_0, h7_1⟩ : ∃ z50a z50b : R3, f 56 = .agg #[.bool z50a.b, .slice z50a.a z50a.n z50a.c, .slice z50a.d z50a.m z50a.e, .bool z50b.b, .slice z50b.a z50b.n z50b.c, .slice z50b.d z50b.m z50b.e] ∧ Fr true wr42 z50a.val (tq + (lq * (a - tq))) ∧ Fr true wr42 z50b.val (tq + (lq * (a - tq))) := hp 7 (by decide)
       obtain ⟨Br42_8, e8, g8, k8⟩ : ∃ Br42_8 : Nat, f 17 = .pointer (some ⟨Br42_8, 0, none⟩) ∧ W41.drew.heap.size ≤ Br42_8 ∧ wr42.heap[Br42_8]? = some (.cells #[.bool false, .slice none 0 0, .slice none 0 0, .bool false, .slice none 0 0, .slice none 0 0] 43 (0, 0)) := hp 8 (by decide)
       replace hh := Sx.below hh hb
       have hlt := HS.out.lt
       replace HS := Lib.hid (HS.out.below hb)
       have hltg := HG.out.row
       replace HG := Lib.hid (HG.out.below hb)
       replace HS := Lib.hid (HS.out.addP h4_0)
       replace HS := Lib.hid (HS.out.addP h5_0)
       replace HS := Lib.hid (HS.out.addP h6_0)
       replace HS := Lib.hid (HS.out.addP h7_0)
       replace HS := Lib.hid (HS.out.addP h7_1)
       have hge8 : w.heap.size ≤ Br42_8 := Nat.le_trans HSW.out g8
       have hne8 : ∀ b, b ∈ ([(Br28_10, yr28q9.arr, 41), (wr25.heap.size, TT.arr, 41), (wr4.heap.size + 1, arr6 n1 n2, 43), (wr4.heap.size, A.arr, 41), (w2.heap.size, arr6 m1 m2, 43), (w.heap.size + 1, x3.arr, 41), (w.heap.size, arr6 x1 x2, 46)] : List Bx) → b.1 ≠ Br42_8 := by
        intro b hb
        simp only [List.mem_cons, List.not_mem_nil, or_false] at hb
        rcases hb with rfl | rfl | rfl | rfl | rfl | rfl | rfl
        ·
         have := hlt _ (List.mem_iff_getElem?.2 ⟨0, rfl⟩); dsimp only at this ⊢; omega
        ·
         have := hlt _ (List.mem_iff_getElem?.2 ⟨1, rfl⟩); dsimp only at this ⊢; omega
        ·
         have := hlt _ (List.mem_iff_getElem?.2 ⟨2, rfl⟩); dsimp only at this ⊢; omega
        ·
         have := hlt _ (List.mem_iff_getElem?.2 ⟨3, rfl⟩); dsimp only at this ⊢; omega
        ·
         have := hlt _ (List.mem_iff_getElem?.2 ⟨4, rfl⟩); dsimp only at this ⊢; omega
        ·
         have := hlt _ (List.mem_iff_getElem?.2 ⟨5, rfl⟩); dsimp only at this ⊢; omega
        ·
         have := hlt _ (List.mem_iff_getElem?.2 ⟨6, rfl⟩); dsimp only at this ⊢; omega
       replace HS := Lib.hid (HS.out.addBox k8 hge8 (by rfl) hne8)
       replace HG := Lib.hid (HG.out.box (B := Br42_8) (T := 43) (cs := #[.bool false, .slice none 0 0, .slice none 0 0, .bool false, .slice none 0 0, .slice none 0 0]) (fun g hg hc => by obtain ⟨n, hn⟩ := List.mem_iff_getElem?.1 hg; have := ((hltg n g hn).lt hc).1; have := g8; omega))
       simp only [fillA, fillT, List.foldl_cons, List.foldl_nil, Act.put, nb4, nb5, nb6, e4, e5, e6, e7, e8]
       clear hp hd hb hlt e4 e5 e6 e7 e8 hltg
       refine rdA (i := 9) rfl (fun K hK => ?_)
       have b7e := (HS.out.at 0 _ _ _ rfl)
       have b7c0 := blk_cell b7e 0 (.bool false) rfl
       have b7c1 := blk_cell b7e 1 (.slice none 0 0) rfl
       have b7c2 := blk_cell b7e 2 (.slice none 0 0) rfl
       have b7c3 := blk_cell b7e 3 (.bool false) rfl
       have b7c4 := blk_cell b7e 4 (.slice none 0 0) rfl
       have b7c5 := blk_cell b7e 5 (.slice none 0 0) rfl
       have b7f0 := blk_frozen b7e 0
       have b7f1 := blk_frozen b7e 1
       have b7f2 := blk_frozen b7e 2
       have b7f3 := blk_frozen b7e 3
       have b7f4 := blk_frozen b7e 4
       have b7f5 := blk_frozen b7e 5
       have b7l := blk_lt b7e
       clear b7e
       go_simp
       refine hK.out _ _ ((((HS.out).st_RR 0 r30 r30 z50a z50b rfl)).erase 0) (fun hh => ?_)
       clear hK K b7c0 b7c1 b7c2 b7c3 b7c4 b7c5 b7f0 b7f1 b7f2 b7f3 b7f4 b7f5 b7l
       try simp only [nbs, Act.put]
       generalize hW58 : ((((((wr42).setCell _ _).setCell _ _).setCell _ _).setCell _ _).setCell _ _).setCell _ _ = W58 at *
       replace HG := Lib.hid (((HG.out).st_RR (HS.out) 0 r30 r30 z50a z50b rfl).to hW58 (by (try simp only [nb5, nb6]); rfl))
       replace HS := Lib.hid (((HS.out).st_RR 0 r30 r30 z50a z50b rfl).to hW58 (by (try simp only [nb5, nb6]); rfl))
       clear hW58
       refine wpAnyH_done (by kernel_rfl) ?_ _
       cases t59 : ((j : Int) == 0) with
       | true =>
        have HJ0 : Hid (j = 0) := by show _ = _; have := beq_iff_eq.1 t59; omega
        have tj1 : (j == 0) = true := by have := HJ0.out; simpa using this
        obtain ⟨b7c0, b7c1, b7c2, b7c3, b7c4, b7c5, b7f0, b7f1, b7f2, b7f3, b7f4, b7f5⟩ := fac6 (x := z50a) (y := z50b) (HS.out.at 0 _ _ _ rfl)
        have b7l := blk_lt (HS.out.at 0 _ _ _ rfl)
        obtain ⟨b4c0, b4c1, b4c2, b4c3, b4c4, b4c5, b4f0, b4f1, b4f2, b4f3, b4f4, b4f5⟩ := fac6 (x := n1) (y := n2) (HS.out.at 3 _ _ _ rfl)
        have b4l := blk_lt (HS.out.at 3 _ _ _ rfl)
        have bn7_4 := HS.out.ne 0 3 rfl rfl (by decide)
        go_wp2_with fail
        clear b7c0 b7c1 b7c2 b7c3 b7c4 b7c5 b7f0 b7f1 b7f2 b7f3 b7f4 b7f5 b7l b4c0 b4c1 b4c2 b4c3 b4c4 b4c5 b4f0 b4f1 b4f2 b4f3 b4f4 b4f5 b4l bn7_4
        generalize hW60 : ((((((W58).setCell _ _).setCell _ _).setCell _ _).setCell _ _).setCell _ _).setCell _ _ = W60 at *
        replace HG := Lib.hid (((HG.out).st_RR (HS.out) 3 n1 n2 z50a z50b rfl).to hW60 (by (try simp only [nb5, nb6]); rfl))
        replace HS := Lib.hid (((HS.out).st_RR 3 n1 n2 z50a z50b rfl).to hW60 (by (try simp only [nb5, nb6]); rfl))
        clear hW60
        refine (rhull_le (tq + (lq * (a - tq))) (tq + (lq * (a - tq))) (tq + (lq * (a - tq))) (tq + (lq * (a - tq))) _ _ _ (rngP (HS.out.p 1 _ _ rfl) (HS.out.p 0 _ _ rfl)) (rngP (HS.out.p 1 _ _ rfl) (HS.out.p 0 _ _ rfl)) Rat.le_refl Rat.le_refl (szR_mono (towQ_sz (t := tq) STQ.out SLQ.out SA.out) (by omega)) (szR_mono (towQ_sz (t := tq) STQ.out SLQ.out SA.out) (by omega)) (szR_mono (towQ_sz (t := tq) STQ.out SLQ.out SA.out) (by omega)) (szR_mono (towQ_sz (t := tq) STQ.out SLQ.out SA.out) (by omega))).mono ?_
        rintro e w61 ⟨v61, rfl, ⟨z61a, z61b, rfl, hv61, hw61⟩, hb61⟩
        replace HS := Lib.hid (HS.out.below hb61)
        replace HG := Lib.hid (HG.out.below hb61)
        clear hb61
        replace HS := Lib.hid (HS.out.addP hv61)
        clear hv61
        replace HS := Lib.hid (HS.out.addP hw61)
        clear hw61
        obtain ⟨b4c0, b4c1, b4c2, b4c3, b4c4, b4c5, b4f0, b4f1, b4f2, b4f3, b4f4, b4f5⟩ := fac6 (x := z50a) (y := z50b) (HS.out.at 3 _ _ _ rfl)
        have b4l := blk_lt (HS.out.at 3 _ _ _ rfl)
        go_wp2_with fail
        clear b4c0 b4c1 b4c2 b4c3 b4c4 b4c5 b4f0 b4f1 b4f2 b4f3 b4f4 b4f5 b4l
        generalize hW62 : ((((((w61).setCell _ _).setCell _ _).setCell _ _).setCell _ _).setCell _ _).setCell _ _ = W62 at *
        replace HG := Lib.hid (((HG.out).st_RR (HS.out) 3 z50a z50b z61a z61b rfl).to hW62 (by (try simp only [nb5, nb6]); rfl))
        replace HS := Lib.hid (((HS.out).st_RR 3 z50a z50b z61a z61b rfl).to hW62 (by (try simp only [nb5, nb6]); rfl))
        clear hW62
        have EQ1 := Lib.hid (HNS.out.1 HJ0.out).1
        have EQ2 := Lib.hid (HNS.out.1 HJ0.out).2
        exact ⟨⟨j + 1, z61a, z61b, by have := HLT.out; omega, by go_num, Lib.hid ((((((((((((((((HS.out).erase 0).erase 0).erase 0).addP (HS.out.p 24 _ _ rfl)).addP (HS.out.p 23 _ _ rfl)).addP (HS.out.p 22 _ _ rfl)).addP (HS.out.p 21 _ _ rfl)).addP (HS.out.p 20 _ _ rfl)).addP (HS.out.p 19 _ _ rfl)).addP (HS.out.p 18 _ _ rfl)).addP (HS.out.p 17 _ _ rfl)).addP (HS.out.p 16 _ _ rfl)).addP (HS.out.p 15 _ _ rfl)).addP (by rw [EQ1.out]; exact (HS.out.p 1 _ _ rfl))).addP (by rw [EQ2.out]; exact (HS.out.p 0 _ _ rfl))), Lib.hid (HG.out.mono (fun b hb => ⟨b, by simp only [List.mem_cons] at hb ⊢; first | exact hb | (repeat (first | exact hb | right)), rfl⟩))⟩, meas_up HLT.out⟩
       | false =>
        have HJ0 : Hid (j ≠ 0) := by show _ ≠ _; have := beq_eq_false_iff_ne.1 t59; omega
        have tj1 : (j == 0) = false := by have := HJ0.out; simpa using this
        obtain ⟨b4c0, b4c1, b4c2, b4c3, b4c4, b4c5, b4f0, b4f1, b4f2, b4f3, b4f4, b4f5⟩ := fac6 (x := n1) (y := n2) (HS.out.at 3 _ _ _ rfl)
        have b4l := blk_lt (HS.out.at 3 _ _ _ rfl)
        obtain ⟨b7c0, b7c1, b7c2, b7c3, b7c4, b7c5, b7f0, b7f1, b7f2, b7f3, b7f4, b7f5⟩ := fac6 (x := z50a) (y := z50b) (HS.out.at 0 _ _ _ rfl)
        have b7l := blk_lt (HS.out.at 0 _ _ _ rfl)
        have bn4_7 := HS.out.ne 3 0 rfl rfl (by decide)
        go_wp2_with fail
        clear b4c0 b4c1 b4c2 b4c3 b4c4 b4c5 b4f0 b4f1 b4f2 b4f3 b4f4 b4f5 b4l b7c0 b7c1 b7c2 b7c3 b7c4 b7c5 b7f0 b7f1 b7f2 b7f3 b7f4 b7f5 b7l bn4_7
        refine (rhull_le (nxL t0 t1 l0 l1 a j) (nxH t0 t1 l0 l1 a j) (tq + (lq * (a - tq))) (tq + (lq * (a - tq))) _ _ _ (rngP (HS.out.p 12 _ _ rfl) (HS.out.p 11 _ _ rfl)) (rngP (HS.out.p 1 _ _ rfl) (HS.out.p 0 _ _ rfl)) HNL.out Rat.le_refl (szR_mono HNX.out.1 (by omega)) (szR_mono HNX.out.2 (by omega)) (szR_mono (towQ_sz (t := tq) STQ.out SLQ.out SA.out) (by omega)) (szR_mono (towQ_sz (t := tq) STQ.out SLQ.out SA.out) (by omega))).mono ?_
        rintro e w63 ⟨v63, rfl, ⟨z63a, z63b, rfl, hv63, hw63⟩, hb63⟩
        replace HS := Lib.hid (HS.out.below hb63)
        replace HG := Lib.hid (HG.out.below hb63)
        clear hb63
        replace HS := Lib.hid (HS.out.addP hv63)
        clear hv63
        replace HS := Lib.hid (HS.out.addP hw63)
        clear hw63
        obtain ⟨b4c0, b4c1, b4c2, b4c3, b4c4, b4c5, b4f0, b4f1, b4f2, b4f3, b4f4, b4f5⟩ := fac6 (x := n1) (y := n2) (HS.out.at 3 _ _ _ rfl)
        have b4l := blk_lt (HS.out.at 3 _ _ _ rfl)
        go_wp2_with fail
        clear b4c0 b4c1 b4c2 b4c3 b4c4 b4c5 b4f0 b4f1 b4f2 b4f3 b4f4 b4f5 b4l
        generalize hW64 : ((((((w63).setCell _ _).setCell _ _).setCell _ _).setCell _ _).setCell _ _).setCell _ _ = W64 at *
        replace HG := Lib.hid (((HG.out).st_RR (HS.out) 3 n1 n2 z63a z63b rfl).to hW64 (by (try simp only [nb5, nb6]); rfl))
        replace HS := Lib.hid (((HS.out).st_RR 3 n1 n2 z63a z63b rfl).to hW64 (by (try simp only [nb5, nb6]); rfl))
        clear hW64
        have EQ1 := Lib.hid (HNS.out.2 HJ0.out).1
        have EQ2 := Lib.hid (HNS.out.2 HJ0.out).2
        exact ⟨⟨j + 1, z63a, z63b, by have := HLT.out; omega, by go_num, Lib.hid ((((((((((((((((HS.out).erase 0).erase 0).erase 0).addP (HS.out.p 24 _ _ rfl)).addP (HS.out.p 23 _ _ rfl)).addP (HS.out.p 22 _ _ rfl)).addP (HS.out.p 21 _ _ rfl)).addP (HS.out.p 20 _ _ rfl)).addP (HS.out.p 19 _ _ rfl)).addP (HS.out.p 18 _ _ rfl)).addP (HS.out.p 17 _ _ rfl)).addP (HS.out.p 16 _ _ rfl)).addP (HS.out.p 15 _ _ rfl)).addP (by rw [EQ1.out]; exact (HS.out.p 1 _ _ rfl))).addP (by rw [EQ2.out]; exact (HS.out.p 0 _ _ rfl))), Lib.hid (HG.out.mono (fun b hb => ⟨b, by simp only [List.mem_cons] at hb ⊢; first | exact hb | (repeat (first | exact hb | right)), rfl⟩))⟩, meas_up HLT.out⟩
    ·
     obtain rfl : j = 4 := by omega
     rw [show ((4 : Nat) : Int) = (4 : Int) from rfl]
     have HNX := Lib.hid (nx_sz ST0.out ST1.out SL0.out SL1.out SA.out 4)
     obtain ⟨b4c0, b4c1, b4c2, b4c3, b4c4, b4c5, b4f0, b4f1, b4f2, b4f3, b4f4, b4f5⟩ := fac6 (x := n1) (y := n2) (HS.out.at 0 _ _ _ rfl)
     have b4l := blk_lt (HS.out.at 0 _ _ _ rfl)
     go_wp2_with fail
     clear b4c0 b4c1 b4c2 b4c3 b4c4 b4c5 b4f0 b4f1 b4f2 b4f3 b4f4 b4f5 b4l
     refine (rround_any (nxL t0 t1 l0 l1 a 4) (nxH t0 t1 l0 l1 a 4) k HK.out z HZK.out _ _ (rngP (HS.out.p 1 _ _ rfl) (HS.out.p 0 _ _ rfl)) (szR_mono HNX.out.1 (by omega)) (szR_mono (szR_neg HNX.out.2) (by omega))).mono ?_
     rintro e w65 ⟨v65, rfl, ⟨z65a, z65b, rfl, hv65, hw65⟩, hb65⟩
     replace HS := Lib.hid (HS.out.below hb65)
     replace HG := Lib.hid (HG.out.below hb65)
     clear hb65
     replace HS := Lib.hid (HS.out.addP hv65)
     clear hv65
     replace HS := Lib.hid (HS.out.addP hw65)
     clear hw65
     obtain ⟨b2c0, b2c1, b2c2, b2c3, b2c4, b2c5, b2f0, b2f1, b2f2, b2f3, b2f4, b2f5⟩ := fac6 (x := m1) (y := m2) (HS.out.at 2 _ _ _ rfl)
     have b2l := blk_lt (HS.out.at 2 _ _ _ rfl)
     go_upto_region 17 with fail
     clear b2c0 b2c1 b2c2 b2c3 b2c4 b2c5 b2f0 b2f1 b2f2 b2f3 b2f4 b2f5 b2l
     generalize hW66 : ((((((w65).setCell _ _).setCell _ _).setCell _ _).setCell _ _).setCell _ _).setCell _ _ = W66 at *
     replace HG := Lib.hid (((HG.out).st_RR (HS.out) 2 m1 m2 z65a z65b rfl).to hW66 (by (try simp only [nb5, nb6]); rfl))
     replace HS := Lib.hid (((HS.out).st_RR 2 m1 m2 z65a z65b rfl).to hW66 (by (try simp only [nb5, nb6]); rfl))
     clear hW66
     obtain ⟨b2c0, b2c1, b2c2, b2c3, b2c4, b2c5, b2f0, b2f1, b2f2, b2f3, b2f4, b2f5⟩ := fac6 (x := z65a) (y := z65b) (HS.out.at 2 _ _ _ rfl)
     have b2l := blk_lt (HS.out.at 2 _ _ _ rfl)
     have HSA := Lib.hid ((HS.out).alloc (B := W66.heap.size) (T := 43) (cs := #[.bool z65a.b, .slice z65a.a z65a.n z65a.c, .slice z65a.d z65a.m z65a.e, .bool z65b.b, .slice z65b.a z65b.n z65b.c, .slice z65b.d z65b.m z65b.e]) rfl (by rfl))
     have HGA := Lib.hid ((HG.out).alloc (B := W66.heap.size) (T := 43) (cs := #[.bool z65a.b, .slice z65a.a z65a.n z65a.c, .slice z65a.d z65a.m z65a.e, .bool z65b.b, .slice z65b.a z65b.n z65b.c, .slice z65b.d z65b.m z65b.e]) rfl)
     obtain ⟨ii67, hi67, hz67, hs67, hy67⟩ := info_parts inf_ratio_Range
     have hzd67 : ∀ u ∈ (Value.agg #[.bool false, .slice none 0 0, .slice none 0 0, .bool false, .slice none 0 0, .slice none 0 0]).cells.toList, noDig u := by
      intro u hu
      have hu : u ∈ [.bool false, .slice none 0 0, .slice none 0 0, .bool false, .slice none 0 0, .slice none 0 0] := hu
      simp only [List.mem_cons, List.not_mem_nil, or_false] at hu
      rcases hu with rfl | rfl | rfl | rfl | rfl | rfl
      all_goals first | exact noDig_bool _ | exact noDig_slice _ _ _
     go_wp2_with (at_builtin; refine wpList_append_lrow _ rfl (.tmp 67) (.tmp 69) 111 rfl w.heap.size 43 ii67 _ 6 112 Tryz.underlying111 hi67 hz67 hs67 hy67 rfl (by decide) hzd67 _ _ _ rfl (HGA.out.row 0 _ rfl) ⟨W66.heap.size, 0, none⟩ 1 1 [.bool z65a.b, .slice z65a.a z65a.n z65a.c, .slice z65a.d z65a.m z65a.e, .bool z65b.b, .slice z65b.a z65b.n z65b.c, .slice z65b.d z65b.m z65b.e] rfl rfl (cells_blk (HSA.out.at 0 _ _ _ rfl)) (by simp [Value.oneCell']) (by intro u hu; simp only [List.mem_cons, List.not_mem_nil, or_false] at hu; rcases hu with rfl | rfl | rfl | rfl | rfl | rfl; all_goals first | exact noDig_bool _ | exact noDig_slice _ _ _) (by omega) (by dsimp only; unfold maxLen; omega) (by dsimp only; omega) HSA.out.bel.size ?_)
     intro g67 cap67 w67 hL67 hgr67 hat67
     have hL67' : LRow w67 w.heap.size 43 6 (.slice (some ⟨g67, 0, none⟩) (((flR S l0 l1 k aq i)).length + 1) cap67) (((flR S l0 l1 k aq i)).length + 1) (rx ++ [.bool z65a.b, .slice z65a.a z65a.n z65a.c, .slice z65a.d z65a.m z65a.e, .bool z65b.b, .slice z65b.a z65b.n z65b.c, .slice z65b.d z65b.m z65b.e]) := by first | exact hL67 | (rw [hln]; exact hL67)
     clear hL67
     have hL67 := hL67'
     clear hL67'
     obtain ⟨hs67', hg67'⟩ := Sx.append HSA.out HGA.out 0 rfl [z65a, z65b] [(downQ (nxL t0 t1 l0 l1 a 4) k), (upQ (nxH t0 t1 l0 l1 a 4) k)] rfl (fun j x hx => by match j, hx with
       | 0, hx => (simp at hx; subst hx; exact (HSA.out.p 1 _ _ rfl))
       | 1, hx => (simp at hx; subst hx; exact (HSA.out.p 0 _ _ rfl))
       | j + 2, hx => simp at hx) hL67 hgr67 (by intro c hc; simp [Value.ownBlock] at hc; subst hc; first | exact hat67 | simpa using hat67)
     clear b2c0 b2c1 b2c2 b2c3 b2c4 b2c5 b2f0 b2f1 b2f2 b2f3 b2f4 b2f5 b2l
     clear HSA HGA
     replace HS : Hid (Sx w w67 [(W66.heap.size, arr6 z65a z65b, 43), (wr4.heap.size + 1, arr6 n1 n2, 43), (wr4.heap.size, A.arr, 41), (w2.heap.size, arr6 z65a z65b, 43), (w.heap.size + 1, x3.arr, 41), (w.heap.size, arr6 x1 x2, 46)] [(true, z65b.val, (upQ (nxH t0 t1 l0 l1 a 4) k)), (true, z65a.val, (downQ (nxL t0 t1 l0 l1 a 4) k)), (true, n2.val, (nxH t0 t1 l0 l1 a 4)), (true, n1.val, (nxL t0 t1 l0 l1 a 4)), (true, z21.val, t1), (true, z18.val, t1), (true, z15.val, t0), (true, z12.val, t0), (true, A.val, a), (true, m2.val, t1), (true, m1.val, t0), (true, x3.val, S), (true, x2.val, l1), (true, x1.val, l0)]) := hs67'
     replace HG : Hid (GsR w w67 [(W66.heap.size, arr6 z65a z65b, 43), (wr4.heap.size + 1, arr6 n1 n2, 43), (wr4.heap.size, A.arr, 41), (w2.heap.size, arr6 z65a z65b, 43), (w.heap.size + 1, x3.arr, 41), (w.heap.size, arr6 x1 x2, 46)] [⟨43, true, 2, (.slice (some ⟨g67, 0, none⟩) ((flR S l0 l1 k aq i).length + 1) cap67), (rx ++ cellsR [z65a, z65b]), ((flR S l0 l1 k aq i) ++ [[(downQ (nxL t0 t1 l0 l1 a 4) k), (upQ (nxH t0 t1 l0 l1 a 4) k)]])⟩]) := hg67'
     clear hs67' hg67' hL67 hgr67 hat67 hzd67 hi67 hz67 hs67 hy67
     go_wp2_with fail
     exact ⟨⟨i + 1, z65a, z65b, (.slice (some ⟨g67, 0, none⟩) ((flR S l0 l1 k aq i).length + 1) cap67), (rx ++ cellsR [z65a, z65b]), by have := HLT.out; omega, by go_num, by first | rfl | rw [hln], Lib.hid (((((((((HS.out).erase 0).erase 0).erase 0).addP (HS.out.p 13 _ _ rfl)).addP (HS.out.p 12 _ _ rfl)).addP (HS.out.p 11 _ _ rfl)).addP (by rw [HU1.out]; exact (HS.out.p 1 _ _ rfl))).addP (by rw [HU2.out]; exact (HS.out.p 0 _ _ rfl))), Lib.hid (by rw [HFS.out, HU1.out, HU2.out]; exact HG.out.mono (fun b hb => ⟨b, by simp only [List.mem_cons] at hb ⊢; first | exact hb | (repeat (first | exact hb | right)), rfl⟩))⟩, meas_up HLT.out⟩
  ·
   obtain rfl : i = aq.length := by omega
   go_wp2_with fail
   go_ret
   exact ⟨_, rfl, RecsOf.ofRow (HG.out.row 0 _ rfl) (HG.out.mean 0 _ rfl), HS.out.bel⟩
end Go.Proofs.YtfjcccpibhhncaaGreat

namespace Go.Proofs.YtfjcccpibhhncaaGreat
open Go.RowKit

theorem inf_wingworksref01_S : (Tryz.prog.info? 51).map (fun i => (i.zero, i.size, i.bytes)) = some (some (.agg #[.bool false, .slice none 0 0, .slice none 0 0, .bool false, .slice none 0 0, .slice none 0 0]), 6, 112) := by kernel_rfl
set_option maxRecDepth 100000 in
set_option maxHeartbeats 4000000 in
theorem toward_any (t l a : Rat) (v1 v2 v3 : Value) (w : World) (h1 : IsR w v1 t) (h2 : IsR w v2 l) (h3 : IsR w v3 a) (s0 : szR t 1000) (s1 : szR l 1000) (s2 : szR a 1000) :
  Calls Tryz.prog 153 #[v1, v2, v3] w (RetR (towQ t l a) w) := by
 obtain ⟨x1, rfl⟩ := h1.open3
 obtain ⟨x2, rfl⟩ := h2.open3
 obtain ⟨x3, rfl⟩ := h3.open3
 have HS := Lib.hid ((((Sx.init w).addQ h1).addQ h2).addQ h3)
 have S0 := Lib.hid s0
 have S1 := Lib.hid s1
 have S2 := Lib.hid s2
 clear h1 h2 h3 s0 s1 s2
 go_enter Tryz.func153, Tryz.ntmps153
 go_wp2_with fail
 generalize hW1 : ((((w).alloc (.cells _ _)).alloc (.cells _ _)).alloc (.cells _ _)).alloc (.cells _ _) = W1 at *
 replace HS := Lib.hid ((((((HS.out).alloc (B := w.heap.size) rfl (by rfl)).alloc (B := w.heap.size + 1) (by simp) (by rfl)).alloc (B := w.heap.size + 2) (by simp) (by rfl)).alloc (B := w.heap.size + 3) (by simp) (by rfl)).to hW1 (by (try simp only [nb5, nb6]); rfl))
 clear hW1
 refine wp_region_held_drew (S := (fun w' => Sx w w' [(w.heap.size + 2, x3.arr, 49), (w.heap.size + 1, x2.arr, 49), (w.heap.size, x1.arr, 49)] [])) (by kernel_rfl) ((HS.out.drew).erase 0) (fun hh => ?_)
 replace HS := Lib.hid HS.out.drew
 refine tkB (i := 0) (v := ?vk3) rfl ?hk3 ?rk3
 case hk3 => intro u hSu; (try dsimp only at hSu); obtain ⟨qb0c0, qb0c1, qb0c2, _⟩ := fac3 (x := x1) (hSu.at 2 _ _ _ rfl); clear hSu; go_simp <;> with_reducible rfl
 try simp only [nbs, Act.put]
 refine tkB (i := 1) (v := ?vk4) rfl ?hk4 ?rk4
 case hk4 => intro u hSu; (try dsimp only at hSu); obtain ⟨qb1c0, qb1c1, qb1c2, _⟩ := fac3 (x := x2) (hSu.at 1 _ _ _ rfl); clear hSu; go_simp <;> with_reducible rfl
 try simp only [nbs, Act.put]
 refine tkB (i := 2) (v := ?vk5) rfl ?hk5 ?rk5
 case hk5 => intro u hSu; (try dsimp only at hSu); obtain ⟨qb2c0, qb2c1, qb2c2, _⟩ := fac3 (x := x3) (hSu.at 0 _ _ _ rfl); clear hSu; go_simp <;> with_reducible rfl
 try simp only [nbs, Act.put]
 refine tkB (i := 3) (v := ?vk6) rfl ?hk6 ?rk6
 case hk6 => intro u hSu; (try dsimp only at hSu); obtain ⟨qb0c0, qb0c1, qb0c2, _⟩ := fac3 (x := x1) (hSu.at 2 _ _ _ rfl); clear hSu; go_simp <;> with_reducible rfl
 try simp only [nbs, Act.put]
 refine rdA (i := 4) rfl (fun K hK => ?_)
 go_simp
 have a8 := HS.out.q 0 _ _ rfl
 have a9 := HS.out.q 2 _ _ rfl
 go_wp2_with (go_at_call 82; (with_reducible refine (qsub_any a t _ _ _ a8 a9 (szQ_mono (szQ_of S2.out) (by omega)) (szQ_mono (szQ_of S0.out) (by omega))).mono ?_); rintro e w7 ⟨v7, rfl, hv7, hb7⟩; obtain ⟨z7, rfl⟩ := hv7.open3)
 refine hK.out _ _ (Sx.below hh hb7) (fun hh => ?_)
 clear hK K
 try simp only [nbs, Act.put]
 replace HS := Lib.hid (HS.out.below hb7)
 clear hb7 a8 a9
 replace HS := Lib.hid (HS.out.addQ hv7)
 clear hv7
 refine rdA (i := 5) rfl (fun K hK => ?_)
 go_simp
 have a11 := HS.out.q 2 _ _ rfl
 have a12 := HS.out.q 0 _ _ rfl
 go_wp2_with (go_at_call 122; (with_reducible refine (qmul_any l (a - t) _ _ _ a11 a12 (szQ_mono (szQ_of S1.out) (by omega)) (szQ_mono (szQ_of (szR_sub S2.out S0.out)) (by omega))).mono ?_); rintro e w10 ⟨v10, rfl, hv10, hb10⟩; obtain ⟨z10, rfl⟩ := hv10.open3)
 refine hK.out _ _ (Sx.below hh hb10) (fun hh => ?_)
 clear hK K
 try simp only [nbs, Act.put]
 replace HS := Lib.hid (HS.out.below hb10)
 clear hb10 a11 a12
 replace HS := Lib.hid (HS.out.addQ hv10)
 clear hv10
 refine rdA (i := 6) rfl (fun K hK => ?_)
 go_simp
 have a14 := HS.out.q 4 _ _ rfl
 have a15 := HS.out.q 0 _ _ rfl
 go_wp2_with (go_at_call 128; (with_reducible refine (qadd_any t (l * (a - t)) _ _ _ a14 a15 (szQ_mono (szQ_of S0.out) (by omega)) (szQ_mono (szQ_of (szR_mul S1.out (szR_sub S2.out S0.out))) (by omega))).mono ?_); rintro e w13 ⟨v13, rfl, hv13, hb13⟩; obtain ⟨z13, rfl⟩ := hv13.open3)
 refine hK.out _ _ (Sx.below hh hb13) (fun hh => ?_)
 clear hK K
 try simp only [nbs, Act.put]
 replace HS := Lib.hid (HS.out.below hb13)
 clear hb13 a14 a15
 replace HS := Lib.hid (HS.out.addQ hv13)
 clear hv13
 refine rdA (i := 7) rfl (fun K hK => ?_)
 have b3e := (HS.out.at 0 _ _ _ rfl)
 have b3c0 := blk_cell b3e 0 (.bool false) rfl
 have b3c1 := blk_cell b3e 1 (.slice none 0 0) rfl
 have b3c2 := blk_cell b3e 2 (.slice none 0 0) rfl
 have b3f0 := blk_frozen b3e 0
 have b3f1 := blk_frozen b3e 1
 have b3f2 := blk_frozen b3e 2
 have b3l := blk_lt b3e
 clear b3e
 go_simp
 refine hK.out _ _ ((((HS.out).st_R 0 r30 z13 rfl)).erase 0) (fun hh => ?_)
 clear hK K b3c0 b3c1 b3c2 b3f0 b3f1 b3f2 b3l
 try simp only [nbs, Act.put]
 generalize hW16 : (((w13).setCell _ _).setCell _ _).setCell _ _ = W16 at *
 replace HS := Lib.hid (((HS.out).st_R 0 r30 z13 rfl).to hW16 (by (try simp only [nb5, nb6]); rfl))
 clear hW16
 refine wpAnyH_done (by kernel_rfl) ?_ _
 obtain ⟨b3c0, b3c1, b3c2, b3f0, b3f1, b3f2⟩ := fac3 (x := z13) (HS.out.at 0 _ _ _ rfl)
 have b3l := blk_lt (HS.out.at 0 _ _ _ rfl)
 go_wp2_with fail
 clear b3c0 b3c1 b3c2 b3f0 b3f1 b3f2 b3l
 obtain ⟨b3c0, b3c1, b3c2, _⟩ := fac3 (x := z13) (HS.out.at 0 _ _ _ rfl)
 refine bodyPost_ret (v := z13.val) (by simp [results, Tryz.results153, go_sem, b3c0, b3c1, b3c2]) rfl ⟨_, rfl, (HS.out.q 0 _ _ rfl), HS.out.bel⟩
set_option maxRecDepth 100000 in
set_option maxHeartbeats 8000000 in
theorem qfollow_any (l0 l1 S : Rat) (aq : List Rat) (k : Nat) (hk : k ≤ 256) (z : Int) (hz : min (max z 0) 256 = (k : Int)) (vx vS va : Value) (w : World) (hx : IsRngQ w vx l0 l1) (hll : l0 ≤ l1) (hS : IsR w vS S) (ha : FrcsOf IsR w va aq) (hl : aq.length ≤ 300) (s0 : szR l0 1000) (s1 : szR l1 1000) (sS : szR S 1000) (sa : ∀ i, szR (aq.getD i 0) 1000) (sF : flErr l0 l1 aq.length = 0 → ∀ i, szR (flUp S l0 l1 k aq i).1 1000 ∧ szR (flUp S l0 l1 k aq i).2 1000) :
  Calls Tryz.prog 107 #[vx, vS, va, .int .i64 z] w (RetRecsE false 2 (flT (flR S l0 l1 k aq aq.length) (flErr l0 l1 aq.length)) (flErr l0 l1 aq.length) w) := by
 obtain ⟨x1, x2, rfl, hx1, hx2⟩ := hx
 obtain ⟨x3, rfl⟩ := hS.open3
 have HS := Lib.hid ((((Sx.init w).addQ hx1).addQ hx2).addQ hS)
 have SL0 := Lib.hid s0
 have SL1 := Lib.hid s1
 have SS := Lib.hid sS
 have HZA := Lib.hid sa
 have HZF0 := Lib.hid sF
 have HK := Lib.hid hk
 have HZK := Lib.hid hz
 have HLL := Lib.hid hll
 obtain ⟨aa, ca, rfl, hE⟩ := ha
 have HE := Lib.hid hE
 clear hx1 hx2 hS s0 s1 sS sa sF hE hk hz hll
 go_enter Tryz.func107, Tryz.ntmps107
 go_wp2_with fail
 generalize hW1 : ((w).alloc (.cells _ _)).alloc (.cells _ _) = W1 at *
 replace HS := Lib.hid ((((HS.out).alloc (B := w.heap.size) rfl (by rfl)).alloc (B := w.heap.size + 1) (by simp) (by rfl)).to hW1 (by (try simp only [nb5, nb6]); rfl))
 clear hW1
 refine wp_region_held_drew (S := (fun w' => Sx w w' [(w.heap.size + 1, x3.arr, 49), (w.heap.size, arr6 x1 x2, 54)] [])) (by kernel_rfl) ((HS.out.drew).bare) (fun hh => ?_)
 replace HS := Lib.hid HS.out.drew
 refine tkB (i := 0) (v := ?vk3) rfl ?hk3 ?rk3
 case hk3 => intro u hSu; go_simp <;> with_reducible rfl
 try simp only [nbs, Act.put]
 refine tkB (i := 1) (v := ?vk4) rfl ?hk4 ?rk4
 case hk4 => intro u hSu; (try dsimp only at hSu); obtain ⟨qb0c0, qb0c1, qb0c2, qb0c3, qb0c4, qb0c5, _⟩ := fac6 (x := x1) (y := x2) (hSu.at 1 _ _ _ rfl); clear hSu; go_simp <;> with_reducible rfl
 try simp only [nbs, Act.put]
 refine rdA (i := 2) rfl (fun K hK => ?_)
 go_simp
 go_wp2_with (go_at_call 78; (with_reducible refine (unit_any _).mono ?_); rintro e w5 ⟨v5, rfl, ⟨z5a, z5b, rfl, hv5, hw5⟩, hb5⟩)
 refine hK.out _ _ (Sx.below hh hb5) (fun hh => ?_)
 clear hK K
 try simp only [nbs, Act.put]
 replace HS := Lib.hid (HS.out.below hb5)
 clear hb5
 replace HS := Lib.hid (HS.out.addQ hv5)
 clear hv5
 replace HS := Lib.hid (HS.out.addQ hw5)
 clear hw5
 refine rdA (i := 3) rfl (fun K hK => ?_)
 go_simp
 cases t6 : inB l0 l1 with
 | true =>
  have a8 := HS.out.q 4 _ _ rfl
  have a9 := HS.out.q 3 _ _ rfl
  have a10 := HS.out.q 1 _ _ rfl
  have a11 := HS.out.q 0 _ _ rfl
  go_wp2_with (go_at_call 77; (with_reducible refine (qinB_any l0 l1 _ _ _ (rngQ a8 a9) (rngQ a10 a11) (szQ_mono (szQ_of SL0.out) (by omega)) (szQ_mono (szQ_of SL1.out) (by omega))).mono ?_); rw [t6]; rintro e w7 ⟨rfl, hb7⟩)
  refine hK.out _ _ (Sx.below hh hb7) (fun hh => ?_)
  clear hK K
  try simp only [nbs, Act.put]
  replace HS := Lib.hid (HS.out.below hb7)
  clear hb7 a8 a9 a10 a11
  refine tkB (i := 4) (v := ?vk12) rfl ?hk12 ?rk12
  case hk12 => intro u hSu; go_simp <;> with_reducible rfl
  try simp only [nbs, Act.put]
  refine wpAnyH_done (by kernel_rfl) ?_ _
  by_cases t13p : aq.length > 256
  ·
   have t13i : decide ((aq.length : Int) > 256) = true := decide_eq_true (by omega)
   have t13j : decide (256 < (aq.length : Int)) = true := decide_eq_true (by omega)
   have t13k : decide (256 < aq.length) = true := decide_eq_true (by omega)
   have t13 : decide (aq.length > 256) = true := decide_eq_true t13p
   have T13 := Lib.hid t13p
   clear t13p
   go_wp2_with fail
   have HR : Hid (flErr l0 l1 aq.length = 4) := by show _ = _; unfold flErr; rw [if_neg (by rw [part_in HLL.out, t6]; simp)]; rw [if_pos (by have := T13.out; omega)]
   go_ret2
   exact (by rw [HR.out]; exact ⟨_, rfl, RecsOf.nil _ _ _, HS.out.bel⟩)
  ·
   have t13i : decide ((aq.length : Int) > 256) = false := decide_eq_false (by omega)
   have t13j : decide (256 < (aq.length : Int)) = false := decide_eq_false (by omega)
   have t13k : decide (256 < aq.length) = false := decide_eq_false (by omega)
   have t13 : decide (aq.length > 256) = false := decide_eq_false t13p
   have T13 := Lib.hid t13p
   clear t13p
   obtain ⟨b1c0, b1c1, b1c2, b1f0, b1f1, b1f2⟩ := fac3 (x := x3) (HS.out.at 0 _ _ _ rfl)
   have b1l := blk_lt (HS.out.at 0 _ _ _ rfl)
   go_wp2_with fail
   clear b1c0 b1c1 b1c2 b1f0 b1f1 b1f2 b1l
   refine (qonly_any S _ _ (HS.out.q 2 _ _ rfl)).mono ?_
   rintro e w14 ⟨v14, rfl, ⟨z14a, z14b, rfl, hv14, hw14⟩, hb14⟩
   replace HS := Lib.hid (HS.out.below hb14)
   clear hb14
   replace HS := Lib.hid (HS.out.addQ hv14)
   clear hv14
   replace HS := Lib.hid (HS.out.addQ hw14)
   clear hw14
   go_wp2_with fail
   generalize hW15 : (w14).alloc (.cells _ _) = W15 at *
   replace HS := Lib.hid (((HS.out).alloc (B := w14.heap.size) rfl (by rfl)).to hW15 (by (try simp only [nb5, nb6]); rfl))
   clear hW15
   have HG := Lib.hid ((GsR.nil w W15 [(w14.heap.size, arr6 z14a z14b, 51), (w.heap.size + 1, x3.arr, 49), (w.heap.size, arr6 x1 x2, 54)]).add 51 false 2)
   have HR : Hid (flErr l0 l1 aq.length = 0) := by show _ = _; unfold flErr; rw [if_neg (by rw [part_in HLL.out, t6]; simp)]; rw [if_neg (by have := T13.out; omega)]
   have HZF := Lib.hid (HZF0.out HR.out)
   go_wp2_with fail
   go_loopw [12, 10] (fun u12 u10 wr => ∃ (i : Nat) (m1 m2 : R3) (rv : Value) (rx : List Value), i ≤ aq.length ∧ u12 = .int .i64 i ∧ rv = u10 ∧ Hid (Sx w wr [(w14.heap.size, arr6 m1 m2, 51), (w.heap.size + 1, x3.arr, 49), (w.heap.size, arr6 x1 x2, 54)] [(false, m2.val, (flUp S l0 l1 k aq i).2), (false, m1.val, (flUp S l0 l1 k aq i).1), (false, x3.val, S), (false, x2.val, l1), (false, x1.val, l0)]) ∧ Hid (GsR w wr [(w14.heap.size, arr6 m1 m2, 51), (w.heap.size + 1, x3.arr, 49), (w.heap.size, arr6 x1 x2, 54)] [⟨51, false, 2, rv, rx, (flR S l0 l1 k aq i)⟩]))
    (fun u _ _ => aq.length - (intOf u).toNat)
   case atStart => exact ⟨0, z14a, z14b, .slice none 0 0, [], Nat.zero_le _, rfl, rfl, Lib.hid ((((((HS.out.bare).addQ (HS.out.q 6 _ _ rfl)).addQ (HS.out.q 5 _ _ rfl)).addQ (HS.out.q 4 _ _ rfl)).addQ (HS.out.q 1 _ _ rfl)).addQ (HS.out.q 0 _ _ rfl)), HG⟩
   case round =>
    obtain ⟨wr16, hwr16⟩ : ∃ z, z = wr := ⟨_, rfl⟩
    subst hwr16
    clear HS HG
    obtain ⟨i, m1, m2, rv, rx, hi, rfl, rfl, HS, HG⟩ := hrel
    by_cases hlt : i < aq.length
    ·
     have hlt' : (i : Int) < aq.length := by omega
     have hge' : (0 : Int) ≤ i := by omega
     have HLT := Lib.hid hlt
     obtain ⟨b, off, rfl, hbl, hEE⟩ := HE.out (by omega)
     have HBL := Lib.hid hbl
     obtain ⟨A, g0, g1, g2, hA⟩ := FrcAt.r3q (hEE i hlt)
     have A0 := Lib.hid g0
     have A1 := Lib.hid g1
     have A2 := Lib.hid g2
     have hln := flR_len S l0 l1 k aq i
     have HFS := Lib.hid (flR_succ S l0 l1 k aq i)
     clear g0 g1 g2 hbl hEE
     replace HS := Lib.hid (HS.out.addQ (hA.below HS.out.bel))
     clear hA
     have SA := Lib.hid (HZA.out i)
     obtain ⟨f1, f2⟩ := HZF.out i
     have ST0 := Lib.hid f1
     have ST1 := Lib.hid f2
     clear f1 f2
     have HU1 : Hid ((flUp S l0 l1 k aq (i + 1)).1 = downQ (flLo (flUp S l0 l1 k aq i).1 (flUp S l0 l1 k aq i).2 l0 l1 (aq.getD i 0)) k) := rfl
     have HU2 : Hid ((flUp S l0 l1 k aq (i + 1)).2 = upQ (flHi (flUp S l0 l1 k aq i).1 (flUp S l0 l1 k aq i).2 l0 l1 (aq.getD i 0)) k) := rfl
     generalize (flUp S l0 l1 k aq i).1 = t0 at *
     generalize (flUp S l0 l1 k aq i).2 = t1 at *
     generalize aq.getD i 0 = a at *
     unfold flLo at HU1
     unfold flHi at HU2
     clear hlt
     go_wp2_with fail
     refine wp_region_held_drew (S := (fun w' => Sx w w' [(w14.heap.size, arr6 m1 m2, 51), (w.heap.size + 1, x3.arr, 49), (w.heap.size, arr6 x1 x2, 54)] [])) (by kernel_rfl) ((HS.out.drew).bare) (fun hh => ?_)
     replace HS := Lib.hid HS.out.drew
     replace HG := Lib.hid (HG.out.below (Below.refl _ _).drew)
     have HSW := Lib.hid HS.out.bel.size
     refine tkB (i := 0) (v := ?vk18) rfl ?hk18 ?rk18
     case hk18 => intro u hSu; go_simp <;> with_reducible rfl
     try simp only [nbs, Act.put]
     refine tkB (i := 1) (v := ?vk19) rfl ?hk19 ?rk19
     case hk19 => intro u hSu; (try dsimp only at hSu); obtain ⟨qb2c0, qb2c1, qb2c2, qb2c3, qb2c4, qb2c5, _⟩ := fac6 (x := m1) (y := m2) (hSu.at 0 _ _ _ rfl); clear hSu; go_simp <;> with_reducible rfl
     try simp only [nbs, Act.put]
     refine tkB (i := 2) (v := ?vk20) rfl ?hk20 ?rk20
     case hk20 => intro u hSu; go_simp <;> with_reducible rfl
     try simp only [nbs, Act.put]
     refine tkB (i := 3) (v := ?vk21) rfl ?hk21 ?rk21
     case hk21 => intro u hSu; go_simp <;> with_reducible rfl
     try simp only [nbs, Act.put]
     refine tkB (i := 4) (v := ?vk22) rfl ?hk22 ?rk22
     case hk22 => intro u hSu; (try dsimp only at hSu); obtain ⟨qb0c0, qb0c1, qb0c2, qb0c3, qb0c4, qb0c5, _⟩ := fac6 (x := x1) (y := x2) (hSu.at 2 _ _ _ rfl); clear hSu; go_simp <;> with_reducible rfl
     try simp only [nbs, Act.put]
     refine tkB (i := 5) (v := ?vk23) rfl ?hk23 ?rk23
     case hk23 => intro u hSu; go_simp <;> with_reducible rfl
     try simp only [nbs, Act.put]
     refine tkB (i := 6) (v := ?vk24) rfl ?hk24 ?rk24
     case hk24 => intro u hSu; go_simp <;> with_reducible rfl
     try simp only [nbs, Act.put]
     refine tkB (i := 7) (v := ?vk25) rfl ?hk25 ?rk25
     case hk25 => intro u hSu; go_simp <;> with_reducible rfl
     try simp only [nbs, Act.put]
     refine tkB (i := 8) (v := ?vk26) rfl ?hk26 ?rk26
     case hk26 => intro u hSu; (try dsimp only at hSu); have Ac0 := (hSu.bel.cell (p := ⟨b, off + i * 3, none⟩) HBL.out).trans A0.out; have Ac1 := (hSu.bel.cell (p := ⟨b, off + i * 3 + 1, none⟩) HBL.out).trans A1.out; have Ac2 := (hSu.bel.cell (p := ⟨b, off + i * 3 + 2, none⟩) HBL.out).trans A2.out; clear hSu; go_simp <;> with_reducible rfl
     try simp only [nbs, Act.put]
     refine tkB (i := 11) (v := ?vk27) rfl ?hk27 ?rk27
     case hk27 => intro u hSu; go_simp <;> with_reducible rfl
     try simp only [nbs, Act.put]
     refine tkB (i := 12) (v := ?vk28) rfl ?hk28 ?rk28
     case hk28 => intro u hSu; (try dsimp only at hSu); obtain ⟨qb2c0, qb2c1, qb2c2, qb2c3, qb2c4, qb2c5, _⟩ := fac6 (x := m1) (y := m2) (hSu.at 0 _ _ _ rfl); clear hSu; go_simp <;> with_reducible rfl
     try simp only [nbs, Act.put]
     refine tkB (i := 13) (v := ?vk29) rfl ?hk29 ?rk29
     case hk29 => intro u hSu; go_simp <;> with_reducible rfl
     try simp only [nbs, Act.put]
     refine tkB (i := 14) (v := ?vk30) rfl ?hk30 ?rk30
     case hk30 => intro u hSu; go_simp <;> with_reducible rfl
     try simp only [nbs, Act.put]
     refine tkB (i := 15) (v := ?vk31) rfl ?hk31 ?rk31
     case hk31 => intro u hSu; (try dsimp only at hSu); obtain ⟨qb0c0, qb0c1, qb0c2, qb0c3, qb0c4, qb0c5, _⟩ := fac6 (x := x1) (y := x2) (hSu.at 2 _ _ _ rfl); clear hSu; go_simp <;> with_reducible rfl
     try simp only [nbs, Act.put]
     refine tkB (i := 16) (v := ?vk32) rfl ?hk32 ?rk32
     case hk32 => intro u hSu; go_simp <;> with_reducible rfl
     try simp only [nbs, Act.put]
     refine tkB (i := 17) (v := ?vk33) rfl ?hk33 ?rk33
     case hk33 => intro u hSu; go_simp <;> with_reducible rfl
     try simp only [nbs, Act.put]
     refine tkB (i := 18) (v := ?vk34) rfl ?hk34 ?rk34
     case hk34 => intro u hSu; go_simp <;> with_reducible rfl
     try simp only [nbs, Act.put]
     refine tkB (i := 19) (v := ?vk35) rfl ?hk35 ?rk35
     case hk35 => intro u hSu; (try dsimp only at hSu); have Ac0 := (hSu.bel.cell (p := ⟨b, off + i * 3, none⟩) HBL.out).trans A0.out; have Ac1 := (hSu.bel.cell (p := ⟨b, off + i * 3 + 1, none⟩) HBL.out).trans A1.out; have Ac2 := (hSu.bel.cell (p := ⟨b, off + i * 3 + 2, none⟩) HBL.out).trans A2.out; clear hSu; go_simp <;> with_reducible rfl
     try simp only [nbs, Act.put]
     refine wpAnyH_modular [9, 10, 20, 21, 22, 23] [9, 10, 20, 21, 22, 23] [] [42, 43, 53, 54, 13, 14] #[true, true, true, true, true, true, true, true, true, true, true, true, true, true, true, true, true, true, true, true, true, true, true, true, false, false] 2 [(9, 42), (10, 43), (20, 53), (21, 54), (22, 13), (23, 14)] [(9, []), (10, [9]), (20, [10]), (21, [20]), (22, []), (23, [])] [22, 23] [(9, fun v w => ∃ z36 : R3, v = z36.val ∧ Fr false w z36.val (towQ t0 l0 a)), (10, fun v w => ∃ z37a z37b : R3, v = .agg #[.bool z37a.b, .slice z37a.a z37a.n z37a.c, .slice z37a.d z37a.m z37a.e, .bool z37b.b, .slice z37b.a z37b.n z37b.c, .slice z37b.d z37b.m z37b.e] ∧ Fr false w z37a.val (towQ t0 l0 a) ∧ Fr false w z37b.val (towQ t0 l0 a)), (20, fun v w => ∃ z38 : R3, v = z38.val ∧ Fr false w z38.val (towQ t0 l1 a)), (21, fun v w => ∃ z39a z39b : R3, v = .agg #[.bool z39a.b, .slice z39a.a z39a.n z39a.c, .slice z39a.d z39a.m z39a.e, .bool z39b.b, .slice z39b.a z39b.n z39b.c, .slice z39b.d z39b.m z39b.e] ∧ Fr false w z39a.val (towQ t0 l1 a) ∧ Fr false w z39b.val (towQ t0 l1 a)), (22, fun v w => ∃ Br17_22 : Nat, v = .pointer (some ⟨Br17_22, 0, none⟩) ∧ wr16.drew.heap.size ≤ Br17_22 ∧ w.heap[Br17_22]? = some (.cells #[.bool false, .slice none 0 0, .slice none 0 0, .bool false, .slice none 0 0, .slice none 0 0] 51 (0, 0))), (23, fun v w => ∃ Br17_23 : Nat, v = .pointer (some ⟨Br17_23, 0, none⟩) ∧ wr16.drew.heap.size ≤ Br17_23 ∧ w.heap[Br17_23]? = some (.cells #[.bool false, .slice none 0 0, .slice none 0 0, .bool false, .slice none 0 0, .slice none 0 0] 51 (0, 0)))]
      rfl (by kernel_rfl) (by decide) rfl ⟨(fun v w w' hb ⟨z0, e, h0⟩ => ⟨z0, e, Fr.below h0 hb⟩), ⟨(fun v w w' hb ⟨z0, z1, e, h0, h1⟩ => ⟨z0, z1, e, Fr.below h0 hb, Fr.below h1 hb⟩), ⟨(fun v w w' hb ⟨z0, e, h0⟩ => ⟨z0, e, Fr.below h0 hb⟩), ⟨(fun v w w' hb ⟨z0, z1, e, h0, h1⟩ => ⟨z0, z1, e, Fr.below h0 hb, Fr.below h1 hb⟩), ⟨(fun v w w' hb ⟨B, e, g, k⟩ => ⟨B, e, g, blk_keep k hb (blk_lt k)⟩), ⟨(fun v w w' hb ⟨B, e, g, k⟩ => ⟨B, e, g, blk_keep k hb (blk_lt k)⟩), trivial⟩⟩⟩⟩⟩⟩ ⟨fun v w ⟨B, e, g, k⟩ => ⟨B, e, blk_lt k⟩, ⟨fun v w ⟨B, e, g, k⟩ => ⟨B, e, blk_lt k⟩, trivial⟩⟩ (fun w' hb => Sx.below hh hb) ⟨?_, ?_, ?_, ?_, ?_, ?_, trivial⟩ trivial (by decide) ?_
     ·
      refine StepM.of rfl (fun f w' hb hp K hK => ?_)
      have HSB := HS
      replace HS := Lib.hid (HS.out.below hb)
      simp only [fillA, fillT, List.foldl_cons, List.foldl_nil, Act.put, nb4, nb5, nb6]
      have a40 := HS.out.q 2 _ _ rfl
      have a41 := HS.out.q 5 _ _ rfl
      have a42 := HS.out.q 0 _ _ rfl
      go_simp
      go_wp2_with (go_at_call 153; (with_reducible refine (toward_any t0 l0 a _ _ _ _ a40 a41 a42 ST0.out SL0.out SA.out).mono ?_); rintro e w36 ⟨v36, rfl, hv36, hb36⟩; obtain ⟨z36, rfl⟩ := hv36.open3)
      exact hK.out _ _ (z36.val) (by simp only [fillA, fillT, List.foldl_cons, List.foldl_nil, Act.put, nb4, nb5, nb6, nb1, nb2, nb3]) ⟨z36, rfl, hv36⟩ (fun h => absurd h (by decide)) hb36
     ·
      refine StepM.of rfl (fun f w' hb hp K hK => ?_)
      obtain ⟨z36, e9, h9_0⟩ : ∃ z36 : R3, f 42 = z36.val ∧ Fr false w' z36.val (towQ t0 l0 a) := hp 9 (by decide)
      have HSB := HS
      replace HS := Lib.hid (HS.out.below hb)
      replace HS := Lib.hid (HS.out.addQ h9_0)
      simp only [fillA, fillT, List.foldl_cons, List.foldl_nil, Act.put, nb4, nb5, nb6, e9]
      have a43 := HS.out.q 0 _ _ rfl
      go_simp
      go_wp2_with (go_at_call 55; (with_reducible refine (qonly_any (towQ t0 l0 a) _ _ a43).mono ?_); rintro e w37 ⟨v37, rfl, ⟨z37a, z37b, rfl, hv37, hw37⟩, hb37⟩)
      exact hK.out _ _ (.agg #[.bool z37a.b, .slice z37a.a z37a.n z37a.c, .slice z37a.d z37a.m z37a.e, .bool z37b.b, .slice z37b.a z37b.n z37b.c, .slice z37b.d z37b.m z37b.e]) (by simp only [fillA, fillT, List.foldl_cons, List.foldl_nil, Act.put, nb4, nb5, nb6, nb1, nb2, nb3, e9]) ⟨z37a, z37b, rfl, hv37, hw37⟩ (fun h => absurd h (by decide)) hb37
     ·
      refine StepM.of rfl (fun f w' hb hp K hK => ?_)
      have HSB := HS
      replace HS := Lib.hid (HS.out.below hb)
      simp only [fillA, fillT, List.foldl_cons, List.foldl_nil, Act.put, nb4, nb5, nb6]
      have a44 := HS.out.q 2 _ _ rfl
      have a45 := HS.out.q 4 _ _ rfl
      have a46 := HS.out.q 0 _ _ rfl
      go_simp
      go_wp2_with (go_at_call 153; (with_reducible refine (toward_any t0 l1 a _ _ _ _ a44 a45 a46 ST0.out SL1.out SA.out).mono ?_); rintro e w38 ⟨v38, rfl, hv38, hb38⟩; obtain ⟨z38, rfl⟩ := hv38.open3)
      exact hK.out _ _ (z38.val) (by simp only [fillA, fillT, List.foldl_cons, List.foldl_nil, Act.put, nb4, nb5, nb6, nb1, nb2, nb3]) ⟨z38, rfl, hv38⟩ (fun h => absurd h (by decide)) hb38
     ·
      refine StepM.of rfl (fun f w' hb hp K hK => ?_)
      obtain ⟨z38, e20, h20_0⟩ : ∃ z38 : R3, f 53 = z38.val ∧ Fr false w' z38.val (towQ t0 l1 a) := hp 20 (by decide)
      have HSB := HS
      replace HS := Lib.hid (HS.out.below hb)
      replace HS := Lib.hid (HS.out.addQ h20_0)
      simp only [fillA, fillT, List.foldl_cons, List.foldl_nil, Act.put, nb4, nb5, nb6, e20]
      have a47 := HS.out.q 0 _ _ rfl
      go_simp
      go_wp2_with (go_at_call 55; (with_reducible refine (qonly_any (towQ t0 l1 a) _ _ a47).mono ?_); rintro e w39 ⟨v39, rfl, ⟨z39a, z39b, rfl, hv39, hw39⟩, hb39⟩)
      exact hK.out _ _ (.agg #[.bool z39a.b, .slice z39a.a z39a.n z39a.c, .slice z39a.d z39a.m z39a.e, .bool z39b.b, .slice z39b.a z39b.n z39b.c, .slice z39b.d z39b.m z39b.e]) (by simp only [fillA, fillT, List.foldl_cons, List.foldl_nil, Act.put, nb4, nb5, nb6, nb1, nb2, nb3, e20]) ⟨z39a, z39b, rfl, hv39, hw39⟩ (fun h => absurd h (by decide)) hb39
     ·
      refine StepM.of rfl (fun f w' hb hp K hK => ?_)
      have HSB := HS
      replace HS := Lib.hid (HS.out.below hb)
      simp only [fillA, fillT, List.foldl_cons, List.foldl_nil, Act.put, nb4, nb5, nb6]
      go_simp
      exact hK.out _ _ (.pointer (some ⟨w'.heap.size, 0, none⟩)) (by simp only [fillA, fillT, List.foldl_cons, List.foldl_nil, Act.put, nb4, nb5, nb6, nb1, nb2, nb3]) ⟨_, rfl, hb.size, blk_new _ _ _⟩ (fun _ => rfl) (below1 w' _)
     ·
      refine StepM.of rfl (fun f w' hb hp K hK => ?_)
      have HSB := HS
      replace HS := Lib.hid (HS.out.below hb)
      simp only [fillA, fillT, List.foldl_cons, List.foldl_nil, Act.put, nb4, nb5, nb6]
      go_simp
      exact hK.out _ _ (.pointer (some ⟨w'.heap.size, 0, none⟩)) (by simp only [fillA, fillT, List.foldl_cons, List.foldl_nil, Act.put, nb4, nb5, nb6, nb1, nb2, nb3]) ⟨_, rfl, hb.size, blk_new _ _ _⟩ (fun _ => rfl) (below1 w' _)
     ·
      intro f wr17 hb hp hd
      obtain ⟨z36, e9, h9_0⟩ : ∃ z36 : R3, f 42 = z36.val ∧ Fr false wr17 z36.val (towQ t0 l0 a) := hp 9 (by decide)
      obtain ⟨z37a, z37b, e10, h10_0, h10_1⟩ : ∃ z37a z37b : R3, f 43 = .agg #[.bool z37a.b, .slice z37a.a z37a.n z37a.c, .slice z37a.d z37a.m z37a.e, .bool z37b.b, .slice z37b.a z37b.n z37b.c, .slice z37b.d z37b.m z37b.e] ∧ Fr false wr17 z37a.val (towQ t0 l0 a) ∧ Fr false wr17 z37b.val (towQ t0 l0 a) := hp 10 (by decide)
      obtain ⟨z38, e20, h20_0⟩ : ∃ z38 : R3, f 53 = z38.val ∧ Fr false wr17 z38.val (towQ t0 l1 a) := hp 20 (by decide)
      obtain ⟨z39a, z39b, e21, h21_0, h21_1⟩ : ∃ z39a z39b : R3, f 54 = .agg #[.bool z39a.b, .slice z39a.a z39a.n z39a.c, .slice z39a.d z39a.m z39a.e, .bool z39b.b, .slice z39b.a z39b.n z39b.c, .slice z39b.d z39b.m z39b.e] ∧ Fr false wr17 z39a.val (towQ t0 l1 a) ∧ Fr false wr17 z39b.val (towQ t0 l1 a) := hp 21 (by decide)
      obtain ⟨Br17_22, e22, g22, k22⟩ : ∃ Br17_22 : Nat, f 13 = .pointer (some ⟨Br17_22, 0, none⟩) ∧ wr16.drew.heap.size ≤ Br17_22 ∧ wr17.heap[Br17_22]? = some (.cells #[.bool false, .slice none 0 0, .slice none 0 0, .bool false, .slice none 0 0, .slice none 0 0] 51 (0, 0)) := hp 22 (by decide)
      obtain ⟨Br17_23, e23, g23, k23⟩ : ∃ Br17_23 : Nat, f 14 = .pointer (some ⟨Br17_23, 0, none⟩) ∧ wr16.drew.heap.size ≤ Br17_23 ∧ wr17.heap[Br17_23]? = some (.cells #[.bool false, .slice none 0 0, .slice none 0 0, .bool false, .slice none 0 0, .slice none 0 0] 51 (0, 0)) := hp 23 (by decide)
      have hd22_23 : Br17_22 ≠ Br17_23 := fun h => hd 22 23 (by decide) (by decide) (by decide) (by decide) (by decide) (by show f 13 = f 14; rw [e22, e23, h])
      replace hh := Sx.below hh hb
      have hlt := HS.out.lt
      replace HS := Lib.hid (HS.out.below hb)
      have hltg := HG.out.row
      replace HG := Lib.hid (HG.out.below hb)
      replace HS := Lib.hid (HS.out.addQ h9_0)
      replace HS := Lib.hid (HS.out.addQ h10_0)
      replace HS := Lib.hid (HS.out.addQ h10_1)
      replace HS := Lib.hid (HS.out.addQ h20_0)
      replace HS := Lib.hid (HS.out.addQ h21_0)
      replace HS := Lib.hid (HS.out.addQ h21_1)
      have hge22 : w.heap.size ≤ Br17_22 := Nat.le_trans HSW.out g22
      have hne22 : ∀ b, b ∈ ([(w14.heap.size, arr6 m1 m2, 51), (w.heap.size + 1, x3.arr, 49), (w.heap.size, arr6 x1 x2, 54)] : List Bx) → b.1 ≠ Br17_22 := by
       intro b hb
       simp only [List.mem_cons, List.not_mem_nil, or_false] at hb
       rcases hb with rfl | rfl | rfl
       ·
        have := hlt _ (List.mem_iff_getElem?.2 ⟨0, rfl⟩); dsimp only at this ⊢; omega
       ·
        have := hlt _ (List.mem_iff_getElem?.2 ⟨1, rfl⟩); dsimp only at this ⊢; omega
       ·
        have := hlt _ (List.mem_iff_getElem?.2 ⟨2, rfl⟩); dsimp only at this ⊢; omega
      replace HS := Lib.hid (HS.out.addBox k22 hge22 (by rfl) hne22)
      replace HG := Lib.hid (HG.out.box (B := Br17_22) (T := 51) (cs := #[.bool false, .slice none 0 0, .slice none 0 0, .bool false, .slice none 0 0, .slice none 0 0]) (fun g hg hc => by obtain ⟨n, hn⟩ := List.mem_iff_getElem?.1 hg; have := ((hltg n g hn).lt hc).1; have := g22; omega))
      have hge23 : w.heap.size ≤ Br17_23 := Nat.le_trans HSW.out g23
      have hne23 : ∀ b, b ∈ ([(Br17_22, #[.bool false, .slice none 0 0, .slice none 0 0, .bool false, .slice none 0 0, .slice none 0 0], 51), (w14.heap.size, arr6 m1 m2, 51), (w.heap.size + 1, x3.arr, 49), (w.heap.size, arr6 x1 x2, 54)] : List Bx) → b.1 ≠ Br17_23 := by
       intro b hb
       simp only [List.mem_cons, List.not_mem_nil, or_false] at hb
       rcases hb with rfl | rfl | rfl | rfl
       ·
        exact hd22_23
       ·
        have := hlt _ (List.mem_iff_getElem?.2 ⟨0, rfl⟩); dsimp only at this ⊢; omega
       ·
        have := hlt _ (List.mem_iff_getElem?.2 ⟨1, rfl⟩); dsimp only at this ⊢; omega
       ·
        have := hlt _ (List.mem_iff_getElem?.2 ⟨2, rfl⟩); dsimp only at this ⊢; omega
      replace HS := Lib.hid (HS.out.addBox k23 hge23 (by rfl) hne23)
      replace HG := Lib.hid (HG.out.box (B := Br17_23) (T := 51) (cs := #[.bool false, .slice none 0 0, .slice none 0 0, .bool false, .slice none 0 0, .slice none 0 0]) (fun g hg hc => by obtain ⟨n, hn⟩ := List.mem_iff_getElem?.1 hg; have := ((hltg n g hn).lt hc).1; have := g23; omega))
      simp only [fillA, fillT, List.foldl_cons, List.foldl_nil, Act.put, nb4, nb5, nb6, e9, e10, e20, e21, e22, e23]
      clear hp hd hb hlt e9 e10 e20 e21 e22 e23 hltg
      refine rdA (i := 24) rfl (fun K hK => ?_)
      have b3e := (HS.out.at 1 _ _ _ rfl)
      have b3c0 := blk_cell b3e 0 (.bool false) rfl
      have b3c1 := blk_cell b3e 1 (.slice none 0 0) rfl
      have b3c2 := blk_cell b3e 2 (.slice none 0 0) rfl
      have b3c3 := blk_cell b3e 3 (.bool false) rfl
      have b3c4 := blk_cell b3e 4 (.slice none 0 0) rfl
      have b3c5 := blk_cell b3e 5 (.slice none 0 0) rfl
      have b3f0 := blk_frozen b3e 0
      have b3f1 := blk_frozen b3e 1
      have b3f2 := blk_frozen b3e 2
      have b3f3 := blk_frozen b3e 3
      have b3f4 := blk_frozen b3e 4
      have b3f5 := blk_frozen b3e 5
      have b3l := blk_lt b3e
      clear b3e
      go_simp
      refine hK.out _ _ ((((((HS.out).st_RR 1 r30 r30 z37a z37b rfl)).erase 1)).erase 0) (fun hh => ?_)
      clear hK K b3c0 b3c1 b3c2 b3c3 b3c4 b3c5 b3f0 b3f1 b3f2 b3f3 b3f4 b3f5 b3l
      try simp only [nbs, Act.put]
      generalize hW48 : ((((((wr17).setCell _ _).setCell _ _).setCell _ _).setCell _ _).setCell _ _).setCell _ _ = W48 at *
      replace HG := Lib.hid (((HG.out).st_RR (HS.out) 1 r30 r30 z37a z37b rfl).to hW48 (by (try simp only [nb5, nb6]); rfl))
      replace HS := Lib.hid (((HS.out).st_RR 1 r30 r30 z37a z37b rfl).to hW48 (by (try simp only [nb5, nb6]); rfl))
      clear hW48
      refine rdA (i := 25) rfl (fun K hK => ?_)
      have b4e := (HS.out.at 0 _ _ _ rfl)
      have b4c0 := blk_cell b4e 0 (.bool false) rfl
      have b4c1 := blk_cell b4e 1 (.slice none 0 0) rfl
      have b4c2 := blk_cell b4e 2 (.slice none 0 0) rfl
      have b4c3 := blk_cell b4e 3 (.bool false) rfl
      have b4c4 := blk_cell b4e 4 (.slice none 0 0) rfl
      have b4c5 := blk_cell b4e 5 (.slice none 0 0) rfl
      have b4f0 := blk_frozen b4e 0
      have b4f1 := blk_frozen b4e 1
      have b4f2 := blk_frozen b4e 2
      have b4f3 := blk_frozen b4e 3
      have b4f4 := blk_frozen b4e 4
      have b4f5 := blk_frozen b4e 5
      have b4l := blk_lt b4e
      clear b4e
      go_simp
      refine hK.out _ _ ((((((HS.out).st_RR 0 r30 r30 z39a z39b rfl)).erase 1)).erase 0) (fun hh => ?_)
      clear hK K b4c0 b4c1 b4c2 b4c3 b4c4 b4c5 b4f0 b4f1 b4f2 b4f3 b4f4 b4f5 b4l
      try simp only [nbs, Act.put]
      generalize hW49 : ((((((W48).setCell _ _).setCell _ _).setCell _ _).setCell _ _).setCell _ _).setCell _ _ = W49 at *
      replace HG := Lib.hid (((HG.out).st_RR (HS.out) 0 r30 r30 z39a z39b rfl).to hW49 (by (try simp only [nb5, nb6]); rfl))
      replace HS := Lib.hid (((HS.out).st_RR 0 r30 r30 z39a z39b rfl).to hW49 (by (try simp only [nb5, nb6]); rfl))
      clear hW49
      refine wpAnyH_done (by kernel_rfl) ?_ _
      go_wp2_with fail
      refine wp_region_held_drew (S := (fun w' => Sx w w' [(Br17_23, arr6 z39a z39b, 51), (Br17_22, arr6 z37a z37b, 51), (w14.heap.size, arr6 m1 m2, 51), (w.heap.size + 1, x3.arr, 49), (w.heap.size, arr6 x1 x2, 54)] [])) (by kernel_rfl) ((HS.out.drew).bare) (fun hh => ?_)
      replace HS := Lib.hid HS.out.drew
      replace HG := Lib.hid (HG.out.below (Below.refl _ _).drew)
      have HSW := Lib.hid HS.out.bel.size
      refine tkB (i := 0) (v := ?vk51) rfl ?hk51 ?rk51
      case hk51 => intro u hSu; go_simp <;> with_reducible rfl
      try simp only [nbs, Act.put]
      refine tkB (i := 1) (v := ?vk52) rfl ?hk52 ?rk52
      case hk52 => intro u hSu; (try dsimp only at hSu); obtain ⟨qb2c0, qb2c1, qb2c2, qb2c3, qb2c4, qb2c5, _⟩ := fac6 (x := m1) (y := m2) (hSu.at 2 _ _ _ rfl); clear hSu; go_simp <;> with_reducible rfl
      try simp only [nbs, Act.put]
      refine tkB (i := 2) (v := ?vk53) rfl ?hk53 ?rk53
      case hk53 => intro u hSu; go_simp <;> with_reducible rfl
      try simp only [nbs, Act.put]
      refine tkB (i := 3) (v := ?vk54) rfl ?hk54 ?rk54
      case hk54 => intro u hSu; go_simp <;> with_reducible rfl
      try simp only [nbs, Act.put]
      refine tkB (i := 4) (v := ?vk55) rfl ?hk55 ?rk55
      case hk55 => intro u hSu; (try dsimp only at hSu); obtain ⟨qb0c0, qb0c1, qb0c2, qb0c3, qb0c4, qb0c5, _⟩ := fac6 (x := x1) (y := x2) (hSu.at 4 _ _ _ rfl); clear hSu; go_simp <;> with_reducible rfl
      try simp only [nbs, Act.put]
      refine tkB (i := 5) (v := ?vk56) rfl ?hk56 ?rk56
      case hk56 => intro u hSu; go_simp <;> with_reducible rfl
      try simp only [nbs, Act.put]
      refine tkB (i := 6) (v := ?vk57) rfl ?hk57 ?rk57
      case hk57 => intro u hSu; go_simp <;> with_reducible rfl
      try simp only [nbs, Act.put]
      refine tkB (i := 7) (v := ?vk58) rfl ?hk58 ?rk58
      case hk58 => intro u hSu; go_simp <;> with_reducible rfl
      try simp only [nbs, Act.put]
      refine tkB (i := 8) (v := ?vk59) rfl ?hk59 ?rk59
      case hk59 => intro u hSu; (try dsimp only at hSu); have Ac0 := (hSu.bel.cell (p := ⟨b, off + i * 3, none⟩) HBL.out).trans A0.out; have Ac1 := (hSu.bel.cell (p := ⟨b, off + i * 3 + 1, none⟩) HBL.out).trans A1.out; have Ac2 := (hSu.bel.cell (p := ⟨b, off + i * 3 + 2, none⟩) HBL.out).trans A2.out; clear hSu; go_simp <;> with_reducible rfl
      try simp only [nbs, Act.put]
      refine tkB (i := 11) (v := ?vk60) rfl ?hk60 ?rk60
      case hk60 => intro u hSu; go_simp <;> with_reducible rfl
      try simp only [nbs, Act.put]
      refine tkB (i := 12) (v := ?vk61) rfl ?hk61 ?rk61
      case hk61 => intro u hSu; (try dsimp only at hSu); obtain ⟨qb2c0, qb2c1, qb2c2, qb2c3, qb2c4, qb2c5, _⟩ := fac6 (x := m1) (y := m2) (hSu.at 2 _ _ _ rfl); clear hSu; go_simp <;> with_reducible rfl
      try simp only [nbs, Act.put]
      refine tkB (i := 13) (v := ?vk62) rfl ?hk62 ?rk62
      case hk62 => intro u hSu; go_simp <;> with_reducible rfl
      try simp only [nbs, Act.put]
      refine tkB (i := 14) (v := ?vk63) rfl ?hk63 ?rk63
      case hk63 => intro u hSu; go_simp <;> with_reducible rfl
      try simp only [nbs, Act.put]
      refine tkB (i := 15) (v := ?vk64) rfl ?hk64 ?rk64
      case hk64 => intro u hSu; (try dsimp only at hSu); obtain ⟨qb0c0, qb0c1, qb0c2, qb0c3, qb0c4, qb0c5, _⟩ := fac6 (x := x1) (y := x2) (hSu.at 4 _ _ _ rfl); clear hSu; go_simp <;> with_reducible rfl
      try simp only [nbs, Act.put]
      refine tkB (i := 16) (v := ?vk65) rfl ?hk65 ?rk65
      case hk65 => intro u hSu; go_simp <;> with_reducible rfl
      try simp only [nbs, Act.put]
      refine tkB (i := 17) (v := ?vk66) rfl ?hk66 ?rk66
      case hk66 => intro u hSu; go_simp <;> with_reducible rfl
      try simp only [nbs, Act.put]
      refine tkB (i := 18) (v := ?vk67) rfl ?hk67 ?rk67
      case hk67 => intro u hSu; go_simp <;> with_reducible rfl
      try simp only [nbs, Act.put]
      refine tkB (i := 19) (v := ?vk68) rfl ?hk68 ?rk68
      case hk68 => intro u hSu; (try dsimp only at hSu); have Ac0 := (hSu.bel.cell (p := ⟨b, off + i * 3, none⟩) HBL.out).trans A0.out; have Ac1 := (hSu.bel.cell (p := ⟨b, off + i * 3 + 1, none⟩) HBL.out).trans A1.out; have Ac2 := (hSu.bel.cell (p := ⟨b, off + i * 3 + 2, none⟩) HBL.out).trans A2.out; clear hSu; go_simp <;> with_reducible rfl
      try simp only [nbs, Act.put]
      refine wpAnyH_modular [9, 10, 20, 21, 22, 23] [9, 10, 20, 21, 22, 23] [] [64, 65, 75, 76, 15, 16] #[true, true, true, true, true, true, true, true, true, true, true, true, true, true, true, true, true, true, true, true, true, true, true, true, false, false] 2 [(9, 64), (10, 65), (20, 75), (21, 76), (22, 15), (23, 16)] [(9, []), (10, [9]), (20, [10]), (21, [20]), (22, []), (23, [])] [22, 23] [(9, fun v w => ∃ z69 : R3, v = z69.val ∧ Fr false w z69.val (towQ t1 l0 a)), (10, fun v w => ∃ z70a z70b : R3, v = .agg #[.bool z70a.b, .slice z70a.a z70a.n z70a.c, .slice z70a.d z70a.m z70a.e, .bool z70b.b, .slice z70b.a z70b.n z70b.c, .slice z70b.d z70b.m z70b.e] ∧ Fr false w z70a.val (towQ t1 l0 a) ∧ Fr false w z70b.val (towQ t1 l0 a)), (20, fun v w => ∃ z71 : R3, v = z71.val ∧ Fr false w z71.val (towQ t1 l1 a)), (21, fun v w => ∃ z72a z72b : R3, v = .agg #[.bool z72a.b, .slice z72a.a z72a.n z72a.c, .slice z72a.d z72a.m z72a.e, .bool z72b.b, .slice z72b.a z72b.n z72b.c, .slice z72b.d z72b.m z72b.e] ∧ Fr false w z72a.val (towQ t1 l1 a) ∧ Fr false w z72b.val (towQ t1 l1 a)), (22, fun v w => ∃ Br50_22 : Nat, v = .pointer (some ⟨Br50_22, 0, none⟩) ∧ W49.drew.heap.size ≤ Br50_22 ∧ w.heap[Br50_22]? = some (.cells #[.bool false, .slice none 0 0, .slice none 0 0, .bool false, .slice none 0 0, .slice none 0 0] 51 (0, 0))), (23, fun v w => ∃ Br50_23 : Nat, v = .pointer (some ⟨Br50_23, 0, none⟩) ∧ W49.drew.heap.size ≤ Br50_23 ∧ w.heap[Br50_23]? = some (.cells #[.bool false, .slice none 0 0, .slice none 0 0, .bool false, .slice none 0 0, .slice none 0 0] 51 (0, 0)))]
       rfl (by kernel_rfl) (by decide) rfl ⟨(fun v w w' hb ⟨z0, e, h0⟩ => ⟨z0, e, Fr.below h0 hb⟩), ⟨(fun v w w' hb ⟨z0, z1, e, h0, h1⟩ => ⟨z0, z1, e, Fr.below h0 hb, Fr.below h1 hb⟩), ⟨(fun v w w' hb ⟨z0, e, h0⟩ => ⟨z0, e, Fr.below h0 hb⟩), ⟨(fun v w w' hb ⟨z0, z1, e, h0, h1⟩ => ⟨z0, z1, e, Fr.below h0 hb, Fr.below h1 hb⟩), ⟨(fun v w w' hb ⟨B, e, g, k⟩ => ⟨B, e, g, blk_keep k hb (blk_lt k)⟩), ⟨(fun v w w' hb ⟨B, e, g, k⟩ => ⟨B, e, g, blk_keep k hb (blk_lt k)⟩), trivial⟩⟩⟩⟩⟩⟩ ⟨fun v w ⟨B, e, g, k⟩ => ⟨B, e, blk_lt k⟩, ⟨fun v w ⟨B, e, g, k⟩ => ⟨B, e, blk_lt k⟩, trivial⟩⟩ (fun w' hb => Sx.below hh hb) ⟨?_, ?_, ?_, ?_, ?_, ?_, trivial⟩ trivial (by decide) ?_
      ·
       refine StepM.of rfl (fun f w' hb hp K hK => ?_)
       have HSB := HS
       replace HS := Lib.hid (HS.out.below hb)
       simp only [fillA, fillT, List.foldl_cons, List.foldl_nil, Act.put, nb4, nb5, nb6]
       have a73 := HS.out.q 7 _ _ rfl
       have a74 := HS.out.q 11 _ _ rfl
       have a75 := HS.out.q 6 _ _ rfl
       go_simp
       go_wp2_with (go_at_call 153; (with_reducible refine (toward_any t1 l0 a _ _ _ _ a73 a74 a75 ST1.out SL0.out SA.out).mono ?_); rintro e w69 ⟨v69, rfl, hv69, hb69⟩; obtain ⟨z69, rfl⟩ := hv69.open3)
       exact hK.out _ _ (z69.val) (by simp only [fillA, fillT, List.foldl_cons, List.foldl_nil, Act.put, nb4, nb5, nb6, nb1, nb2, nb3]) ⟨z69, rfl, hv69⟩ (fun h => absurd h (by decide)) hb69
      ·
       refine StepM.of rfl (fun f w' hb hp K hK => ?_)
       obtain ⟨z69, e9, h9_0⟩ : ∃ z69 : R3, f 64 = z69.val ∧ Fr false w' z69.val (towQ t1 l0 a) := hp 9 (by decide)
       have HSB := HS
       replace HS := Lib.hid (HS.out.below hb)
       replace HS := Lib.hid (HS.out.addQ h9_0)
       simp only [fillA, fillT, List.foldl_cons, List.foldl_nil, Act.put, nb4, nb5, nb6, e9]
       have a76 := HS.out.q 0 _ _ rfl
       go_simp
       go_wp2_with (go_at_call 55; (with_reducible refine (qonly_any (towQ t1 l0 a) _ _ a76).mono ?_); rintro e w70 ⟨v70, rfl, ⟨z70a, z70b, rfl, hv70, hw70⟩, hb70⟩)
       exact hK.out _ _ (.agg #[.bool z70a.b, .slice z70a.a z70a.n z70a.c, .slice z70a.d z70a.m z70a.e, .bool z70b.b, .slice z70b.a z70b.n z70b.c, .slice z70b.d z70b.m z70b.e]) (by simp only [fillA, fillT, List.foldl_cons, List.foldl_nil, Act.put, nb4, nb5, nb6, nb1, nb2, nb3, e9]) ⟨z70a, z70b, rfl, hv70, hw70⟩ (fun h => absurd h (by decide)) hb70
      ·
       refine StepM.of rfl (fun f w' hb hp K hK => ?_)
       have HSB := HS
       replace HS := Lib.hid (HS.out.below hb)
       simp only [fillA, fillT, List.foldl_cons, List.foldl_nil, Act.put, nb4, nb5, nb6]
       have a77 := HS.out.q 7 _ _ rfl
       have a78 := HS.out.q 10 _ _ rfl
       have a79 := HS.out.q 6 _ _ rfl
       go_simp
       go_wp2_with (go_at_call 153; (with_reducible refine (toward_any t1 l1 a _ _ _ _ a77 a78 a79 ST1.out SL1.out SA.out).mono ?_); rintro e w71 ⟨v71, rfl, hv71, hb71⟩; obtain ⟨z71, rfl⟩ := hv71.open3)
       exact hK.out _ _ (z71.val) (by simp only [fillA, fillT, List.foldl_cons, List.foldl_nil, Act.put, nb4, nb5, nb6, nb1, nb2, nb3]) ⟨z71, rfl, hv71⟩ (fun h => absurd h (by decide)) hb71
      ·
       refine StepM.of rfl (fun f w' hb hp K hK => ?_)
       obtain ⟨z71, e20, h20_0⟩ : ∃ z71 : R3, f 75 = z71.val ∧ Fr false w' z71.val (towQ t1 l1 a) := hp 20 (by decide)
       have HSB := HS
       replace HS := Lib.hid (HS.out.below hb)
       replace HS := Lib.hid (HS.out.addQ h20_0)
       simp only [fillA, fillT, List.foldl_cons, List.foldl_nil, Act.put, nb4, nb5, nb6, e20]
       have a80 := HS.out.q 0 _ _ rfl
       go_simp
       go_wp2_with (go_at_call 55; (with_reducible refine (qonly_any (towQ t1 l1 a) _ _ a80).mono ?_); rintro e w72 ⟨v72, rfl, ⟨z72a, z72b, rfl, hv72, hw72⟩, hb72⟩)
       exact hK.out _ _ (.agg #[.bool z72a.b, .slice z72a.a z72a.n z72a.c, .slice z72a.d z72a.m z72a.e, .bool z72b.b, .slice z72b.a z72b.n z72b.c, .slice z72b.d z72b.m z72b.e]) (by simp only [fillA, fillT, List.foldl_cons, List.foldl_nil, Act.put, nb4, nb5, nb6, nb1, nb2, nb3, e20]) ⟨z72a, z72b, rfl, hv72, hw72⟩ (fun h => absurd h (by decide)) hb72
      ·
       refine StepM.of rfl (fun f w' hb hp K hK => ?_)
       have HSB := HS
       replace HS := Lib.hid (HS.out.below hb)
       simp only [fillA, fillT, List.foldl_cons, List.foldl_nil, Act.put, nb4, nb5, nb6]
       go_simp
       exact hK.out _ _ (.pointer (some ⟨w'.heap.size, 0, none⟩)) (by simp only [fillA, fillT, List.foldl_cons, List.foldl_nil, Act.put, nb4, nb5, nb6, nb1, nb2, nb3]) ⟨_, rfl, hb.size, blk_new _ _ _⟩ (fun _ => rfl) (below1 w' _)
      ·
       refine StepM.of rfl (fun f w' hb hp K hK => ?_)
       have HSB := HS
       replace HS := Lib.hid (HS.out.below hb)
       simp only [fillA, fillT, List.foldl_cons, List.foldl_nil, Act.put, nb4, nb5, nb6]
       go_simp
       exact hK.out _ _ (.pointer (some ⟨w'.heap.size, 0, none⟩)) (by simp only [fillA, fillT, List.foldl_cons, List.foldl_nil, Act.put, nb4, nb5, nb6, nb1, nb2, nb3]) ⟨_, rfl, hb.size, blk_new _ _ _⟩ (fun _ => rfl) (below1 w' _)
      ·
       intro f wr50 hb hp hd
       obtain ⟨z69, e9, h9_0⟩ : ∃ z69 : R3, f 64 = z69.val ∧ Fr false wr50 z69.val (towQ t1 l0 a) := hp 9 (by decide)
       obtain ⟨z70a, z70b, e10, h10_0, h10_1⟩ : ∃ z70a z70b : R3, f 65 = .agg #[.bool z70a.b, .slice z70a.a z70a.n z70a.c, .slice z70a.d z70a.m z70a.e, .bool z70b.b, .slice z70b.a z70b.n z70b.c, .slice z70b.d z70b.m z70b.e] ∧ Fr false wr50 z70a.val (towQ t1 l0 a) ∧ Fr false wr50 z70b.val (towQ t1 l0 a) := hp 10 (by decide)
       obtain ⟨z71, e20, h20_0⟩ : ∃ z71 : R3, f 75 = z71.val ∧ Fr false wr50 z71.val (towQ t1 l1 a) := hp 20 (by decide)
       obtain ⟨z72a, z72b, e21, h21_0, h21_1⟩ : ∃ z72a z72b : R3, f 76 = .agg #[.bool z72a.b, .slice z72a.a z72a.n z72a.c, .slice z72a.d z72a.m z72a.e, .bool z72b.b, .slice z72b.a z72b.n z72b.c, .slice z72b.d z72b.m z72b.e] ∧ Fr false wr50 z72a.val (towQ t1 l1 a) ∧ Fr false wr50 z72b.val (towQ t1 l1 a) := hp 21 (by decide)
       obtain ⟨Br50_22, e22, g22, k22⟩ : ∃ Br50_22 : Nat, f 15 = .pointer (some ⟨Br50_22, 0, none⟩) ∧ W49.drew.heap.size ≤ Br50_22 ∧ wr50.heap[Br50_22]? = some (.cells #[.bool false, .slice none 0 0, .slice none 0 0, .bool false, .slice none 0 0, .slice none 0 0] 51 (0, 0)) := hp 22 (by decide)
       obtain ⟨Br50_23, e23, g23, k23⟩ : ∃ Br50_23 : Nat, f 16 = .pointer (some ⟨Br50_23, 0, none⟩) ∧ W49.drew.heap.size ≤ Br50_23 ∧ wr50.heap[Br50_23]? = some (.cells #[.bool false, .slice none 0 0, .slice none 0 0, .bool false, .slice none 0 0, .slice none 0 0] 51 (0, 0)) := hp 23 (by decide)
       have hd22_23 : Br50_22 ≠ Br50_23 := fun h => hd 22 23 (by decide) (by decide) (by decide) (by decide) (by decide) (by show f 15 = f 16; rw [e22, e23, h])
       replace hh := Sx.below hh hb
       have hlt := HS.out.lt
       replace HS := Lib.hid (HS.out.below hb)
       have hltg := HG.out.row
       replace HG := Lib.hid (HG.out.below hb)
       replace HS := Lib.hid (HS.out.addQ h9_0)
       replace HS := Lib.hid (HS.out.addQ h10_0)
       replace HS := Lib.hid (HS.out.addQ h10_1)
       replace HS := Lib.hid (HS.out.addQ h20_0)
       replace HS := Lib.hid (HS.out.addQ h21_0)
       replace HS := Lib.hid (HS.out.addQ h21_1)
       have hge22 : w.heap.size ≤ Br50_22 := Nat.le_trans HSW.out g22
       have hne22 : ∀ b, b ∈ ([(Br17_23, arr6 z39a z39b, 51), (Br17_22, arr6 z37a z37b, 51), (w14.heap.size, arr6 m1 m2, 51), (w.heap.size + 1, x3.arr, 49), (w.heap.size, arr6 x1 x2, 54)] : List Bx) → b.1 ≠ Br50_22 := by
        intro b hb
        simp only [List.mem_cons, List.not_mem_nil, or_false] at hb
        rcases hb with rfl | rfl | rfl | rfl | rfl
        ·
         have := hlt _ (List.mem_iff_getElem?.2 ⟨0, rfl⟩); dsimp only at this ⊢; omega
        ·
         have := hlt _ (List.mem_iff_getElem?.2 ⟨1, rfl⟩); dsimp only at this ⊢; omega
        ·
         have := hlt _ (List.mem_iff_getElem?.2 ⟨2, rfl⟩); dsimp only at this ⊢; omega
        ·
         have := hlt _ (List.mem_iff_getElem?.2 ⟨3, rfl⟩); dsimp only at this ⊢; omega
        ·
         have := hlt _ (List.mem_iff_getElem?.2 ⟨4, rfl⟩); dsimp only at this ⊢; omega
       replace HS := Lib.hid (HS.out.addBox k22 hge22 (by rfl) hne22)
       replace HG := Lib.hid (HG.out.box (B := Br50_22) (T := 51) (cs := #[.bool false, .slice none 0 0, .slice none 0 0, .bool false, .slice none 0 0, .slice none 0 0]) (fun g hg hc => by obtain ⟨n, hn⟩ := List.mem_iff_getElem?.1 hg; have := ((hltg n g hn).lt hc).1; have := g22; omega))
       have hge23 : w.heap.size ≤ Br50_23 := Nat.le_trans HSW.out g23
       have hne23 : ∀ b, b ∈ ([(Br50_22, #[.bool false, .slice none 0 0, .slice none 0 0, .bool false, .slice none 0 0, .slice none 0 0], 51), (Br17_23, arr6 z39a z39b, 51), (Br17_22, arr6 z37a z37b, 51), (w14.heap.size, arr6 m1 m2, 51), (w.heap.size + 1, x3.arr, 49), (w.heap.size, arr6 x1 x2, 54)] : List Bx) → b.1 ≠ Br50_23 := by
        intro b hb
        simp only [List.mem_cons, List.not_mem_nil, or_false] at hb
        rcases hb with rfl | rfl | rfl | rfl | rfl | rfl
        ·
         exact hd22_23
        ·
         have := hlt _ (List.mem_iff_getElem?.2 ⟨0, rfl⟩); dsimp only at this ⊢; omega
        ·
         have := hlt _ (List.mem_iff_getElem?.2 ⟨1, rfl⟩); dsimp only at this ⊢; omega
        ·
         have := hlt _ (List.mem_iff_getElem?.2 ⟨2, rfl⟩); dsimp only at this ⊢; omega
        ·
         have := hlt _ (List.mem_iff_getElem?.2 ⟨3, rfl⟩); dsimp only at this ⊢; omega
        ·
         have := hlt _ (List.mem_iff_getElem?.2 ⟨4, rfl⟩); dsimp only at this ⊢; omega
       replace HS := Lib.hid (HS.out.addBox k23 hge23 (by rfl) hne23)
       replace HG := Lib.hid (HG.out.box (B := Br50_23) (T := 51) (cs := #[.bool false, .slice none 0 0, .slice none 0 0, .bool false, .slice none 0 0, .slice none 0 0]) (fun g hg hc => by obtain ⟨n, hn⟩ := List.mem_iff_getElem?.1 hg; have := ((hltg n g hn).lt hc).1; have := g23; omega))
       simp only [fillA, fillT, List.foldl_cons, List.foldl_nil, Act.put, nb4, nb5, nb6, e9, e10, e20, e21, e22, e23]
       clear hp hd hb hlt e9 e10 e20 e21 e22 e23 hltg
       refine rdA (i := 24) rfl (fun K hK => ?_)
       have b5e := (HS.out.at 1 _ _ _ rfl)
       have b5c0 := blk_cell b5e 0 (.bool false) rfl
       have b5c1 := blk_cell b5e 1 (.slice none 0 0) rfl
       have b5c2 := blk_cell b5e 2 (.slice none 0 0) rfl
       have b5c3 := blk_cell b5e 3 (.bool false) rfl
       have b5c4 := blk_cell b5e 4 (.slice none 0 0) rfl
       have b5c5 := blk_cell b5e 5 (.slice none 0 0) rfl
       have b5f0 := blk_frozen b5e 0
       have b5f1 := blk_frozen b5e 1
       have b5f2 := blk_frozen b5e 2
       have b5f3 := blk_frozen b5e 3
       have b5f4 := blk_frozen b5e 4
       have b5f5 := blk_frozen b5e 5
       have b5l := blk_lt b5e
       clear b5e
       go_simp
       refine hK.out _ _ ((((((HS.out).st_RR 1 r30 r30 z70a z70b rfl)).erase 1)).erase 0) (fun hh => ?_)
       clear hK K b5c0 b5c1 b5c2 b5c3 b5c4 b5c5 b5f0 b5f1 b5f2 b5f3 b5f4 b5f5 b5l
       try simp only [nbs, Act.put]
       generalize hW81 : ((((((wr50).setCell _ _).setCell _ _).setCell _ _).setCell _ _).setCell _ _).setCell _ _ = W81 at *
       replace HG := Lib.hid (((HG.out).st_RR (HS.out) 1 r30 r30 z70a z70b rfl).to hW81 (by (try simp only [nb5, nb6]); rfl))
       replace HS := Lib.hid (((HS.out).st_RR 1 r30 r30 z70a z70b rfl).to hW81 (by (try simp only [nb5, nb6]); rfl))
       clear hW81
       refine rdA (i := 25) rfl (fun K hK => ?_)
       have b6e := (HS.out.at 0 _ _ _ rfl)
       have b6c0 := blk_cell b6e 0 (.bool false) rfl
       have b6c1 := blk_cell b6e 1 (.slice none 0 0) rfl
       have b6c2 := blk_cell b6e 2 (.slice none 0 0) rfl
       have b6c3 := blk_cell b6e 3 (.bool false) rfl
       have b6c4 := blk_cell b6e 4 (.slice none 0 0) rfl
       have b6c5 := blk_cell b6e 5 (.slice none 0 0) rfl
       have b6f0 := blk_frozen b6e 0
       have b6f1 := blk_frozen b6e 1
       have b6f2 := blk_frozen b6e 2
       have b6f3 := blk_frozen b6e 3
       have b6f4 := blk_frozen b6e 4
       have b6f5 := blk_frozen b6e 5
       have b6l := blk_lt b6e
       clear b6e
       go_simp
       refine hK.out _ _ ((((((HS.out).st_RR 0 r30 r30 z72a z72b rfl)).erase 1)).erase 0) (fun hh => ?_)
       clear hK K b6c0 b6c1 b6c2 b6c3 b6c4 b6c5 b6f0 b6f1 b6f2 b6f3 b6f4 b6f5 b6l
       try simp only [nbs, Act.put]
       generalize hW82 : ((((((W81).setCell _ _).setCell _ _).setCell _ _).setCell _ _).setCell _ _).setCell _ _ = W82 at *
       replace HG := Lib.hid (((HG.out).st_RR (HS.out) 0 r30 r30 z72a z72b rfl).to hW82 (by (try simp only [nb5, nb6]); rfl))
       replace HS := Lib.hid (((HS.out).st_RR 0 r30 r30 z72a z72b rfl).to hW82 (by (try simp only [nb5, nb6]); rfl))
       clear hW82
       refine wpAnyH_done (by kernel_rfl) ?_ _
       go_wp2_with fail
       refine wp_region_held_drew (S := (fun w' => Sx w w' [(Br50_23, arr6 z72a z72b, 51), (Br50_22, arr6 z70a z70b, 51), (Br17_23, arr6 z39a z39b, 51), (Br17_22, arr6 z37a z37b, 51), (w.heap.size + 1, x3.arr, 49), (w.heap.size, arr6 x1 x2, 54)] [])) (by kernel_rfl) ((HS.out.drew).erase 4) (fun hh => ?_)
       replace HS := Lib.hid HS.out.drew
       replace HG := Lib.hid (HG.out.below (Below.refl _ _).drew)
       refine tkB (i := 0) (v := ?vk84) rfl ?hk84 ?rk84
       case hk84 => intro u hSu; (try dsimp only at hSu); obtain ⟨qb3c0, qb3c1, qb3c2, qb3c3, qb3c4, qb3c5, _⟩ := fac6 (x := z37a) (y := z37b) (hSu.at 3 _ _ _ rfl); clear hSu; go_simp <;> with_reducible rfl
       try simp only [nbs, Act.put]
       refine tkB (i := 1) (v := ?vk85) rfl ?hk85 ?rk85
       case hk85 => intro u hSu; (try dsimp only at hSu); obtain ⟨qb4c0, qb4c1, qb4c2, qb4c3, qb4c4, qb4c5, _⟩ := fac6 (x := z39a) (y := z39b) (hSu.at 2 _ _ _ rfl); clear hSu; go_simp <;> with_reducible rfl
       try simp only [nbs, Act.put]
       refine tkB (i := 3) (v := ?vk86) rfl ?hk86 ?rk86
       case hk86 => intro u hSu; (try dsimp only at hSu); obtain ⟨qb5c0, qb5c1, qb5c2, qb5c3, qb5c4, qb5c5, _⟩ := fac6 (x := z70a) (y := z70b) (hSu.at 1 _ _ _ rfl); clear hSu; go_simp <;> with_reducible rfl
       try simp only [nbs, Act.put]
       refine tkB (i := 4) (v := ?vk87) rfl ?hk87 ?rk87
       case hk87 => intro u hSu; (try dsimp only at hSu); obtain ⟨qb6c0, qb6c1, qb6c2, qb6c3, qb6c4, qb6c5, _⟩ := fac6 (x := z72a) (y := z72b) (hSu.at 0 _ _ _ rfl); clear hSu; go_simp <;> with_reducible rfl
       try simp only [nbs, Act.put]
       refine tkB (i := 7) (v := ?vk88) rfl ?hk88 ?rk88
       case hk88 => intro u hSu; go_simp <;> with_reducible rfl
       try simp only [nbs, Act.put]
       refine rdA (i := 2) rfl (fun K hK => ?_)
       go_simp
       have a90 := HS.out.q 10 _ _ rfl
       have a91 := HS.out.q 9 _ _ rfl
       have a92 := HS.out.q 7 _ _ rfl
       have a93 := HS.out.q 6 _ _ rfl
       go_wp2_with (go_at_call 54; (with_reducible refine (qhull_any (towQ t0 l0 a) (towQ t0 l0 a) (towQ t0 l1 a) (towQ t0 l1 a) _ _ _ (rngQ a90 a91) (rngQ a92 a93) (szQ_mono (szQ_of (szR_mono (towQ_sz ST0.out SL0.out SA.out) (show _ ≤ 10000 by omega))) (by omega)) (szQ_mono (szQ_of (szR_mono (towQ_sz ST0.out SL0.out SA.out) (show _ ≤ 10000 by omega))) (by omega)) (szQ_mono (szQ_of (szR_mono (towQ_sz ST0.out SL1.out SA.out) (show _ ≤ 10000 by omega))) (by omega)) (szQ_mono (szQ_of (szR_mono (towQ_sz ST0.out SL1.out SA.out) (show _ ≤ 10000 by omega))) (by omega))).mono ?_); rintro e w89 ⟨v89, rfl, ⟨z89a, z89b, rfl, hv89, hw89⟩, hb89⟩)
       refine hK.out _ _ (Sx.below hh hb89) (fun hh => ?_)
       clear hK K
       try simp only [nbs, Act.put]
       replace HS := Lib.hid (HS.out.below hb89)
       replace HG := Lib.hid (HG.out.below hb89)
       clear hb89 a90 a91 a92 a93
       replace HS := Lib.hid (HS.out.addQ hv89)
       clear hv89
       replace HS := Lib.hid (HS.out.addQ hw89)
       clear hw89
       refine rdA (i := 5) rfl (fun K hK => ?_)
       go_simp
       have a95 := HS.out.q 6 _ _ rfl
       have a96 := HS.out.q 5 _ _ rfl
       have a97 := HS.out.q 3 _ _ rfl
       have a98 := HS.out.q 2 _ _ rfl
       go_wp2_with (go_at_call 54; (with_reducible refine (qhull_any (towQ t1 l0 a) (towQ t1 l0 a) (towQ t1 l1 a) (towQ t1 l1 a) _ _ _ (rngQ a95 a96) (rngQ a97 a98) (szQ_mono (szQ_of (szR_mono (towQ_sz ST1.out SL0.out SA.out) (show _ ≤ 10000 by omega))) (by omega)) (szQ_mono (szQ_of (szR_mono (towQ_sz ST1.out SL0.out SA.out) (show _ ≤ 10000 by omega))) (by omega)) (szQ_mono (szQ_of (szR_mono (towQ_sz ST1.out SL1.out SA.out) (show _ ≤ 10000 by omega))) (by omega)) (szQ_mono (szQ_of (szR_mono (towQ_sz ST1.out SL1.out SA.out) (show _ ≤ 10000 by omega))) (by omega))).mono ?_); rintro e w94 ⟨v94, rfl, ⟨z94a, z94b, rfl, hv94, hw94⟩, hb94⟩)
       refine hK.out _ _ (Sx.below hh hb94) (fun hh => ?_)
       clear hK K
       try simp only [nbs, Act.put]
       replace HS := Lib.hid (HS.out.below hb94)
       replace HG := Lib.hid (HG.out.below hb94)
       clear hb94 a95 a96 a97 a98
       replace HS := Lib.hid (HS.out.addQ hv94)
       clear hv94
       replace HS := Lib.hid (HS.out.addQ hw94)
       clear hw94
       refine rdA (i := 6) rfl (fun K hK => ?_)
       go_simp
       have a100 := HS.out.q 3 _ _ rfl
       have a101 := HS.out.q 2 _ _ rfl
       have a102 := HS.out.q 1 _ _ rfl
       have a103 := HS.out.q 0 _ _ rfl
       go_wp2_with (go_at_call 54; (with_reducible refine (qhull_any (loQ (towQ t0 l0 a) (towQ t0 l1 a)) (hiQ (towQ t0 l0 a) (towQ t0 l1 a)) (loQ (towQ t1 l0 a) (towQ t1 l1 a)) (hiQ (towQ t1 l0 a) (towQ t1 l1 a)) _ _ _ (rngQ a100 a101) (rngQ a102 a103) (szQ_mono (szQ_of (loN_sz (szR_mono (towQ_sz ST0.out SL0.out SA.out) (show _ ≤ 10000 by omega)) (szR_mono (towQ_sz ST0.out SL1.out SA.out) (show _ ≤ 10000 by omega)))) (by omega)) (szQ_mono (szQ_of (hiN_sz (szR_mono (towQ_sz ST0.out SL0.out SA.out) (show _ ≤ 10000 by omega)) (szR_mono (towQ_sz ST0.out SL1.out SA.out) (show _ ≤ 10000 by omega)))) (by omega)) (szQ_mono (szQ_of (loN_sz (szR_mono (towQ_sz ST1.out SL0.out SA.out) (show _ ≤ 10000 by omega)) (szR_mono (towQ_sz ST1.out SL1.out SA.out) (show _ ≤ 10000 by omega)))) (by omega)) (szQ_mono (szQ_of (hiN_sz (szR_mono (towQ_sz ST1.out SL0.out SA.out) (show _ ≤ 10000 by omega)) (szR_mono (towQ_sz ST1.out SL1.out SA.out) (show _ ≤ 10000 by omega)))) (by omega))).mono ?_); rintro e w99 ⟨v99, rfl, ⟨z99a, z99b, rfl, hv99, hw99⟩, hb99⟩)
       refine hK.out _ _ (Sx.below hh hb99) (fun hh => ?_)
       clear hK K
       try simp only [nbs, Act.put]
       replace HS := Lib.hid (HS.out.below hb99)
       replace HG := Lib.hid (HG.out.below hb99)
       clear hb99 a100 a101 a102 a103
       replace HS := Lib.hid (HS.out.addQ hv99)
       clear hv99
       replace HS := Lib.hid (HS.out.addQ hw99)
       clear hw99
       refine rdA (i := 8) rfl (fun K hK => ?_)
       go_simp
       have a105 := HS.out.q 1 _ _ rfl
       have a106 := HS.out.q 0 _ _ rfl
       go_wp2_with (go_at_call 125; (with_reducible refine (qround_any (loQ (loQ (towQ t0 l0 a) (towQ t0 l1 a)) (loQ (towQ t1 l0 a) (towQ t1 l1 a))) (hiQ (hiQ (towQ t0 l0 a) (towQ t0 l1 a)) (hiQ (towQ t1 l0 a) (towQ t1 l1 a))) k _ _ (rngQ a105 a106) HK.out z HZK.out (szR_mono (loN_sz (loN_sz (szR_mono (towQ_sz ST0.out SL0.out SA.out) (show _ ≤ 10000 by omega)) (szR_mono (towQ_sz ST0.out SL1.out SA.out) (show _ ≤ 10000 by omega))) (loN_sz (szR_mono (towQ_sz ST1.out SL0.out SA.out) (show _ ≤ 10000 by omega)) (szR_mono (towQ_sz ST1.out SL1.out SA.out) (show _ ≤ 10000 by omega)))) (by omega)) (szR_mono (hiN_sz (hiN_sz (szR_mono (towQ_sz ST0.out SL0.out SA.out) (show _ ≤ 10000 by omega)) (szR_mono (towQ_sz ST0.out SL1.out SA.out) (show _ ≤ 10000 by omega))) (hiN_sz (szR_mono (towQ_sz ST1.out SL0.out SA.out) (show _ ≤ 10000 by omega)) (szR_mono (towQ_sz ST1.out SL1.out SA.out) (show _ ≤ 10000 by omega)))) (by omega))).mono ?_); rintro e w104 ⟨v104, rfl, ⟨z104a, z104b, rfl, hv104, hw104⟩, hb104⟩)
       refine hK.out _ _ (Sx.below hh hb104) (fun hh => ?_)
       clear hK K
       try simp only [nbs, Act.put]
       replace HS := Lib.hid (HS.out.below hb104)
       replace HG := Lib.hid (HG.out.below hb104)
       clear hb104 a105 a106
       replace HS := Lib.hid (HS.out.addQ hv104)
       clear hv104
       replace HS := Lib.hid (HS.out.addQ hw104)
       clear hw104
       refine rdA (i := 9) rfl (fun K hK => ?_)
       obtain ⟨b2c0, b2c1, b2c2, b2c3, b2c4, b2c5, b2f0, b2f1, b2f2, b2f3, b2f4, b2f5⟩ := fac6 (x := m1) (y := m2) (HS.out.at 4 _ _ _ rfl)
       have b2l := blk_lt (HS.out.at 4 _ _ _ rfl)
       go_simp
       refine hK.out _ _ ((((HS.out).st_RR 4 m1 m2 z104a z104b rfl)).erase 4) (fun hh => ?_)
       clear hK K b2c0 b2c1 b2c2 b2c3 b2c4 b2c5 b2f0 b2f1 b2f2 b2f3 b2f4 b2f5 b2l
       try simp only [nbs, Act.put]
       generalize hW107 : ((((((w104).setCell _ _).setCell _ _).setCell _ _).setCell _ _).setCell _ _).setCell _ _ = W107 at *
       replace HG := Lib.hid (((HG.out).st_RR (HS.out) 4 m1 m2 z104a z104b rfl).to hW107 (by (try simp only [nb5, nb6]); rfl))
       replace HS := Lib.hid (((HS.out).st_RR 4 m1 m2 z104a z104b rfl).to hW107 (by (try simp only [nb5, nb6]); rfl))
       clear hW107
       refine wpAnyH_done (by kernel_rfl) ?_ _
       go_upto_region 13 with fail
       obtain ⟨b2c0, b2c1, b2c2, b2c3, b2c4, b2c5, b2f0, b2f1, b2f2, b2f3, b2f4, b2f5⟩ := fac6 (x := z104a) (y := z104b) (HS.out.at 4 _ _ _ rfl)
       have b2l := blk_lt (HS.out.at 4 _ _ _ rfl)
       have HSA := Lib.hid ((HS.out).alloc (B := W107.heap.size) (T := 51) (cs := #[.bool z104a.b, .slice z104a.a z104a.n z104a.c, .slice z104a.d z104a.m z104a.e, .bool z104b.b, .slice z104b.a z104b.n z104b.c, .slice z104b.d z104b.m z104b.e]) rfl (by rfl))
       have HGA := Lib.hid ((HG.out).alloc (B := W107.heap.size) (T := 51) (cs := #[.bool z104a.b, .slice z104a.a z104a.n z104a.c, .slice z104a.d z104a.m z104a.e, .bool z104b.b, .slice z104b.a z104b.n z104b.c, .slice z104b.d z104b.m z104b.e]) rfl)
       obtain ⟨ii108, hi108, hz108, hs108, hy108⟩ := info_parts inf_wingworksref01_S
       have hzd108 : ∀ u ∈ (Value.agg #[.bool false, .slice none 0 0, .slice none 0 0, .bool false, .slice none 0 0, .slice none 0 0]).cells.toList, noDig u := by
        intro u hu
        have hu : u ∈ [.bool false, .slice none 0 0, .slice none 0 0, .bool false, .slice none 0 0, .slice none 0 0] := hu
        simp only [List.mem_cons, List.not_mem_nil, or_false] at hu
        rcases hu with rfl | rfl | rfl | rfl | rfl | rfl
        all_goals first | exact noDig_bool _ | exact noDig_slice _ _ _
       go_wp2_with (at_builtin; refine wpList_append_lrow _ rfl (.tmp 86) (.tmp 88) 210 rfl w.heap.size 51 ii108 _ 6 112 Tryz.underlying210 hi108 hz108 hs108 hy108 rfl (by decide) hzd108 _ _ _ rfl (HGA.out.row 0 _ rfl) ⟨W107.heap.size, 0, none⟩ 1 1 [.bool z104a.b, .slice z104a.a z104a.n z104a.c, .slice z104a.d z104a.m z104a.e, .bool z104b.b, .slice z104b.a z104b.n z104b.c, .slice z104b.d z104b.m z104b.e] rfl rfl (cells_blk (HSA.out.at 0 _ _ _ rfl)) (by simp [Value.oneCell']) (by intro u hu; simp only [List.mem_cons, List.not_mem_nil, or_false] at hu; rcases hu with rfl | rfl | rfl | rfl | rfl | rfl; all_goals first | exact noDig_bool _ | exact noDig_slice _ _ _) (by omega) (by dsimp only; unfold maxLen; omega) (by dsimp only; omega) HSA.out.bel.size ?_)
       intro g108 cap108 w108 hL108 hgr108 hat108
       have hL108' : LRow w108 w.heap.size 51 6 (.slice (some ⟨g108, 0, none⟩) (((flR S l0 l1 k aq i)).length + 1) cap108) (((flR S l0 l1 k aq i)).length + 1) (rx ++ [.bool z104a.b, .slice z104a.a z104a.n z104a.c, .slice z104a.d z104a.m z104a.e, .bool z104b.b, .slice z104b.a z104b.n z104b.c, .slice z104b.d z104b.m z104b.e]) := by first | exact hL108 | (rw [hln]; exact hL108)
       clear hL108
       have hL108 := hL108'
       clear hL108'
       obtain ⟨hs108', hg108'⟩ := Sx.append HSA.out HGA.out 0 rfl [z104a, z104b] [(downQ (loQ (loQ (towQ t0 l0 a) (towQ t0 l1 a)) (loQ (towQ t1 l0 a) (towQ t1 l1 a))) k), (upQ (hiQ (hiQ (towQ t0 l0 a) (towQ t0 l1 a)) (hiQ (towQ t1 l0 a) (towQ t1 l1 a))) k)] rfl (fun j x hx => by match j, hx with
         | 0, hx => (simp at hx; subst hx; exact (HSA.out.q 1 _ _ rfl))
         | 1, hx => (simp at hx; subst hx; exact (HSA.out.q 0 _ _ rfl))
         | j + 2, hx => simp at hx) hL108 hgr108 (by intro c hc; simp [Value.ownBlock] at hc; subst hc; first | exact hat108 | simpa using hat108)
       clear b2c0 b2c1 b2c2 b2c3 b2c4 b2c5 b2f0 b2f1 b2f2 b2f3 b2f4 b2f5 b2l
       clear HSA HGA
       replace HS : Hid (Sx w w108 [(W107.heap.size, arr6 z104a z104b, 51), (Br50_23, arr6 z72a z72b, 51), (Br50_22, arr6 z70a z70b, 51), (Br17_23, arr6 z39a z39b, 51), (Br17_22, arr6 z37a z37b, 51), (w14.heap.size, arr6 z104a z104b, 51), (w.heap.size + 1, x3.arr, 49), (w.heap.size, arr6 x1 x2, 54)] [(false, z104b.val, (upQ (hiQ (hiQ (towQ t0 l0 a) (towQ t0 l1 a)) (hiQ (towQ t1 l0 a) (towQ t1 l1 a))) k)), (false, z104a.val, (downQ (loQ (loQ (towQ t0 l0 a) (towQ t0 l1 a)) (loQ (towQ t1 l0 a) (towQ t1 l1 a))) k)), (false, z99b.val, (hiQ (hiQ (towQ t0 l0 a) (towQ t0 l1 a)) (hiQ (towQ t1 l0 a) (towQ t1 l1 a)))), (false, z99a.val, (loQ (loQ (towQ t0 l0 a) (towQ t0 l1 a)) (loQ (towQ t1 l0 a) (towQ t1 l1 a)))), (false, z94b.val, (hiQ (towQ t1 l0 a) (towQ t1 l1 a))), (false, z94a.val, (loQ (towQ t1 l0 a) (towQ t1 l1 a))), (false, z89b.val, (hiQ (towQ t0 l0 a) (towQ t0 l1 a))), (false, z89a.val, (loQ (towQ t0 l0 a) (towQ t0 l1 a))), (false, z72b.val, (towQ t1 l1 a)), (false, z72a.val, (towQ t1 l1 a)), (false, z71.val, (towQ t1 l1 a)), (false, z70b.val, (towQ t1 l0 a)), (false, z70a.val, (towQ t1 l0 a)), (false, z69.val, (towQ t1 l0 a)), (false, z39b.val, (towQ t0 l1 a)), (false, z39a.val, (towQ t0 l1 a)), (false, z38.val, (towQ t0 l1 a)), (false, z37b.val, (towQ t0 l0 a)), (false, z37a.val, (towQ t0 l0 a)), (false, z36.val, (towQ t0 l0 a)), (false, A.val, a), (false, m2.val, t1), (false, m1.val, t0), (false, x3.val, S), (false, x2.val, l1), (false, x1.val, l0)]) := hs108'
       replace HG : Hid (GsR w w108 [(W107.heap.size, arr6 z104a z104b, 51), (Br50_23, arr6 z72a z72b, 51), (Br50_22, arr6 z70a z70b, 51), (Br17_23, arr6 z39a z39b, 51), (Br17_22, arr6 z37a z37b, 51), (w14.heap.size, arr6 z104a z104b, 51), (w.heap.size + 1, x3.arr, 49), (w.heap.size, arr6 x1 x2, 54)] [⟨51, false, 2, (.slice (some ⟨g108, 0, none⟩) ((flR S l0 l1 k aq i).length + 1) cap108), (rx ++ cellsR [z104a, z104b]), ((flR S l0 l1 k aq i) ++ [[(downQ (loQ (loQ (towQ t0 l0 a) (towQ t0 l1 a)) (loQ (towQ t1 l0 a) (towQ t1 l1 a))) k), (upQ (hiQ (hiQ (towQ t0 l0 a) (towQ t0 l1 a)) (hiQ (towQ t1 l0 a) (towQ t1 l1 a))) k)]])⟩]) := hg108'
       clear hs108' hg108' hL108 hgr108 hat108 hzd108 hi108 hz108 hs108 hy108
       go_wp2_with fail
       exact ⟨⟨i + 1, z104a, z104b, (.slice (some ⟨g108, 0, none⟩) ((flR S l0 l1 k aq i).length + 1) cap108), (rx ++ cellsR [z104a, z104b]), by have := HLT.out; omega, by go_num, by first | rfl | rw [hln], Lib.hid (((((((((((HS.out).erase 0).erase 0).erase 0).erase 0).erase 0).addQ (HS.out.q 25 _ _ rfl)).addQ (HS.out.q 24 _ _ rfl)).addQ (HS.out.q 23 _ _ rfl)).addQ (by rw [HU1.out]; exact (HS.out.q 1 _ _ rfl))).addQ (by rw [HU2.out]; exact (HS.out.q 0 _ _ rfl))), Lib.hid (by rw [HFS.out, HU1.out, HU2.out]; exact HG.out.mono (fun b hb => ⟨b, by simp only [List.mem_cons] at hb ⊢; first | exact hb | (repeat (first | exact hb | right)), rfl⟩))⟩, meas_up HLT.out⟩
    ·
     obtain rfl : i = aq.length := by omega
     go_wp2_with fail
     go_ret2
     exact (by rw [HR.out]; exact ⟨_, rfl, RecsOf.ofRow (HG.out.row 0 _ rfl) (HG.out.mean 0 _ rfl), HS.out.bel⟩)
 | false =>
  have a110 := HS.out.q 4 _ _ rfl
  have a111 := HS.out.q 3 _ _ rfl
  have a112 := HS.out.q 1 _ _ rfl
  have a113 := HS.out.q 0 _ _ rfl
  go_wp2_with (go_at_call 77; (with_reducible refine (qinB_any l0 l1 _ _ _ (rngQ a110 a111) (rngQ a112 a113) (szQ_mono (szQ_of SL0.out) (by omega)) (szQ_mono (szQ_of SL1.out) (by omega))).mono ?_); rw [t6]; rintro e w109 ⟨rfl, hb109⟩)
  refine hK.out _ _ (Sx.below hh hb109) (fun hh => ?_)
  clear hK K
  try simp only [nbs, Act.put]
  replace HS := Lib.hid (HS.out.below hb109)
  clear hb109 a110 a111 a112 a113
  refine tkB (i := 4) (v := ?vk114) rfl ?hk114 ?rk114
  case hk114 => intro u hSu; go_simp <;> with_reducible rfl
  try simp only [nbs, Act.put]
  refine wpAnyH_done (by kernel_rfl) ?_ _
  go_wp2_with fail
  have HR : Hid (flErr l0 l1 aq.length = 1) := by show _ = _; unfold flErr; rw [if_pos (by rw [part_in HLL.out, t6])]
  go_ret2
  exact (by rw [HR.out]; exact ⟨_, rfl, RecsOf.nil _ _ _, HS.out.bel⟩)
end Go.Proofs.YtfjcccpibhhncaaGreat
