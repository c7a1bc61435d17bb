/- Part h of the lemmas and walks. -/
import Derived.Test.YtofijjomfhmbjaaGreatAg

namespace Go.Proofs.YtofijjomfhmbjaaGreat

def loF (f : Nat → Int) : Nat → Int
 | 0 => f 0
 | i + 1 => min (loF f i) (f i)
def hiF (f : Nat → Int) : Nat → Int
 | 0 => f 0
 | i + 1 => max (hiF f i) (f i)
theorem loF_range {f : Nat → Int} {n : Nat} {A : Int} (hn : 0 < n) (h : ∀ i, i < n → -A ≤ f i ∧ f i ≤ A) : ∀ i, i ≤ n → -A ≤ loF f i ∧ loF f i ≤ A
 | 0, _ => h 0 hn
 | i + 1, hi => by
  have a := loF_range hn h i (by omega)
  have b := h i (by omega)
  simp only [loF]
  omega
theorem hiF_range {f : Nat → Int} {n : Nat} {A : Int} (hn : 0 < n) (h : ∀ i, i < n → -A ≤ f i ∧ f i ≤ A) : ∀ i, i ≤ n → -A ≤ hiF f i ∧ hiF f i ≤ A
 | 0, _ => h 0 hn
 | i + 1, hi => by
  have a := hiF_range hn h i (by omega)
  have b := h i (by omega)
  simp only [hiF]
  omega
theorem loF_same {f g : Nat → Int} : ∀ i, f 0 = g 0 → (∀ j, j < i → f j = g j) → loF f i = loF g i
 | 0, h0, _ => h0
 | i + 1, h0, h => by simp only [loF]; rw [loF_same i h0 (fun j hj => h j (by omega)), h i (by omega)]
theorem hiF_same {f g : Nat → Int} : ∀ i, f 0 = g 0 → (∀ j, j < i → f j = g j) → hiF f i = hiF g i
 | 0, h0, _ => h0
 | i + 1, h0, h => by simp only [hiF]; rw [hiF_same i h0 (fun j hj => h j (by omega)), h i (by omega)]
noncomputable def cutX (l : List (Int × Int)) : Int := if outErr l = 0 then hiF (fun i => (l.getD i (0, 0)).1) l.length - loF (fun i => (l.getD i (0, 0)).1) l.length else 0
noncomputable def cutY (l : List (Int × Int)) : Int := if outErr l = 0 then hiF (fun i => (l.getD i (0, 0)).2) l.length - loF (fun i => (l.getD i (0, 0)).2) l.length else 0
theorem outErr_zero {l : List (Int × Int)} (h : outErr l = 0) : (3 ≤ l.length ∧ l.length ≤ 16) ∧ ptsOk l = true := by
 unfold outErr at h
 by_cases c : l.length < 3 ∨ 16 < l.length
 ·
  rw [if_pos c] at h; cases h
 ·
  rw [if_neg c] at h
  refine ⟨by omega, ?_⟩
  cases hp : ptsOk l with
  | true => rfl
  | false => rw [if_pos hp] at h; cases h
theorem outErr_pt {l : List (Int × Int)} (h : outErr l = 0) (i : Nat) (hi : i < l.length) : (-4398046511104 ≤ (l.getD i (0, 0)).1 ∧ (l.getD i (0, 0)).1 ≤ 4398046511104) ∧ -4398046511104 ≤ (l.getD i (0, 0)).2 ∧ (l.getD i (0, 0)).2 ≤ 4398046511104 := by
 have := ptOk_range (ptsOk_get (outErr_zero h).2 i hi)
 unfold far ptAt at this
 exact this

def longTo (key : Nat → Int) (d : Nat → Bool) : Nat → Option Nat
 | 0 => none
 | i + 1 => if d i = true then longTo key d i else match longTo key d i with
  | none => some i
  | some b => if key b < key i then some i else some b
def optI : Option Nat → Int
 | none => -1
 | some b => b
theorem best_done {key : Nat → Int} {d : Nat → Bool} {i : Nat} (h : d i = true) : longTo key d (i + 1) = longTo key d i := by
 simp only [longTo]; rw [if_pos h]
theorem best_none {key : Nat → Int} {d : Nat → Bool} {i : Nat} (h : d i = false) (hb : longTo key d i = none) : longTo key d (i + 1) = some i := by
 simp only [longTo]; rw [if_neg (by rw [h]; simp), hb]
theorem best_more {key : Nat → Int} {d : Nat → Bool} {i b : Nat} (h : d i = false) (hb : longTo key d i = some b) (hk : key b < key i) : longTo key d (i + 1) = some i := by
 simp only [longTo]; rw [if_neg (by rw [h]; simp), hb]; simp only; rw [if_pos hk]
theorem best_keep {key : Nat → Int} {d : Nat → Bool} {i b : Nat} (h : d i = false) (hb : longTo key d i = some b) (hk : ¬ key b < key i) : longTo key d (i + 1) = some b := by
 simp only [longTo]; rw [if_neg (by rw [h]; simp), hb]; simp only; rw [if_neg hk]
theorem best_is (key : Nat → Int) (d : Nat → Bool) : ∀ n, (longTo key d n = none ∧ ∀ k, k < n → d k = true) ∨ ∃ b, longTo key d n = some b ∧ b < n ∧ d b = false ∧ ∀ k, k < n → d k = false → k = b ∨ LtK key b k
 | 0 => .inl ⟨rfl, fun k hk => by omega⟩
 | n + 1 => by
  cases hd : d n with
  | true =>
   rw [best_done hd]
   rcases best_is key d n with ⟨e, h⟩ | ⟨b, e, h1, h2, h3⟩
   ·
    refine .inl ⟨e, fun k hk => ?_⟩
    rcases Nat.lt_or_ge k n with c | c
    ·
     exact h k c
    ·
     obtain rfl : k = n := by omega
     exact hd
   ·
    refine .inr ⟨b, e, by omega, h2, fun k hk hk2 => ?_⟩
    rcases Nat.lt_or_ge k n with c | c
    ·
     exact h3 k c hk2
    ·
     obtain rfl : k = n := by omega
     rw [hd] at hk2; cases hk2
  | false =>
   rcases best_is key d n with ⟨e, h⟩ | ⟨b, e, h1, h2, h3⟩
   ·
    refine .inr ⟨n, best_none hd e, by omega, hd, fun k hk hk2 => ?_⟩
    rcases Nat.lt_or_ge k n with c | c
    ·
     rw [h k c] at hk2; cases hk2
    ·
     exact .inl (by omega)
   ·
    by_cases c1 : key b < key n
    ·
     refine .inr ⟨n, best_more hd e c1, by omega, hd, fun k hk hk2 => ?_⟩
     rcases Nat.lt_or_ge k n with c | c
     ·
      rcases h3 k c hk2 with rfl | h
      ·
       exact .inr (.inl c1)
      ·
       exact .inr (.inl (by unfold LtK at h; omega))
     ·
      exact .inl (by omega)
    ·
     refine .inr ⟨b, best_keep hd e c1, by omega, h2, fun k hk hk2 => ?_⟩
     rcases Nat.lt_or_ge k n with c | c
     ·
      exact h3 k c hk2
     ·
      obtain rfl : k = n := by omega
      exact .inr (by unfold LtK; omega)
theorem best_lt {key : Nat → Int} {d : Nat → Bool} {n b : Nat} (h : longTo key d n = some b) : b < n := by
 rcases best_is key d n with ⟨e, _⟩ | ⟨c, e, h1, _⟩
 ·
  rw [e] at h; cases h
 ·
  rw [e] at h; cases h; exact h1
def doneB (f : Nat → Nat) (j i : Nat) : Bool := (List.range j).any fun q => f q == i
theorem doneB_iff (f : Nat → Nat) (j i : Nat) : doneB f j i = true ↔ ∃ q, q < j ∧ f q = i := by
 simp [doneB, List.any_eq_true]
theorem doneB_succ (f : Nat → Nat) (j i : Nat) : doneB f (j + 1) i = (doneB f j i || f j == i) := by
 simp [doneB, List.range_succ]
theorem best_next {key : Nat → Int} {f : Nat → Nat} {n j : Nat} (hp : PermI f n) (hs : SortR key f 0 n) (hj : j < n) : longTo key (doneB f j) n = some (f j) := by
 have hdj : doneB f j (f j) = false := by
  cases h : doneB f j (f j) with
  | false => rfl
  | true =>
   obtain ⟨q, hq, e⟩ := (doneB_iff f j (f j)).1 h
   have := hp.inj q j (by omega) hj e
   omega
 rcases best_is key (doneB f j) n with ⟨e, h⟩ | ⟨b, e, h1, h2, h3⟩
 ·
  rw [h (f j) (hp.lt j hj)] at hdj; cases hdj
 ·
  rw [e]
  rcases h3 (f j) (hp.lt j hj) hdj with h | h
  ·
   rw [h]
  ·
   obtain ⟨q, hq, eq⟩ := hp.surj b h1
   have hqj : j ≤ q := by
    rcases Nat.lt_or_ge q j with c | c
    ·
     have := (doneB_iff f j b).2 ⟨q, c, eq⟩
     rw [h2] at this; cases this
    ·
     exact c
   rcases Nat.eq_or_lt_of_le hqj with c | c
   ·
    rw [c, eq]
   ·
    have := hs j q (Nat.zero_le _) c hq
    rw [eq] at this
    exact (this.trans h).irrefl.elim

end Go.Proofs.YtofijjomfhmbjaaGreat

namespace Go.Proofs.YtofijjomfhmbjaaGreat
open Go.RowKit

theorem pcErr_arg {l : List (Int × Int)} {m : Int} {i : Nat} (h : (l.getD i (0, 0)).1 < 1 ∨ (l.getD i (0, 0)).1 > 1000000 ∨ (l.getD i (0, 0)).2 < 1 ∨ (l.getD i (0, 0)).2 > 1000000) : pcErr l m i = 1 := by
 unfold pcErr
 rw [if_pos]
 cases hb : (inL (l.getD i (0, 0)).1 1 1000000 && inL (l.getD i (0, 0)).2 1 1000000) with
 | false => rfl
 | true =>
  simp only [Bool.and_eq_true] at hb
  have a := inL_of hb.1
  have b := inL_of hb.2
  omega
theorem pcErr_in {l : List (Int × Int)} {m : Int} {i : Nat} (h : ¬ (l.getD i (0, 0)).1 < 1 ∧ ¬ (l.getD i (0, 0)).1 > 1000000 ∧ ¬ (l.getD i (0, 0)).2 < 1 ∧ ¬ (l.getD i (0, 0)).2 > 1000000) : pcErr l m i = if m < (l.getD i (0, 0)).2 then 5 else 0 := by
 have hb : (inL (l.getD i (0, 0)).1 1 1000000 && inL (l.getD i (0, 0)).2 1 1000000) = true := by
  rw [inL_yes (by omega) (by omega), inL_yes (by omega) (by omega)]; rfl
 unfold pcErr
 rw [if_neg (by rw [hb]; simp)]

set_option maxRecDepth 100000 in
set_option maxHeartbeats 8000000 in
theorem qpieces_any {l : List (Int × Int)} {m : Int} (v : Value) (w : World) (hv : PairsOf w v l) : Calls Tryz.prog 28 #[v, .int .i64 m] w (RetInt (pcsErr l m) w) := by
 obtain ⟨ao, cap, rfl, hE⟩ := hv
 have HE := Lib.hid hE
 clear hE
 by_cases a1 : m < 1
 ·
  have t1 : decide (m < 1) = true := decide_eq_true a1
  have Hr : Hid (pcsErr l m = 1) := by
   show _ = _
   unfold pcsErr
   rw [if_pos]
   cases h : inL m 1 1000000 with
   | false => rfl
   | true => have := inL_of h; omega
  clear a1
  go_enter Tryz.func28, Tryz.ntmps28
  go_wp2_with fail
  go_ret
  exact ⟨by rw [Hr.out]; rfl, Below.refl _ _⟩
 ·
  have t1 : decide (m < 1) = false := decide_eq_false a1
  by_cases a2 : m > 1000000
  ·
   have t2 : decide (m > 1000000) = true := decide_eq_true a2
   have Hr : Hid (pcsErr l m = 1) := by
    show _ = _
    unfold pcsErr
    rw [if_pos]
    cases h : inL m 1 1000000 with
    | false => rfl
    | true => have := inL_of h; omega
   clear a1 a2
   go_enter Tryz.func28, Tryz.ntmps28
   go_wp2_with fail
   go_ret
   exact ⟨by rw [Hr.out]; rfl, Below.refl _ _⟩
  ·
   have t2 : decide (m > 1000000) = false := decide_eq_false a2
   have HM : Hid (inL m 1 1000000 = true) := inL_yes (by omega) (by omega)
   clear a1 a2
   by_cases c1 : 24 < l.length
   ·
    have t3 : decide ((l.length : Int) > 24) = true := decide_eq_true (by omega)
    have Hr : Hid (pcsErr l m = 4) := by show _ = _; unfold pcsErr; rw [if_neg (by rw [HM.out]; simp), if_pos c1]
    clear c1
    go_enter Tryz.func28, Tryz.ntmps28
    go_wp2_with fail
    go_ret
    exact ⟨by rw [Hr.out]; rfl, Below.refl _ _⟩
   ·
    have t3 : decide ((l.length : Int) > 24) = false := decide_eq_false (by omega)
    have Hr : Hid (pcsErr l m = firstErr (pcErr l m) l.length) := by show _ = _; unfold pcsErr; rw [if_neg (by rw [HM.out]; simp), if_neg c1]
    have hlen : l.length ≤ 24 := by omega
    clear c1
    go_enter Tryz.func28, Tryz.ntmps28
    go_wp2_with fail
    go_loopw [5] (fun iv wr => ∃ (i : Nat), i ≤ l.length ∧ iv = .int .i64 i ∧ Hid (firstErr (pcErr l m) i = 0) ∧ Below w.heap.size w wr)
     (fun iv _ => l.length - (intOf iv).toNat)
    case atStart => exact ⟨0, Nat.zero_le _, rfl, rfl, Below.refl _ _⟩
    case round =>
     obtain ⟨i, hi, rfl, hF, hbel⟩ := hrel
     by_cases hlt : i < l.length
     ·
      obtain ⟨b, off, rfl, hbl, hEE⟩ := HE.out (by omega)
      obtain ⟨g0, g1⟩ := (hEE i hlt).below hbel hbl
      have hst := Lib.hid (firstErr_step hF.out)
      have HA : Hid ((l.getD i (0, 0)).1 < 1 ∨ (l.getD i (0, 0)).1 > 1000000 ∨ (l.getD i (0, 0)).2 < 1 ∨ (l.getD i (0, 0)).2 > 1000000 → pcsErr l m = 1) := fun h => by
       have e := pcErr_arg (m := m) h
       rw [Hr.out, ← e, ← hst.out]
       exact firstErr_stay (by rw [hst.out, e]; decide) hlt
      have HN : Hid (¬ (l.getD i (0, 0)).1 < 1 ∧ ¬ (l.getD i (0, 0)).1 > 1000000 ∧ ¬ (l.getD i (0, 0)).2 < 1 ∧ ¬ (l.getD i (0, 0)).2 > 1000000 → (l.getD i (0, 0)).2 > m → pcsErr l m = 5) := fun h h2 => by
       have e : pcErr l m i = 5 := by rw [pcErr_in h, if_pos h2]
       rw [Hr.out, ← e, ← hst.out]
       exact firstErr_stay (by rw [hst.out, e]; decide) hlt
      have HO : Hid (¬ (l.getD i (0, 0)).1 < 1 ∧ ¬ (l.getD i (0, 0)).1 > 1000000 ∧ ¬ (l.getD i (0, 0)).2 < 1 ∧ ¬ (l.getD i (0, 0)).2 > 1000000 → ¬ (l.getD i (0, 0)).2 > m → firstErr (pcErr l m) (i + 1) = 0) := fun h h2 => by
       rw [hst.out, pcErr_in h, if_neg h2]
      have hlt' : (i : Int) < l.length := by omega
      have hge' : (0 : Int) ≤ i := by omega
      have hbl2 : b < wr.heap.size := Nat.lt_of_lt_of_le hbl hbel.size
      clear hEE hst
      generalize (l.getD i (0, 0)).1 = x at *
      generalize (l.getD i (0, 0)).2 = y at *
      by_cases q1 : x < 1
      ·
       have q1t : decide (x < 1) = true := decide_eq_true q1
       have Hv : Hid (pcsErr l m = 1) := HA.out (by omega)
       clear q1 HA HN HO
       go_wp2_with fail
       go_ret
       exact ⟨by rw [Hv.out]; rfl, hbel⟩
      ·
       have q1t : decide (x < 1) = false := decide_eq_false q1
       by_cases q2 : x > 1000000
       ·
        have q2t : decide (x > 1000000) = true := decide_eq_true q2
        have Hv : Hid (pcsErr l m = 1) := HA.out (by omega)
        clear q1 q2 HA HN HO
        go_wp2_with fail
        go_ret
        exact ⟨by rw [Hv.out]; rfl, hbel⟩
       ·
        have q2t : decide (x > 1000000) = false := decide_eq_false q2
        by_cases q3 : y < 1
        ·
         have q3t : decide (y < 1) = true := decide_eq_true q3
         have Hv : Hid (pcsErr l m = 1) := HA.out (by omega)
         clear q1 q2 q3 HA HN HO
         go_wp2_with fail
         go_ret
         exact ⟨by rw [Hv.out]; rfl, hbel⟩
        ·
         have q3t : decide (y < 1) = false := decide_eq_false q3
         by_cases q4 : y > 1000000
         ·
          have q4t : decide (y > 1000000) = true := decide_eq_true q4
          have Hv : Hid (pcsErr l m = 1) := HA.out (by omega)
          clear q1 q2 q3 q4 HA HN HO
          go_wp2_with fail
          go_ret
          exact ⟨by rw [Hv.out]; rfl, hbel⟩
         ·
          have q4t : decide (y > 1000000) = false := decide_eq_false q4
          by_cases q5 : y > m
          ·
           have q5t : decide (y > m) = true := decide_eq_true q5
           have Hv : Hid (pcsErr l m = 5) := HN.out ⟨q1, q2, q3, q4⟩ q5
           clear q1 q2 q3 q4 q5 HA HN HO
           go_wp2_with fail
           go_ret
           exact ⟨by rw [Hv.out]; rfl, hbel⟩
          ·
           have q5t : decide (y > m) = false := decide_eq_false q5
           have Hv : Hid (firstErr (pcErr l m) (i + 1) = 0) := HO.out ⟨q1, q2, q3, q4⟩ q5
           clear q1 q2 q3 q4 q5 HA HN HO
           go_wp2_with fail
           exact ⟨⟨i + 1, by omega, by go_num, Hv, hbel⟩, meas_up hlt⟩
     ·
      obtain rfl : i = l.length := by omega
      have Hf : Hid (pcsErr l m = 0) := by show _ = _; rw [Hr.out, hF.out]
      clear hF
      go_wp2_with fail
      go_ret
      exact ⟨by rw [Hf.out]; rfl, hbel⟩

set_option maxRecDepth 100000 in
set_option maxHeartbeats 8000000 in
theorem qnbound_any {l : List (Int × Int)} {m : Int} (v : Value) (w : World) (hv : PairsOf w v l) : Calls Tryz.prog 14 #[v, .int .i64 m] w (RetTwoN (bndN l m) (pcsErr l m) w) := by
 have HV := Lib.hid hv
 obtain ⟨ao, cap, rfl, hE⟩ := hv
 have HE := Lib.hid hE
 clear hE
 by_cases hz : pcsErr l m = 0
 ·
  have HZ := Lib.hid hz
  have HG := Lib.hid (okPcs_of hz)
  have HB : Hid (bndN l m = boundZ l m) := by show _ = _; unfold bndN; rw [if_pos hz]
  clear hz
  have hlen := HG.out.len
  have hm1 := HG.out.m1
  have hm2 := HG.out.m2
  go_enter Tryz.func14, Tryz.ntmps14
  go_wp2_with fail
  refine (qpieces_any _ _ HV.out).mono ?_
  rw [HZ.out]
  rintro e w1 ⟨rfl, hb1⟩
  go_wp2_with fail
  go_loopw [7, 8, 9, 10] (fun lv sv av iv wr => ∃ (i : Nat), i ≤ l.length ∧ iv = .int .i64 i ∧ lv = .int .i64 (longZ l i) ∧ sv = .int .i64 (areaZ l i) ∧ av = .int .i64 (aloneZ l m i) ∧ Below w.heap.size w wr)
   (fun _ _ _ iv _ => l.length - (intOf iv).toNat)
  case atStart => exact ⟨0, Nat.zero_le _, rfl, rfl, rfl, rfl, hb1⟩
  case round =>
   clear hb1
   obtain ⟨i, hi, rfl, rfl, rfl, rfl, hbel⟩ := hrel
   have hL := longZ_rangeA HG.out i hi
   have hA := areaZ_rangeA HG.out i hi
   have hO := aloneZ_rangeA HG.out i hi
   by_cases hlt : i < l.length
   ·
    obtain ⟨b, off, rfl, hbl, hEE⟩ := HE.out (by omega)
    obtain ⟨g0, g1⟩ := (hEE i hlt).below hbel hbl
    have hlt' : (i : Int) < l.length := by omega
    have hge' : (0 : Int) ≤ i := by omega
    have hbl2 : b < wr.heap.size := Nat.lt_of_lt_of_le hbl hbel.size
    have hp := HG.out.at hlt
    have HL1 : Hid (longZ l (i + 1) = max (longZ l i) (l.getD i (0, 0)).1) := rfl
    have HA1 : Hid (areaZ l (i + 1) = areaZ l i + (l.getD i (0, 0)).1 * (l.getD i (0, 0)).2) := rfl
    have HO1 : Hid (aloneZ l m (i + 1) = aloneZ l m i + if 2 * (l.getD i (0, 0)).2 > m then (l.getD i (0, 0)).1 else 0) := rfl
    clear hEE
    generalize (l.getD i (0, 0)).1 = x at *
    generalize (l.getD i (0, 0)).2 = y at *
    generalize longZ l i = L at *
    generalize areaZ l i = A at *
    generalize aloneZ l m i = O at *
    have hxy0 := Int.mul_nonneg (show 0 ≤ x by omega) (show 0 ≤ y by omega)
    have hxy1 : x * y ≤ 1000000 * 1000000 := Int.mul_le_mul hp.1.2 (by omega) (by omega) (by omega)
    have hw1 : IntKind.i64.wrap (x * y) = x * y := IntWalk.i64_in _ (by omega)
    have hw2 : IntKind.i64.wrap (A + x * y) = A + x * y := IntWalk.i64_in _ (by omega)
    have hw3 : IntKind.i64.wrap (2 * y) = 2 * y := IntWalk.i64_in _ (by omega)
    have hw4 : IntKind.i64.wrap (O + x) = O + x := IntWalk.i64_in _ (by omega)
    by_cases c : 2 * y > m
    ·
     have t1 : decide (2 * y > m) = true := decide_eq_true c
     have ho := HO1.out
     rw [if_pos c] at ho
     have HO2 := Lib.hid ho
     clear c ho HO1
     go_wp2_with fail
     go_region
     go_wp2_with fail
     exact ⟨⟨i + 1, by omega, by go_num, by rw [HL1.out], by rw [HA1.out], by rw [HO2.out], hbel.drew⟩, meas_up hlt⟩
    ·
     have t1 : decide (2 * y > m) = false := decide_eq_false c
     have ho := HO1.out
     rw [if_neg c, Int.add_zero] at ho
     have HO2 := Lib.hid ho
     clear c ho HO1
     go_wp2_with fail
     go_region
     go_wp2_with fail
     exact ⟨⟨i + 1, by omega, by go_num, by rw [HL1.out], by rw [HA1.out], by rw [HO2.out], hbel.drew⟩, meas_up hlt⟩
   ·
    obtain rfl : i = l.length := by omega
    have Ht : Hid (bndN l m = max (max (longZ l l.length) ((areaZ l l.length + m - 1) / m)) (aloneZ l m l.length)) := HB.out
    have Hu : Hid (bndN l m = max (longZ l l.length) (max ((areaZ l l.length + m - 1) / m) (aloneZ l m l.length))) := by show _ = _; rw [HB.out]; unfold boundZ; omega
    generalize longZ l l.length = L at *
    generalize areaZ l l.length = A at *
    generalize aloneZ l m l.length = O at *
    generalize bndN l m = Z at *
    have hw1 : IntKind.i64.wrap (A + m) = A + m := IntWalk.i64_in _ (by omega)
    have hw2 : IntKind.i64.wrap (A + m - 1) = A + m - 1 := IntWalk.i64_in _ (by omega)
    have hne : m ≠ 0 := by omega
    have hq0 := Int.ediv_nonneg (show 0 ≤ A + m - 1 by omega) (show 0 ≤ m by omega)
    have hq1 := Int.ediv_le_self m (show 0 ≤ A + m - 1 by omega)
    have hw3 : IntKind.i64.wrap ((A + m - 1) / m) = (A + m - 1) / m := IntWalk.i64_in _ (by omega)
    have hw4 : wrap64 ((A + m - 1) / m) = (A + m - 1) / m := (IntWalk.i64_left _).symm.trans hw3
    clear hq0 hq1
    have hM3 := fun (w : World) (ts : Array TypeId) (t : TypeId) (x y z : Int) => run_max_ints3 (P := Tryz.prog) w ts t .i64 .i64 .i64 x y z
    go_wp2_with fail
    go_ret2
    first | exact ⟨by rw [Hu.out, HZ.out]; rfl, hbel⟩ | exact ⟨by rw [Ht.out, HZ.out]; rfl, hbel⟩
 ·
  have te : (pcsErr l m != 0) = true := bne_iff_ne.2 hz
  have HB : Hid (bndN l m = 0) := by show _ = _; unfold bndN; rw [if_neg hz]
  have HP := qpieces_any (m := m) _ w HV.out
  generalize pcsErr l m = er at *
  clear hz
  go_enter Tryz.func14, Tryz.ntmps14
  go_wp2_with fail
  refine HP.mono ?_
  rintro e w1 ⟨rfl, hb1⟩
  go_wp2_with fail
  go_ret2
  exact ⟨by rw [HB.out]; rfl, hb1⟩

def BoolsOf (w : World) (v : Value) (n : Nat) (d : Nat → Bool) : Prop :=
 ∃ ao cap, v = .slice ao n cap ∧ (0 < n → ∃ b off, ao = some ⟨b, off, none⟩ ∧ b < w.heap.size ∧ ∀ i, i < n → w.cell? ⟨b, off + i, none⟩ = some (.bool (d i)))

set_option maxRecDepth 100000 in
set_option maxHeartbeats 8000000 in
theorem qnext_any {l : List (Int × Int)} {d : Nat → Bool} (v vd : Value) (w : World) (hv : PairsOf w v l) (hd : BoolsOf w vd l.length d) (hlen : l.length ≤ 24) : Calls Tryz.prog 29 #[v, vd] w (RetInt (optI (longTo (fun i => (gP l i).1) d l.length)) w) := by
 obtain ⟨ao, cap, rfl, hE⟩ := hv
 obtain ⟨ad, capd, rfl, hD⟩ := hd
 have HE := Lib.hid hE
 have HD := Lib.hid hD
 clear hE hD
 go_enter Tryz.func29, Tryz.ntmps29
 go_wp2_with fail
 go_loopw [5, 6] (fun bv iv wr => ∃ (i : Nat), i ≤ l.length ∧ iv = .int .i64 i ∧ bv = .int .i64 (optI (longTo (fun i => (gP l i).1) d i)) ∧ Below w.heap.size w wr)
  (fun _ iv _ => l.length - (intOf iv).toNat)
 case atStart => exact ⟨0, Nat.zero_le _, rfl, rfl, Below.refl _ _⟩
 case round =>
  obtain ⟨i, hi, rfl, rfl, hbel⟩ := hrel
  by_cases hlt : i < l.length
  ·
   obtain ⟨b, off, rfl, hbl, hEE⟩ := HE.out (by omega)
   obtain ⟨bd, offd, rfl, hbd, hDD⟩ := HD.out (by omega)
   obtain ⟨g0, _⟩ := (hEE i hlt).below hbel hbl
   have d0 := (hbel.cell (p := ⟨bd, offd + i, none⟩) hbd).trans (hDD i hlt)
   have hlt' : (i : Int) < l.length := by omega
   have hge' : (0 : Int) ≤ i := by omega
   have hbl2 : b < wr.heap.size := Nat.lt_of_lt_of_le hbl hbel.size
   have hbd2 : bd < wr.heap.size := Nat.lt_of_lt_of_le hbd hbel.size
   cases hdi : d i with
   | true =>
    have HB : Hid (longTo (fun i => (gP l i).1) d (i + 1) = longTo (fun i => (gP l i).1) d i) := best_done hdi
    rw [hdi] at d0
    clear hdi hEE hDD
    generalize longTo (fun i => (gP l i).1) d i = be at *
    go_wp2_with fail
    go_quiet (fail)
    go_wp2_with fail
    exact ⟨⟨i + 1, by omega, by go_num, by rw [HB.out], below_dn hbel _⟩, meas_up hlt⟩
   | false =>
    rw [hdi] at d0
    cases hbe : longTo (fun i => (gP l i).1) d i with
    | none =>
     have HB : Hid (longTo (fun i => (gP l i).1) d (i + 1) = some i) := best_none hdi hbe
     have tm : decide ((-1 : Int) < 0) = true := by decide
     clear hdi hEE hDD hbe
     simp only [optI]
     go_wp2_with fail
     go_quiet (fail)
     go_wp2_with fail
     exact ⟨⟨i + 1, by omega, by go_num, by rw [HB.out] <;> rfl, below_dn hbel _⟩, meas_up hlt⟩
    | some k =>
     have hk := best_lt hbe
     obtain ⟨k0, _⟩ := (hEE k (by omega)).below hbel hbl
     have hk' : (k : Int) < l.length := by omega
     have hk0 : (0 : Int) ≤ k := by omega
     have tm : decide ((k : Int) < 0) = false := decide_eq_false (by omega)
     simp only [optI]
     by_cases c : (l.getD i (0, 0)).1 > (l.getD k (0, 0)).1
     ·
      have HB : Hid (longTo (fun i => (gP l i).1) d (i + 1) = some i) := best_more hdi hbe c
      have t1 : decide ((l.getD i (0, 0)).1 > (l.getD k (0, 0)).1) = true := decide_eq_true c
      clear hdi hEE hDD hbe c
      generalize (l.getD i (0, 0)).1 = x at *
      generalize (l.getD k (0, 0)).1 = y at *
      go_wp2_with fail
      go_quiet (fail)
      go_wp2_with fail
      exact ⟨⟨i + 1, by omega, by go_num, by rw [HB.out] <;> rfl, below_dn hbel _⟩, meas_up hlt⟩
     ·
      have HB : Hid (longTo (fun i => (gP l i).1) d (i + 1) = some k) := best_keep hdi hbe (by unfold gP; omega)
      have t1 : decide ((l.getD i (0, 0)).1 > (l.getD k (0, 0)).1) = false := decide_eq_false c
      clear hdi hEE hDD hbe c
      generalize (l.getD i (0, 0)).1 = x at *
      generalize (l.getD k (0, 0)).1 = y at *
      go_wp2_with fail
      go_quiet (fail)
      go_wp2_with fail
      exact ⟨⟨i + 1, by omega, by go_num, by rw [HB.out] <;> rfl, below_dn hbel _⟩, meas_up hlt⟩
  ·
   obtain rfl : i = l.length := by omega
   generalize hBE : optI (longTo (fun i => (gP l i).1) d l.length) = be at *
   have HBE := Lib.hid hBE
   clear hBE
   go_wp2_with fail
   go_ret
   exact ⟨by rw [HBE.out]; rfl, hbel⟩

end Go.Proofs.YtofijjomfhmbjaaGreat
