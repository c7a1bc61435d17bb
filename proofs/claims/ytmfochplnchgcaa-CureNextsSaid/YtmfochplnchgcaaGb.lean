/- Part b of the lemmas and walks. -/
import Derived.Deep.DeepCutAuto
import Derived.Deep.CutBlock
import Derived.Test.YtmfochplnchgcaaGa

/- THE WALK OF THE REFERENCE's Product. -/
namespace Go.Proofs.Ytmfochplnchgcaa
open Go.RowKit

/-- The inner loop of Product: after k digits of b (all of them, from its length on). -/
structure PrIn (a b : List Nat) (i k : Nat) (o : List Nat) (c : Nat) : Prop where
  len : o.length = a.length + b.length
  dgs : Dgs b32 o
  car : c < b32
  val : lv b32 o + c * b32 ^ (i + k) = lv b32 (a.take i) * lv b32 b + a.getD i 0 * b32 ^ i * lv b32 (b.take k)

structure PrOut (a b : List Nat) (i : Nat) (o : List Nat) : Prop where
  len : o.length = a.length + b.length
  dgs : Dgs b32 o
  val : lv b32 o = lv b32 (a.take i) * lv b32 b

theorem PrOut.start (a b : List Nat) : PrOut a b 0 (List.replicate (a.length + b.length) 0) :=
  ⟨by simp, Dgs.replicate b32_pos _, by simp [lv_replicate, lv]⟩
theorem PrOut.inner {a b : List Nat} {i : Nat} {o : List Nat} (h : PrOut a b i o) : PrIn a b i 0 o 0 :=
  ⟨h.len, h.dgs, b32_pos, by simp [h.val, lv]⟩

theorem pr_word (z c x y : Nat) (hz : z < b32) (hc : c < b32) (hx : x < b32) (hy : y < b32) : (z + c + x * y) / b32 < b32 ∧ z + c + x * y < b64 := by
  have h : z + c + x * y < b64 := by
    rw [b64_sq]
    have h3 : x * y ≤ (b32 - 1) * (b32 - 1) := Nat.mul_le_mul (by omega) (by omega)
    have hp := b32_pos
    generalize b32 = B at *
    obtain ⟨b, rfl⟩ : ∃ b, B = b + 1 := ⟨B - 1, by omega⟩
    simp only [Nat.add_sub_cancel] at h3
    have e2 : (b + 1) * (b + 1) = b * b + b + b + 1 := by rw [Nat.add_mul, Nat.mul_add]; omega
    omega
  exact ⟨by rw [Nat.div_lt_iff_lt_mul b32_pos, ← b64_sq]; exact h, h⟩

theorem PrIn.step {a b : List Nat} {i k : Nat} {o : List Nat} {c : Nat} (h : PrIn a b i k o c) (X : Nat) (hk : i + k < a.length + b.length)
    (hX : X = o.getD (i + k) 0 + c + a.getD i 0 * b.getD k 0) (hlt : X / b32 < b32) : PrIn a b i (k + 1) (o.set (i + k) (X % b32)) (X / b32) := by
  refine ⟨by simpa using h.len, h.dgs.set _ _ (Nat.mod_lt _ b32_pos), hlt, ?_⟩
  have h1 := lv_set b32 o (i + k) (X % b32) (by rw [h.len]; exact hk)
  have h2 := h.val
  have h3 : lv b32 (b.take (k + 1)) = lv b32 (b.take k) + b32 ^ k * b.getD k 0 := by
    by_cases hkb : k < b.length
    · exact lv_take_succ b32 b k hkb
    · rw [List.take_of_length_le (by omega), List.take_of_length_le (by omega)]
      simp [List.getElem?_eq_none (Nat.le_of_not_lt hkb)]
  rw [h3]
  have h4 : b32 ^ (i + (k + 1)) = b32 * b32 ^ (i + k) := by rw [← Nat.add_assoc, Nat.pow_succ, Nat.mul_comm]
  rw [h4, Nat.mul_add, ← Nat.add_assoc, ← h2]
  have e1 : X / b32 * (b32 * b32 ^ (i + k)) = b32 ^ (i + k) * (b32 * (X / b32)) := by ac_rfl
  have e2 : a.getD i 0 * b32 ^ i * (b32 ^ k * b.getD k 0) = b32 ^ (i + k) * (a.getD i 0 * b.getD k 0) := by rw [Nat.pow_add]; ac_rfl
  have e3 : c * b32 ^ (i + k) = b32 ^ (i + k) * c := Nat.mul_comm _ _
  have e4 := Nat.mod_add_div X b32
  have e5 : b32 ^ (i + k) * (X % b32 + b32 * (X / b32)) = b32 ^ (i + k) * (o.getD (i + k) 0 + c + a.getD i 0 * b.getD k 0) := by rw [e4, hX]
  rw [e1, e2, e3]
  simp only [Nat.mul_add] at e5
  omega

/-- Where something is still carried there is room for it. -/
theorem PrIn.room {a b : List Nat} {i k : Nat} {o : List Nat} {c : Nat} (h : PrIn a b i k o c) (ha : Dgs b32 a) (hb : Dgs b32 b) (hi : i < a.length) (hc : 0 < c) : i + k < i + 1 + b.length := by
  rcases Nat.lt_or_ge (i + k) (i + 1 + b.length) with h' | h'
  · exact h'
  · exfalso
    have h1 : lv b32 (a.take i) * lv b32 b + a.getD i 0 * b32 ^ i * lv b32 (b.take k) = lv b32 (a.take (i + 1)) * lv b32 b := by
      rw [List.take_of_length_le (by omega : b.length ≤ k), lv_take_succ b32 a i hi, Nat.add_mul, Nat.mul_comm (a.getD i 0)]
    have h2 := h.val
    rw [h1] at h2
    have h3 : lv b32 (a.take (i + 1)) * lv b32 b < b32 ^ (i + 1 + b.length) := by
      have h4 := lv_lt (ha.take (i + 1))
      have e : (a.take (i + 1)).length = i + 1 := by simp; omega
      rw [e] at h4
      have h5 := lv_lt hb
      rw [Nat.pow_add]
      exact Nat.mul_lt_mul_of_lt_of_le h4 (Nat.le_of_lt h5) (Nat.pow_pos b32_pos)
    have h6 : b32 ^ (i + 1 + b.length) ≤ b32 ^ (i + k) := Nat.pow_le_pow_right b32_pos h'
    have h7 : b32 ^ (i + k) ≤ c * b32 ^ (i + k) := Nat.le_mul_of_pos_left _ hc
    omega

theorem PrIn.done {a b : List Nat} {i k : Nat} {o : List Nat} {c : Nat} (h : PrIn a b i k o c) (hi : i < a.length) (hk : b.length ≤ k) (hc : c = 0) : PrOut a b (i + 1) o := by
  refine ⟨h.len, h.dgs, ?_⟩
  have h2 := h.val
  rw [hc, Nat.zero_mul, Nat.add_zero, List.take_of_length_le hk] at h2
  rw [h2, lv_take_succ b32 a i hi, Nat.add_mul, Nat.mul_comm (a.getD i 0)]

end Go.Proofs.Ytmfochplnchgcaa

/- THE WALKS OF THE REFERENCE's Sum and Difference. -/
namespace Go.Proofs.Ytmfochplnchgcaa
open Go.RowKit

structure SmIn (a b : List Nat) (n i : Nat) (o : List Nat) (c : Nat) : Prop where
  len : o.length = n
  dgs : Dgs b32 o
  car : c ≤ 1
  val : lv b32 o + c * b32 ^ i = lv b32 (a.take i) + lv b32 (b.take i)
  top : ∀ j, i ≤ j → o.getD j 0 = 0

theorem take_step (B : Nat) (a : List Nat) (i : Nat) : lv B (a.take (i + 1)) = lv B (a.take i) + B ^ i * a.getD i 0 := by
  by_cases h : i < a.length
  · exact lv_take_succ B a i h
  · rw [List.take_of_length_le (by omega), List.take_of_length_le (by omega)]
    simp [List.getElem?_eq_none (Nat.le_of_not_lt h)]

theorem SmIn.step {a b : List Nat} {n i : Nat} {o : List Nat} {c : Nat} (h : SmIn a b n i o c) (ha : Dgs b32 a) (hb : Dgs b32 b) (hi : i < n) (X : Nat) (hX : X = c + a.getD i 0 + b.getD i 0) :
    SmIn a b n (i + 1) (o.set i (X % b32)) (X / b32) := by
  have hx := ha.getD b32_pos i
  have hy := hb.getD b32_pos i
  have hc := h.car
  refine ⟨by simpa using h.len, h.dgs.set _ _ (Nat.mod_lt _ b32_pos), ?_, ?_, fun j hj => ?_⟩
  · have : X / b32 < 2 := by rw [Nat.div_lt_iff_lt_mul b32_pos]; omega
    omega
  · have h1 := lv_set b32 o i (X % b32) (by rw [h.len]; exact hi)
    rw [h.top i (Nat.le_refl _)] at h1
    have h2 := h.val
    rw [take_step, take_step, Nat.pow_succ]
    have e1 : X / b32 * (b32 ^ i * b32) = b32 ^ i * (b32 * (X / b32)) := by ac_rfl
    have e4 := Nat.mod_add_div X b32
    have e5 : b32 ^ i * (X % b32 + b32 * (X / b32)) = b32 ^ i * (c + a.getD i 0 + b.getD i 0) := by rw [e4, hX]
    have e6 : c * b32 ^ i = b32 ^ i * c := Nat.mul_comm _ _
    rw [e1]
    simp only [Nat.mul_add] at e5
    omega
  · have := h.top j (by omega)
    rw [List.getD_eq_getElem?_getD] at *
    rw [List.getElem?_set_ne (by omega)]
    exact this

theorem SmIn.done {a b : List Nat} {m : Nat} {o : List Nat} {c : Nat} (h : SmIn a b (m + 1) (m + 1) o c) (ha : Dgs b32 a) (hb : Dgs b32 b) (h1 : a.length ≤ m) (h2 : b.length ≤ m) : lv b32 o = lv b32 a + lv b32 b := by
  have hv := h.val
  rw [List.take_of_length_le (by omega), List.take_of_length_le (by omega)] at hv
  have ha' : lv b32 a < b32 ^ m := Nat.lt_of_lt_of_le (lv_lt ha) (Nat.pow_le_pow_right b32_pos h1)
  have hb' : lv b32 b < b32 ^ m := Nat.lt_of_lt_of_le (lv_lt hb) (Nat.pow_le_pow_right b32_pos h2)
  rcases Nat.eq_zero_or_pos c with h0 | h0
  · subst h0; omega
  · exfalso
    have e : b32 ^ (m + 1) ≤ c * b32 ^ (m + 1) := Nat.le_mul_of_pos_left _ h0
    rw [Nat.pow_succ] at e
    have e2 : b32 ^ m * 2 ≤ b32 ^ m * b32 := Nat.mul_le_mul_left _ b32_two
    rw [Nat.pow_succ] at hv
    omega

structure D32 (a b : List Nat) (n i : Nat) (o : List Nat) (c : Nat) : Prop where
  len : o.length = n
  dgs : Dgs b32 o
  bor : c ≤ 1
  val : lv b32 o + lv b32 (b.take i) = lv b32 (a.take i) + c * b32 ^ i
  top : ∀ j, i ≤ j → o.getD j 0 = 0

theorem D32.step {a b : List Nat} {n i : Nat} {o : List Nat} {c : Nat} (h : D32 a b n i o c) (hi : i < n) (X c' : Nat) (hX : X < b32) (hc' : c' ≤ 1) (e : X + b.getD i 0 + c = a.getD i 0 + b32 * c') :
    D32 a b n (i + 1) (o.set i X) c' := by
  refine ⟨by simpa using h.len, h.dgs.set _ _ hX, hc', ?_, fun j hj => ?_⟩
  · have h1 := lv_set b32 o i X (by rw [h.len]; exact hi)
    rw [h.top i (Nat.le_refl _)] at h1
    have h2 := h.val
    rw [take_step, take_step, Nat.pow_succ]
    have e1 : c' * (b32 ^ i * b32) = b32 ^ i * (b32 * c') := by ac_rfl
    have e5 : b32 ^ i * (X + b.getD i 0 + c) = b32 ^ i * (a.getD i 0 + b32 * c') := by rw [e]
    have e6 : c * b32 ^ i = b32 ^ i * c := Nat.mul_comm _ _
    rw [e1]
    simp only [Nat.mul_add] at e5
    omega
  · have := h.top j (by omega)
    rw [List.getD_eq_getElem?_getD] at *
    rw [List.getElem?_set_ne (by omega)]
    exact this

theorem D32.done {a b : List Nat} {o : List Nat} {c : Nat} (h : D32 a b a.length a.length o c) (hl : b.length ≤ a.length) (hle : lv b32 b ≤ lv b32 a) : lv b32 o = lv b32 a - lv b32 b := by
  have hv := h.val
  rw [List.take_length, List.take_of_length_le hl] at hv
  have h2 := lv_lt h.dgs
  rw [h.len] at h2
  have hb : c = 0 := by
    rcases Nat.eq_zero_or_pos c with h0 | h0
    · exact h0
    · have : b32 ^ a.length ≤ c * b32 ^ a.length := Nat.le_mul_of_pos_left _ h0
      omega
  subst hb
  omega

end Go.Proofs.Ytmfochplnchgcaa

/- THE WALKS OF THE REFERENCE's halved, byDigit, Bits, Shifted. -/
namespace Go.Proofs.Ytmfochplnchgcaa
open Go.RowKit

def dvQ (hi lo y : Nat) : Nat := (b32 * hi + lo) / y
def dvR (hi lo y : Nat) : Nat := (b32 * hi + lo) % y
theorem quo_lt' {b V u d : Nat} (hV : 0 < V) (hu : u < V) (hd : d < b) : (b * u + d) / V < b := by rw [Nat.mul_comm]; exact quo_lt hV hu hd

/-- Long division by one word, from the top: digits from j on are done. -/
structure By32 (a : List Nat) (d j : Nat) (o : List Nat) (r : Nat) : Prop where
  len : o.length = a.length
  dgs : Dgs b32 o
  rem : r < d
  val : lv b32 (a.drop j) = lv b32 (o.drop j) * d + r
  low : ∀ i, i < j → o.getD i 0 = 0

theorem By32.start (a : List Nat) (d : Nat) (hd : 0 < d) : By32 a d a.length (List.replicate a.length 0) 0 :=
  ⟨by simp, Dgs.replicate b32_pos _, hd, by simp [lv], fun i _ => by simp [List.getElem?_replicate]; split <;> rfl⟩

theorem dvQ_lt (hi lo y : Nat) (hy : 0 < y) (hlo : lo < b32) (hh : hi < y) : dvQ hi lo y < b32 := quo_lt' hy hh hlo

theorem By32.step {a : List Nat} {d j : Nat} {o : List Nat} {r : Nat} (h : By32 a d (j + 1) o r) (ha : Dgs b32 a) (hj : j < a.length) :
    By32 a d j (o.set j (dvQ r (a.getD j 0) d)) (dvR r (a.getD j 0) d) := by
  have hd : 0 < d := by have := h.rem; omega
  have hx := ha.getD b32_pos j
  refine ⟨by simpa using h.len, h.dgs.set _ _ (dvQ_lt _ _ _ hd hx h.rem), Nat.mod_lt _ hd, ?_, fun i hi => ?_⟩
  · have h1 : (o.set j (dvQ r (a.getD j 0) d)).drop j = dvQ r (a.getD j 0) d :: o.drop (j + 1) := by
      rw [List.drop_eq_getElem_cons (by simp [h.len]; exact hj)]
      simp [List.drop_set]
    rw [h1, List.drop_eq_getElem_cons hj, lv_cons, lv_cons, h.val]
    have hg : a.getD j 0 = a[j] := by simp [hj]
    rw [← hg]
    have e := Nat.div_add_mod (b32 * r + a.getD j 0) d
    have e2 : d * dvQ r (a.getD j 0) d + dvR r (a.getD j 0) d = b32 * r + a.getD j 0 := e
    rw [Nat.mul_add, Nat.add_mul]
    have e3 : b32 * lv b32 (o.drop (j + 1)) * d = b32 * (lv b32 (o.drop (j + 1)) * d) := Nat.mul_assoc _ _ _
    have e4 : dvQ r (a.getD j 0) d * d = d * dvQ r (a.getD j 0) d := Nat.mul_comm _ _
    omega
  · have := h.low i (by omega)
    rw [List.getD_eq_getElem?_getD] at *
    rw [List.getElem?_set_ne (by omega)]
    exact this

theorem By32.done {a : List Nat} {d : Nat} {o : List Nat} {r : Nat} (h : By32 a d 0 o r) : lv b32 o = lv b32 a / d ∧ r = lv b32 a % d := by
  have hd : 0 < d := by have := h.rem; omega
  have hv := h.val
  simp only [List.drop_zero] at hv
  rw [hv]
  constructor
  · rw [Nat.add_comm, Nat.add_mul_div_right _ _ hd, Nat.div_eq_of_lt h.rem, Nat.zero_add]
  · rw [Nat.add_comm, Nat.add_mul_mod_self_right, Nat.mod_eq_of_lt h.rem]


def RetNatDigit (q r : Nat) (w : World) (e : Ending) (w' : World) : Prop :=
  ∃ v, e = .returned (.tuple #[v, .int .u32 (r : Nat)]) ∧ IsNat .u32 b32 w' v q ∧ Below w.heap.size w w'

def hw (x y : Nat) : Nat := 2147483648 * (y % 2) + x / 2
theorem hw_zero (x : Nat) : x / 2 = hw x 0 := by unfold hw; simp
theorem hw_even (x y : Nat) (h : y % 2 = 0) : x / 2 = hw x y := by unfold hw; rw [h]; simp
theorem hw_odd (x y : Nat) (h : y % 2 = 1) : x / 2 + 2147483648 = hw x y := by unfold hw; rw [h, Nat.mul_one, Nat.add_comm]
theorem hw_lt (x y : Nat) (h : x < b32) : hw x y < b32 := by unfold hw; unfold b32 at *; omega
theorem hw_lv (x T : Nat) : hw x T + b32 * (T / 2) = (x + b32 * T) / 2 := by unfold hw b32; omega
def hlL : List Nat → List Nat
  | [] => []
  | x :: t => hw x (t.headD 0) :: hlL t
theorem hlL_length (a : List Nat) : (hlL a).length = a.length := by
  induction a with
  | nil => rfl
  | cons x t ih => simp [hlL, ih]
theorem hlL_getD (a : List Nat) (i : Nat) (hi : i < a.length) : (hlL a).getD i 0 = hw (a.getD i 0) (a.getD (i + 1) 0) := by
  induction a generalizing i with
  | nil => simp at hi
  | cons x t ih =>
    cases i with
    | zero => cases t <;> simp [hlL]
    | succ i => simpa [hlL] using ih i (by simpa using hi)
theorem hlL_dgs (a : List Nat) (ha : Dgs b32 a) : Dgs b32 (hlL a) := by
  induction a with
  | nil => exact Dgs.nil _
  | cons x t ih =>
    exact Dgs.cons (hw_lt _ _ ha.head) (ih ha.tail)
theorem lv_mod2 (t : List Nat) : lv b32 t % 2 = t.headD 0 % 2 := by
  cases t with
  | nil => rfl
  | cons y u =>
    rw [lv_cons]
    generalize lv b32 u = U
    show (y + b32 * U) % 2 = y % 2
    unfold b32
    omega
theorem lv_hlL (a : List Nat) : lv b32 (hlL a) = lv b32 a / 2 := by
  induction a with
  | nil => simp [hlL, lv]
  | cons x t ih =>
    rw [hlL, lv_cons, lv_cons, ih]
    have e : hw x (t.headD 0) = hw x (lv b32 t) := by unfold hw; rw [lv_mod2 t]
    rw [e]
    exact hw_lv x _

structure HlIn (a : List Nat) (i : Nat) (o : List Nat) : Prop where
  len : o.length = a.length
  dgs : Dgs b32 o
  val : ∀ j, j < i → o.getD j 0 = (hlL a).getD j 0
theorem HlIn.done {a : List Nat} {o : List Nat} (h : HlIn a a.length o) : lv b32 o = lv b32 a / 2 := by
  have e : o = hlL a := by
    apply List.ext_getElem
    · rw [h.len, hlL_length]
    · intro j h1 h2
      have := h.val j (by rw [h.len] at h1; exact h1)
      simpa [h1, h2] using this
  rw [e, lv_hlL]
theorem HlIn.step {a : List Nat} {i : Nat} {o : List Nat} (h : HlIn a i o) (ha : Dgs b32 a) (hi : i < a.length) (x : Nat) (hx : x = hw (a.getD i 0) (a.getD (i + 1) 0)) : HlIn a (i + 1) (o.set i x) := by
  have e : x = (hlL a).getD i 0 := by rw [hlL_getD a i hi, hx]
  refine ⟨by simpa using h.len, h.dgs.set _ _ (by rw [e]; exact (hlL_dgs a ha).getD b32_pos i), fun j hj => ?_⟩
  by_cases hji : j = i
  · subst hji
    rw [List.getD_eq_getElem?_getD, List.getElem?_set_self (by rw [h.len]; exact hi)]
    exact e
  · have := h.val j (by omega)
    rw [← this, List.getD_eq_getElem?_getD, List.getElem?_set_ne (by omega), List.getD_eq_getElem?_getD]

end Go.Proofs.Ytmfochplnchgcaa

/- THE WALKS OF THE REFERENCE's Bits and Shifted. -/
namespace Go.Proofs.Ytmfochplnchgcaa
open Go.RowKit

/-- The number of bits. -/
def bl (m : Nat) : Nat := if m = 0 then 0 else Nat.log2 m + 1
theorem bl_zero : bl 0 = 0 := rfl
theorem bl_spec (m : Nat) (h : m ≠ 0) : 1 ≤ bl m ∧ 2 ^ (bl m - 1) ≤ m ∧ m < 2 ^ bl m := by
  unfold bl
  rw [if_neg h]
  exact ⟨by omega, by simpa using Nat.log2_self_le h, Nat.lt_log2_self⟩
theorem bl_lt (m : Nat) : m < 2 ^ bl m := by
  rcases Nat.eq_zero_or_pos m with rfl | h
  · exact Nat.two_pow_pos _
  · exact (bl_spec m (by omega)).2.2
theorem bl_eq {m k : Nat} (h1 : 2 ^ k ≤ m) (h2 : m < 2 ^ (k + 1)) : bl m = k + 1 := by
  have h0 : m ≠ 0 := by have := Nat.two_pow_pos k; omega
  obtain ⟨a, b, c⟩ := bl_spec m h0
  have e1 := (Nat.pow_lt_pow_iff_right (a := 2) (by omega)).1 (Nat.lt_of_le_of_lt b h2)
  have e2 := (Nat.pow_lt_pow_iff_right (a := 2) (by omega)).1 (Nat.lt_of_le_of_lt h1 c)
  omega
theorem bl_le (x k : Nat) (h : x < 2 ^ k) : bl x ≤ k := by
  by_cases h0 : x = 0
  · subst h0; rw [bl_zero]; omega
  · have h1 := (Nat.pow_lt_pow_iff_right (a := 2) (by omega)).1 (Nat.lt_of_le_of_lt (bl_spec x h0).2.1 h)
    omega
theorem bl_half (x : Nat) (h : x ≠ 0) : bl x = bl (x / 2) + 1 := by
  by_cases h1 : x = 1
  · subst h1; rfl
  · obtain ⟨a, b, c⟩ := bl_spec (x / 2) (by omega)
    have e : 2 ^ (bl (x / 2) + 1) = 2 * 2 ^ bl (x / 2) := by rw [Nat.pow_succ]; omega
    have e2 : 2 ^ bl (x / 2) = 2 * 2 ^ (bl (x / 2) - 1) := by rw [← Nat.pow_succ']; congr 1; omega
    exact bl_eq (by omega) (by omega)
theorem bl_low (L a x : Nat) (ha : a < 2 ^ L) (hx : x ≠ 0) : bl (a + 2 ^ L * x) = L + bl x := by
  obtain ⟨h1, h2, h3⟩ := bl_spec x hx
  have e : L + bl x = L + (bl x - 1) + 1 := by omega
  rw [e]
  apply bl_eq
  · rw [Nat.pow_add]
    have := Nat.mul_le_mul_left (2 ^ L) h2
    omega
  · rw [show L + (bl x - 1) + 1 = L + bl x by omega, Nat.pow_add]
    have : 2 ^ L * (x + 1) ≤ 2 ^ L * 2 ^ bl x := Nat.mul_le_mul_left _ h3
    rw [Nat.mul_add, Nat.mul_one] at this
    omega
theorem b32_pow32 (L : Nat) : b32 ^ L = 2 ^ (32 * L) := by rw [b32_pow, ← Nat.pow_mul]
theorem bl_dig (m : Nat) (h : m ≠ 0) : bl m = 32 * ((dig b32 m).length - 1) + bl ((dig b32 m).getD ((dig b32 m).length - 1) 0) := by
  have hne : dig b32 m ≠ [] := by rw [Ne, dig_nil_iff b32_two]; exact h
  have hl : 0 < (dig b32 m).length := List.length_pos_iff.2 hne
  have h1 := lv_take_succ b32 (dig b32 m) ((dig b32 m).length - 1) (by omega)
  rw [Nat.sub_add_cancel hl, List.take_length, lv_dig b32_two] at h1
  have h2 := lv_lt ((dgs_dig b32_two m).take ((dig b32 m).length - 1))
  have e : ((dig b32 m).take ((dig b32 m).length - 1)).length = (dig b32 m).length - 1 := by simp
  rw [e] at h2
  have h3 : (dig b32 m).getD ((dig b32 m).length - 1) 0 ≠ 0 := by
    have := dig_last b32_two m hne
    rw [List.getLast_eq_getElem] at this
    simpa [show (dig b32 m).length - 1 < (dig b32 m).length by omega] using this
  generalize (dig b32 m).getD ((dig b32 m).length - 1) 0 = x at *
  generalize lv b32 ((dig b32 m).take ((dig b32 m).length - 1)) = a at *
  generalize (dig b32 m).length - 1 = L at *
  rw [b32_pow32] at h1 h2
  rw [h1]
  exact bl_low _ _ _ h2 h3
theorem bl_top (m : Nat) (h : m ≠ 0) : (dig b32 m).getD ((dig b32 m).length - 1) 0 ≠ 0 := by
  have hne : dig b32 m ≠ [] := by rw [Ne, dig_nil_iff b32_two]; exact h
  have hl : 0 < (dig b32 m).length := List.length_pos_iff.2 hne
  have := dig_last b32_two m hne
  rw [List.getLast_eq_getElem] at this
  simpa [show (dig b32 m).length - 1 < (dig b32 m).length by omega] using this

def RetIntS (n : Int) (w : World) (e : Ending) (w' : World) : Prop := e = .returned (.int .i64 n) ∧ w' = w

end Go.Proofs.Ytmfochplnchgcaa

/- THE WALK OF THE REFERENCE's Shifted. -/
namespace Go.Proofs.Ytmfochplnchgcaa
open Go.RowKit

end Go.Proofs.Ytmfochplnchgcaa

/- THE WALK OF THE REFERENCE's Quotient. -/
namespace Go.Proofs.Ytmfochplnchgcaa
open Go.RowKit

def RetTwo32 (q r : Nat) (w : World) (e : Ending) (w' : World) : Prop :=
  ∃ v1 v2, e = .returned (.tuple #[v1, v2]) ∧ IsNat .u32 b32 w' v1 q ∧ IsNat .u32 b32 w' v2 r ∧ Below w.heap.size w w'

/-- Bits of the quotient from j on are done. -/
structure QuIn (m d n j : Nat) (o : List Nat) (a : Nat) : Prop where
  len : o.length = n / 32 + 1
  dgs : Dgs b32 o
  val : m = lv b32 o * d + a
  lt : a < d * 2 ^ j
  dvd : ∀ k, 2 ^ (j - 32 * k) ∣ o.getD k 0

theorem QuIn.start (m d : Nat) (hd : d ≠ 0) (n : Nat) (hn : bl d + n = bl m) : QuIn m d n (n + 1) (List.replicate (n / 32 + 1) 0) m := by
  refine ⟨by simp, Dgs.replicate b32_pos _, by simp [lv_replicate], ?_, fun k => ?_⟩
  · have h1 := bl_lt m
    obtain ⟨h2, h3, _⟩ := bl_spec d hd
    have e : bl m = (bl d - 1) + (n + 1) := by omega
    rw [e, Nat.pow_add] at h1
    exact Nat.lt_of_lt_of_le h1 (Nat.mul_le_mul_right _ h3)
  · have : (List.replicate (n / 32 + 1) 0).getD k 0 = 0 := by simp [List.getElem?_replicate]; split <;> rfl
    rw [this]
    exact Nat.dvd_zero _

theorem QuIn.skip {m d n i : Nat} {o : List Nat} {a : Nat} (h : QuIn m d n (i + 1) o a) (ha : a < d * 2 ^ i) : QuIn m d n i o a :=
  ⟨h.len, h.dgs, h.val, ha, fun k => Nat.dvd_trans (Nat.pow_dvd_pow 2 (by omega)) (h.dvd k)⟩

theorem QuIn.room {m d n i : Nat} {o : List Nat} {a : Nat} (h : QuIn m d n (i + 1) o a) : o.getD (i / 32) 0 + 2 ^ (i % 32) < b32 := by
  have h1 := h.dgs.getD b32_pos (i / 32)
  have h2 := h.dvd (i / 32)
  have e : i + 1 - 32 * (i / 32) = i % 32 + 1 := by omega
  rw [e] at h2
  generalize o.getD (i / 32) 0 = x at *
  have h3 : 2 ^ (i % 32 + 1) ∣ b32 := by rw [b32_pow]; exact Nat.pow_dvd_pow 2 (by omega)
  obtain ⟨c, rfl⟩ := h2
  obtain ⟨c2, hc2⟩ := h3
  rw [hc2] at h1 ⊢
  have h4 := Nat.lt_of_mul_lt_mul_left h1
  have h5 := Nat.mul_le_mul_left (2 ^ (i % 32 + 1)) h4
  have h6 : 2 ^ (i % 32 + 1) = 2 * 2 ^ (i % 32) := by rw [Nat.pow_succ]; omega
  have h7 := Nat.two_pow_pos (i % 32)
  rw [Nat.mul_succ] at h5
  omega

theorem QuIn.take {m d n i : Nat} {o : List Nat} {a : Nat} (h : QuIn m d n (i + 1) o a) (hi : i ≤ n) (ha : d * 2 ^ i ≤ a) (X : Nat) (hX : X = o.getD (i / 32) 0 + 2 ^ (i % 32)) :
    QuIn m d n i (o.set (i / 32) X) (a - d * 2 ^ i) := by
  have hlen : i / 32 < o.length := by rw [h.len]; have := Nat.div_le_div_right (c := 32) hi; omega
  have hroom := h.room
  refine ⟨by simpa using h.len, h.dgs.set _ _ (by omega), ?_, ?_, fun k => ?_⟩
  · have h1 := lv_set b32 o (i / 32) X hlen
    have e : b32 ^ (i / 32) * X = b32 ^ (i / 32) * o.getD (i / 32) 0 + 2 ^ i := by
      rw [hX, Nat.mul_add, b32_pow32, ← Nat.pow_add, Nat.div_add_mod]
    rw [e] at h1
    have e2 : lv b32 (o.set (i / 32) X) = lv b32 o + 2 ^ i := by omega
    rw [e2, Nat.add_mul, Nat.mul_comm (2 ^ i) d]
    have := h.val
    omega
  · have := h.lt
    rw [Nat.pow_succ, ← Nat.mul_assoc] at this
    omega
  · by_cases hk : k = i / 32
    · subst hk
      have e3 : (o.set (i / 32) X).getD (i / 32) 0 = X := by rw [List.getD_eq_getElem?_getD, List.getElem?_set_self hlen]; rfl
      rw [e3, hX]
      have e : i - 32 * (i / 32) = i % 32 := by omega
      rw [e]
      refine Nat.dvd_add (Nat.dvd_trans (Nat.pow_dvd_pow 2 ?_) (h.dvd (i / 32))) (Nat.dvd_refl _)
      omega
    · have e3 : (o.set (i / 32) X).getD k 0 = o.getD k 0 := by
        rw [List.getD_eq_getElem?_getD, List.getElem?_set_ne (by omega), List.getD_eq_getElem?_getD]
      rw [e3]
      exact Nat.dvd_trans (Nat.pow_dvd_pow 2 (by omega)) (h.dvd k)

theorem QuIn.done {m d n : Nat} {o : List Nat} {a : Nat} (h : QuIn m d n 0 o a) : lv b32 o = m / d ∧ a = m % d := by
  have hl := h.lt
  rw [Nat.pow_zero, Nat.mul_one] at hl
  have hd : 0 < d := by omega
  rw [h.val]
  constructor
  · rw [Nat.add_comm, Nat.add_mul_div_right _ _ hd, Nat.div_eq_of_lt hl, Nat.zero_add]
  · rw [Nat.add_comm, Nat.add_mul_mod_self_right, Nat.mod_eq_of_lt hl]

theorem IsNat.own_lt {k : IntKind} {B n : Nat} {w : World} {v : Value} (hB : 2 ≤ B) (h : IsNat k B w v n) (hn : n ≠ 0) {g : Nat} (hg : v.ownBlock = some g) : g < w.heap.size := by
  rcases h with ⟨h0, _⟩ | ⟨h0, b, off, cap, rfl, h1, h2, h3, h4⟩
  · exact absurd ((dig_nil_iff hB n).1 h0) hn
  · simp [Value.ownBlock] at hg
    omega
theorem cmpN_ge {a b : Nat} (h : b ≤ a) : decide (cmpN a b ≥ 0) = true := by
  unfold cmpN
  rw [if_neg (by omega)]
  split <;> rfl
theorem cmpN_nge {a b : Nat} (h : ¬ b ≤ a) : decide (cmpN a b ≥ 0) = false := by
  unfold cmpN
  rw [if_pos (by omega)]
  rfl
theorem cmpN_gt {a b : Nat} (h : b < a) : decide (cmpN a b > 0) = true := by
  unfold cmpN
  rw [if_neg (by omega), if_pos h]
  rfl
theorem cmpN_ngt {a b : Nat} (h : ¬ b < a) : decide (cmpN a b > 0) = false := by
  unfold cmpN
  rw [if_neg h]
  split <;> rfl
theorem bl_lt_of {m d : Nat} (h : bl m < bl d) : m < d := by
  have hd : d ≠ 0 := by intro e; subst e; rw [bl_zero] at h; omega
  have h1 := bl_lt m
  have h2 := (bl_spec d hd).2.1
  have h3 : 2 ^ bl m ≤ 2 ^ (bl d - 1) := Nat.pow_le_pow_right (by omega) (by omega)
  omega
theorem bl_dig_le (m : Nat) : bl m ≤ 32 * (dig b32 m).length := by
  have h := lt_pow_dig_length b32_two m
  rw [b32_pow32] at h
  exact bl_le _ _ h

end Go.Proofs.Ytmfochplnchgcaa

/- THE WALK OF math/bits.Div64. -/
namespace Go.Proofs.Ytmfochplnchgcaa
open Go.RowKit

/-- math/bits.LeadingZeros64, as a natural number. -/
theorem lz64_any (x : Nat) (w : World) (hx : x < b64) (s : Nat) (hs : s + Lib.bitLen x = 64) :
    Calls Try.prog 76 #[.int .u64 x] w fun e w' => e = .returned (.int .i64 (s : Nat)) ∧ w = w' := by
  unfold b64 at hx
  refine (Try.bits_LeadingZeros64 x w (by omega) (by omega)).mono fun e w' ⟨h1, h2⟩ => ⟨?_, h2.symm⟩
  rw [h1, Int.toNat_natCast]
  congr 2
  omega


/-- The numbers of Div64's walk, behind names, and what is known of them. -/
structure Nums (hi lo y s Y v1 v0 U M d1 d0 : Nat) : Prop where
  eY : Y = y * 2 ^ s
  eYd : Y = v1 * b32 + v0
  v1l : b32 ≤ 2 * v1
  v1u : v1 < b32
  v0u : v0 < b32
  eU : U = hi * 2 ^ s + lo / 2 ^ (64 - s)
  UY : U < Y
  eM : M = lo * 2 ^ s % b64
  eMd : M = d1 * b32 + d0
  d1u : d1 < b32
  d0u : d0 < b32
  all : U * (b32 * b32) + d1 * b32 + d0 = (hi * b64 + lo) * 2 ^ s

theorem wrapR {U d1 q1 Y R : Nat} (h : U * b32 + d1 = Y * q1 + R) (hR : R < Y) (hY : Y < b64) :
    IntKind.u64.wrap (IntKind.u64.wrap (IntKind.u64.wrap ((U : Int) * 4294967296) + d1) - IntKind.u64.wrap ((q1 : Int) * Y)) = (R : Int) := by
  simp only [IntKind.wrap_u64]
  unfold b32 at h
  unfold b64 at hY
  have h2 : ((Y * q1 : Nat) : Int) = (q1 : Int) * Y := by rw [Int.natCast_mul, Int.mul_comm]
  omega

theorem wrapQ {q1 q0 Q : Nat} (h : q1 * b32 + q0 = Q) (hQ : Q < b64) : IntKind.u64.wrap (IntKind.u64.wrap ((q1 : Int) * 4294967296) + q0) = (Q : Int) := by
  simp only [IntKind.wrap_u64]
  unfold b32 at h
  unfold b64 at hQ
  omega

theorem Nums.last {hi lo y s Y v1 v0 U M d1 d0 q1 R q0 R0 : Nat} (hn : Nums hi lo y s Y v1 v0 U M d1 d0) (hy : 0 < y) (h1 : q1 = (U * b32 + d1) / Y) (hR : R = (U * b32 + d1) % Y) (h0 : q0 = (R * b32 + d0) / Y) (hR0 : R0 = (R * b32 + d0) % Y) :
    q1 * b32 + q0 = (hi * b64 + lo) / y ∧ R0 / 2 ^ s = (hi * b64 + lo) % y := by
  have hp : 0 < 2 ^ s := Nat.two_pow_pos s
  have hY : 0 < Y := by rw [hn.eY]; exact Nat.mul_pos hy hp
  have h := two_halves hY hn.UY hn.d0u h1 hR h0
  rw [hn.all, hn.eY] at h
  rw [Nat.mul_div_mul_right _ _ hp, Nat.mul_mod_mul_right] at h
  refine ⟨h.1, ?_⟩
  rw [hR0, hn.eY, h.2, Nat.mul_div_cancel _ hp]

set_option maxRecDepth 100000 in
set_option maxHeartbeats 1000000 in
theorem div64_walk (hi lo y s Y v1 v0 U M d1 d0 H L : Nat) (w : World) (hs : s + Lib.bitLen y = 64) (hs1 : s ≤ 63) (hn : Nums hi lo y s Y v1 v0 U M d1 d0)
    (hy : y < b64) (hh : hi < y) (h0 : 0 < hi)
    (e1 : IntKind.u64.wrap ((y : Int) * 2 ^ s) = (Y : Int)) (e2 : (Y : Int) / 4294967296 = v1) (e3 : bits .and .u64 (Y : Int) 4294967295 = v0)
    (e4 : IntKind.u64.wrap ((hi : Int) * 2 ^ s) = (H : Int)) (e5 : (lo : Int) / 2 ^ (64 - s) = (L : Int)) (e6 : bits .or .u64 (H : Int) (L : Int) = (U : Int))
    (e7 : IntKind.u64.wrap ((lo : Int) * 2 ^ s) = (M : Int)) (e8 : (M : Int) / 4294967296 = d1) (e9 : bits .and .u64 (M : Int) 4294967295 = d0)
    (q r : Nat) (e10 : (U : Int) / v1 = q) (e11 : (U : Int) - q * v1 = r) (g1 : (q : Int) * v1 ≤ U) (g2 : (U : Int) ≤ 18446744073709551615) (g3 : 1 ≤ (v1 : Int)) (g4 : 0 ≤ (q : Int) * v1) (g5 : (q : Int) ≤ 4294967297) (G : Guess b32 v1 v0 U d1 q r) (hr : r ≤ 4294967295) (hY : Y < b64) (hlo : lo < b64) :
    Calls Try.prog 86 #[.int .u64 hi, .int .u64 lo, .int .u64 y] w fun e w' => e = .returned (.tuple #[.int .u64 ((hi * b64 + lo) / y : Nat), .int .u64 ((hi * b64 + lo) % y : Nat)]) ∧ Quiet w w' := by
  have c1 : ((y : Int) == 0) = false := by simp; omega
  have c2 : ((hi : Int) == 0) = false := by simp; omega
  have c3 : (hi : Int) < y := by omega
  have Hs := Lib.hid hs
  have Hy := Lib.hid hy
  have Hn := Lib.hid hn
  clear hs hy hn
  go_enter Try.func86, Try.ntmps86
  go_wp2_with fail
  refine (lz64_any y _ Hy.out s Hs.out).mono ?_
  rintro e w' ⟨rfl, rfl⟩
  have HG := Lib.hid G
  clear G
  go_upto_block 0 with (fail)
  have G5 : Hid (q ≤ 4294967297) := by show _ ≤ _; omega
  have G6 := Lib.hid hr
  have HY := Lib.hid hY
  have Hlo := Lib.hid hlo
  clear hlo
  clear hr hY
  clear e1 e2 e3 e4 e5 e6 e7 e8 e9 e10 e11 g1 g2 g4 g5
  have V0 := Lib.hid (show 0 < v1 * b32 + v0 by have := Hn.out.UY; rw [Hn.out.eYd] at this; omega)
  have b1 : (v1 : Int) ≤ 4294967295 := by have := Hn.out.v1u; unfold b32 at this; omega
  have b2 : (v0 : Int) ≤ 4294967295 := by have := Hn.out.v0u; unfold b32 at this; omega
  have b3 : (d1 : Int) ≤ 4294967295 := by have := Hn.out.d1u; unfold b32 at this; omega
  go_cut [15, 16] (fun qv rv wx => wx = w ∧ (∃ x, rv = x) ∧ qv = .int .u64 ((U * b32 + d1) / (v1 * b32 + v0) : Nat))
  case first =>
    go_wp2_with fail
    go_loop [15, 16] (fun qv rv => ∃ q r : Nat, qv = .int .u64 q ∧ rv = .int .u64 r ∧ r ≤ 4294967295 ∧ q ≤ 4294967297 ∧ Hid (Guess b32 v1 v0 U d1 q r)) (fun qv _ => (intOf qv).toNat)
    case atStart => exact ⟨q, r, rfl, rfl, G6.out, G5.out, HG.out⟩
    case round =>
      obtain ⟨q, r, rfl, rfl, hr, hq, hG⟩ := hrel
      by_cases t1 : (4294967296 : Int) ≤ q
      · have t1' : decide ((4294967296 : Int) ≤ q) = true := by simpa using t1
        have f := hG.out.less V0.out (by rw [← Hn.out.eYd]; exact Hn.out.UY) Hn.out.d1u (.inl (by unfold b32; omega))
        have f1 := f.1
        have F := Lib.hid f.2
        clear f t1
        by_cases t2 : (4294967296 : Int) ≤ (r : Int) + v1
        · have t2' : decide ((4294967296 : Int) ≤ (r : Int) + v1) = true := by simpa using t2
          have t2x := Lib.hid t2
          clear t2
          go_upto_region 20 with (fail)
          go_wp2_with fail
          go_meet
          case rel =>
            have hb := F.out.broke V0.out Hn.out.v0u (by have := F.out.hi; unfold b32 at *; have := t2x.out; omega) (by have := t2x.out; unfold b32; omega)
            exact ⟨rfl, ⟨_, rfl⟩, by rw [← hb]; go_num⟩
        · have t2' : decide ((4294967296 : Int) ≤ (r : Int) + v1) = false := by simpa using t2
          go_upto_region 20 with (fail)
          go_wp2_with fail
          exact ⟨⟨q - 1, r + v1, by go_num, by go_num, by omega, by omega, F.out⟩, by simp [intOf]; omega⟩
      · have t1' : decide ((4294967296 : Int) ≤ q) = false := by simpa using t1
        have m1 : (q : Int) * v0 ≤ 18446744073709551615 := by
          have : q * v0 ≤ 4294967295 * 4294967295 := Nat.mul_le_mul (by omega) (by omega)
          have : ((q * v0 : Nat) : Int) ≤ 18446744073709551615 := by omega
          rwa [Int.natCast_mul] at this
        have m2 : 0 ≤ (q : Int) * v0 := by rw [← Int.natCast_mul]; omega
        by_cases t3 : (4294967296 : Int) * r + d1 < (q : Int) * v0
        · have t3' : decide ((4294967296 : Int) * r + d1 < (q : Int) * v0) = true := by simpa using t3
          have T3 : b32 * r + d1 < q * v0 := by
            unfold b32
            have : ((q * v0 : Nat) : Int) = (q : Int) * v0 := Int.natCast_mul _ _
            omega
          have f := hG.out.less V0.out (by rw [← Hn.out.eYd]; exact Hn.out.UY) Hn.out.d1u (.inr T3)
          have f1 := f.1
          have F := Lib.hid f.2
          clear f t1 t3 T3
          by_cases t2 : (4294967296 : Int) ≤ (r : Int) + v1
          · have t2' : decide ((4294967296 : Int) ≤ (r : Int) + v1) = true := by simpa using t2
            have t2x := Lib.hid t2
            have hqx : Hid (q ≤ 4294967296) := by show _ ≤ _; have : ¬ ((4294967296 : Int) ≤ q) := by simpa using t1'
                                                  omega
            clear t2
            go_upto_region 20 with (fail)
            go_wp2_with fail
            go_meet
            case rel =>
              have hb := F.out.broke V0.out Hn.out.v0u (by have := hqx.out; unfold b32; omega) (by have := t2x.out; unfold b32; omega)
              exact ⟨rfl, ⟨_, rfl⟩, by rw [← hb]; go_num⟩
          · have t2' : decide ((4294967296 : Int) ≤ (r : Int) + v1) = false := by simpa using t2
            go_upto_region 20 with (fail)
            go_wp2_with fail
            exact ⟨⟨q - 1, r + v1, by go_num, by go_num, by omega, by omega, F.out⟩, by simp [intOf]; omega⟩
        · have t3' : decide ((4294967296 : Int) * r + d1 < (q : Int) * v0) = false := by simpa using t3
          have T3 : Hid (q * v0 ≤ b32 * r + d1) := by
            show q * v0 ≤ b32 * r + d1
            unfold b32
            have : ((q * v0 : Nat) : Int) = (q : Int) * v0 := Int.natCast_mul _ _
            omega
          clear t1 t3
          go_wp2_with fail
          go_meet
          case rel =>
            have hb := hG.out.done V0.out T3.out
            exact ⟨rfl, ⟨_, rfl⟩, by rw [← hb]⟩
  case rest =>
    obtain ⟨rfl, ⟨rv, rfl⟩, rfl⟩ := hcut
    rw [← Hn.out.eYd]
    obtain ⟨q1, hq1⟩ : ∃ q1, q1 = (U * b32 + d1) / Y := ⟨_, rfl⟩
    obtain ⟨R, hR⟩ : ∃ R, R = (U * b32 + d1) % Y := ⟨_, rfl⟩
    have hYp : 0 < Y := by rw [Hn.out.eYd]; exact V0.out
    have hRY : R < Y := by rw [hR]; exact Nat.mod_lt _ hYp
    have e12 := wrapR (U := U) (d1 := d1) (q1 := q1) (Y := Y) (R := R) (by rw [hq1, hR]; exact (Nat.div_add_mod _ _).symm) hRY HY.out
    obtain ⟨qq, hqq⟩ : ∃ qq, qq = R / v1 := ⟨_, rfl⟩
    obtain ⟨rr, hrr⟩ : ∃ rr, rr = R % v1 := ⟨_, rfl⟩
    have hv1p : 0 < v1 := by omega
    have hdm := Nat.div_add_mod R v1
    rw [← hqq, ← hrr] at hdm
    have hdm' : (v1 : Int) * qq + rr = R := by rw [← Int.natCast_mul]; omega
    have e13 : (R : Int) / v1 = qq := by rw [hqq]; rfl
    have e14 : (R : Int) - qq * v1 = rr := by rw [Int.mul_comm (qq : Int)]; omega
    have g6 : (qq : Int) * v1 ≤ R := by rw [Int.mul_comm (qq : Int)]; omega
    have g7 : (R : Int) ≤ 18446744073709551615 := by have := HY.out; unfold b64 at this; omega
    have g8 : 0 ≤ (qq : Int) * v1 := by rw [← Int.natCast_mul]; omega
    have G2 := Guess.first (b := b32) (v1 := v1) (v0 := v0) (u := R) (d := d0) b32_two Hn.out.v1l Hn.out.v0u (by rw [← Hn.out.eYd]; exact hRY) Hn.out.d0u
    rw [← hqq, ← hrr] at G2
    have g9 : (qq : Int) ≤ 4294967297 := by have := G2.hi; unfold b32 at this; omega
    have HG2 := Lib.hid G2
    have Hq1 := Lib.hid hq1
    have HR := Lib.hid hR
    have HRY := Lib.hid hRY
    have Hrr : Hid (rr ≤ 4294967295) := by
      show rr ≤ 4294967295
      have := Nat.mod_lt R hv1p
      have h2 := Hn.out.v1u
      unfold b32 at h2
      omega
    have G9 : Hid (qq ≤ 4294967297) := by show _ ≤ _; omega
    clear G2 hqq hrr hdm hdm' hR hYp hRY hv1p
    rw [← hq1]
    clear hq1
    go_upto_block 2 with (fail)
    clear e12 e13 e14 g6 g7 g8
    have b4 : (d0 : Int) ≤ 4294967295 := by have := Hn.out.d0u; unfold b32 at this; omega
    go_cut [18, 16] (fun qv rv wx => wx = wc ∧ (∃ x, rv = x) ∧ qv = .int .u64 ((R * b32 + d0) / (v1 * b32 + v0) : Nat))
    case first =>
      go_wp2_with fail
      go_loop [18, 16] (fun qv rv => ∃ q r : Nat, qv = .int .u64 q ∧ rv = .int .u64 r ∧ r ≤ 4294967295 ∧ q ≤ 4294967297 ∧ Hid (Guess b32 v1 v0 R d0 q r)) (fun qv _ => (intOf qv).toNat)
      case atStart => exact ⟨qq, rr, rfl, rfl, Hrr.out, G9.out, HG2.out⟩
      case round =>
        obtain ⟨q, r, rfl, rfl, hr, hq, hG⟩ := hrel
        by_cases t1 : (4294967296 : Int) ≤ q
        · have t1' : decide ((4294967296 : Int) ≤ q) = true := by simpa using t1
          have f := hG.out.less V0.out (by rw [← Hn.out.eYd]; exact HRY.out) Hn.out.d0u (.inl (by unfold b32; omega))
          have f1 := f.1
          have F := Lib.hid f.2
          clear f t1
          by_cases t2 : (4294967296 : Int) ≤ (r : Int) + v1
          · have t2' : decide ((4294967296 : Int) ≤ (r : Int) + v1) = true := by simpa using t2
            have t2x := Lib.hid t2
            clear t2
            go_upto_region 27 with (fail)
            go_wp2_with fail
            go_meet
            case rel =>
              have hb := F.out.broke V0.out Hn.out.v0u (by have := F.out.hi; unfold b32 at *; have := t2x.out; omega) (by have := t2x.out; unfold b32; omega)
              exact ⟨rfl, ⟨_, rfl⟩, by rw [← hb]; go_num⟩
          · have t2' : decide ((4294967296 : Int) ≤ (r : Int) + v1) = false := by simpa using t2
            go_upto_region 27 with (fail)
            go_wp2_with fail
            exact ⟨⟨q - 1, r + v1, by go_num, by go_num, by omega, by omega, F.out⟩, by simp [intOf]; omega⟩
        · have t1' : decide ((4294967296 : Int) ≤ q) = false := by simpa using t1
          have m1 : (q : Int) * v0 ≤ 18446744073709551615 := by
            have : q * v0 ≤ 4294967295 * 4294967295 := Nat.mul_le_mul (by omega) (by omega)
            have : ((q * v0 : Nat) : Int) ≤ 18446744073709551615 := by omega
            rwa [Int.natCast_mul] at this
          have m2 : 0 ≤ (q : Int) * v0 := by rw [← Int.natCast_mul]; omega
          by_cases t3 : (4294967296 : Int) * r + d0 < (q : Int) * v0
          · have t3' : decide ((4294967296 : Int) * r + d0 < (q : Int) * v0) = true := by simpa using t3
            have T3 : b32 * r + d0 < q * v0 := by
              unfold b32
              have : ((q * v0 : Nat) : Int) = (q : Int) * v0 := Int.natCast_mul _ _
              omega
            have f := hG.out.less V0.out (by rw [← Hn.out.eYd]; exact HRY.out) Hn.out.d0u (.inr T3)
            have f1 := f.1
            have F := Lib.hid f.2
            clear f t1 t3 T3
            by_cases t2 : (4294967296 : Int) ≤ (r : Int) + v1
            · have t2' : decide ((4294967296 : Int) ≤ (r : Int) + v1) = true := by simpa using t2
              have t2x := Lib.hid t2
              have hqx : Hid (q ≤ 4294967296) := by show _ ≤ _; have : ¬ ((4294967296 : Int) ≤ q) := by simpa using t1'
                                                    omega
              clear t2
              go_upto_region 27 with (fail)
              go_wp2_with fail
              go_meet
              case rel =>
                have hb := F.out.broke V0.out Hn.out.v0u (by have := hqx.out; unfold b32; omega) (by have := t2x.out; unfold b32; omega)
                exact ⟨rfl, ⟨_, rfl⟩, by rw [← hb]; go_num⟩
            · have t2' : decide ((4294967296 : Int) ≤ (r : Int) + v1) = false := by simpa using t2
              go_upto_region 27 with (fail)
              go_wp2_with fail
              exact ⟨⟨q - 1, r + v1, by go_num, by go_num, by omega, by omega, F.out⟩, by simp [intOf]; omega⟩
          · have t3' : decide ((4294967296 : Int) * r + d0 < (q : Int) * v0) = false := by simpa using t3
            have T3 : Hid (q * v0 ≤ b32 * r + d0) := by
              show q * v0 ≤ b32 * r + d0
              unfold b32
              have : ((q * v0 : Nat) : Int) = (q : Int) * v0 := Int.natCast_mul _ _
              omega
            clear t1 t3
            go_wp2_with fail
            go_meet
            case rel =>
              have hb := hG.out.done V0.out T3.out
              exact ⟨rfl, ⟨_, rfl⟩, by rw [← hb]⟩
    case rest =>
      obtain ⟨rfl, ⟨rv, rfl⟩, rfl⟩ := hcut
      rw [← Hn.out.eYd]
      obtain ⟨q0, hq0⟩ : ∃ q0, q0 = (R * b32 + d0) / Y := ⟨_, rfl⟩
      obtain ⟨R0, hR0⟩ : ∃ R0, R0 = (R * b32 + d0) % Y := ⟨_, rfl⟩
      have hYp : 0 < Y := by rw [Hn.out.eYd]; exact V0.out
      have hyp : 0 < y := by omega
      have hl := Hn.out.last hyp Hq1.out HR.out hq0 hR0
      have e15 := wrapR (U := R) (d1 := d0) (q1 := q0) (Y := Y) (R := R0) (by rw [hq0, hR0]; exact (Nat.div_add_mod _ _).symm) (by rw [hR0]; exact Nat.mod_lt _ hYp) HY.out
      have hQ : (hi * b64 + lo) / y < b64 := quo_lt hyp hh Hlo.out
      have e16 := wrapQ hl.1 hQ
      have e17 : (R0 : Int) / 2 ^ s = (((hi * b64 + lo) % y : Nat) : Int) := by
        have := hl.2
        rw [← this, Int.natCast_ediv]
        rfl
      obtain ⟨Q, hQq⟩ : ∃ Q, Q = (hi * b64 + lo) / y := ⟨_, rfl⟩
      obtain ⟨Rm, hRm⟩ : ∃ Rm, Rm = (hi * b64 + lo) % y := ⟨_, rfl⟩
      have HQ := Lib.hid hQq
      have HRm := Lib.hid hRm
      rw [← hQq] at e16
      rw [← hRm] at e17
      rw [← hq0]
      clear hQq hRm hl hQ hq0 hR0 hYp hyp
      go_wp2_with fail
      go_ret2
      refine ⟨?_, .refl _⟩
      rw [← HQ.out, ← HRm.out]
      rfl


theorem bits_or_nat (a b : Nat) (ha : a < b64) (hb : b < b64) : bits .or .u64 (a : Int) (b : Int) = ((a ||| b : Nat) : Int) := by
  unfold b64 at *
  have hx : a ||| b < 2 ^ 64 := Nat.or_lt_two_pow (by omega) (by omega)
  have h1 : (BitVec.ofInt 64 (a : Int)).toNat = a := by
    rw [BitVec.ofInt_natCast, BitVec.toNat_ofNat]; exact Nat.mod_eq_of_lt (by omega)
  have h2 : (BitVec.ofInt 64 (b : Int)).toNat = b := by
    rw [BitVec.ofInt_natCast, BitVec.toNat_ofNat]; exact Nat.mod_eq_of_lt (by omega)
  show IntKind.u64.wrap ((BitVec.ofInt 64 (a : Int) ||| BitVec.ofInt 64 (b : Int)).toNat : Int) = _
  rw [BitVec.toNat_or, h1, h2, IntKind.wrap_u64]
  omega

theorem bits_and_nat (a b : Nat) (ha : a < b64) (hb : b < b64) : bits .and .u64 (a : Int) (b : Int) = ((a &&& b : Nat) : Int) := by
  unfold b64 at *
  have hx : a &&& b ≤ a := Nat.and_le_left
  have h1 : (BitVec.ofInt 64 (a : Int)).toNat = a := by
    rw [BitVec.ofInt_natCast, BitVec.toNat_ofNat]; exact Nat.mod_eq_of_lt (by omega)
  have h2 : (BitVec.ofInt 64 (b : Int)).toNat = b := by
    rw [BitVec.ofInt_natCast, BitVec.toNat_ofNat]; exact Nat.mod_eq_of_lt (by omega)
  show IntKind.u64.wrap ((BitVec.ofInt 64 (a : Int) &&& BitVec.ofInt 64 (b : Int)).toNat : Int) = _
  rw [BitVec.toNat_and, h1, h2, IntKind.wrap_u64]
  omega

theorem bits_low32 (a : Nat) (ha : a < b64) : bits .and .u64 (a : Int) 4294967295 = ((a % 4294967296 : Nat) : Int) := by
  have := bits_and_nat a 4294967295 ha (by unfold b64; omega)
  have e : a &&& 4294967295 = a % 4294967296 := Nat.and_two_pow_sub_one_eq_mod a 32
  rw [e] at this
  exact this

theorem bitLenAux_spec : ∀ (f x : Nat), x < 2 ^ f → x < 2 ^ Lib.bitLenAux f x ∧ (x ≠ 0 → 1 ≤ Lib.bitLenAux f x ∧ 2 ^ (Lib.bitLenAux f x - 1) ≤ x) ∧ Lib.bitLenAux f x ≤ f := by
  intro f
  induction f with
  | zero => intro x hx; simp at hx; subst hx; simp [Lib.bitLenAux]
  | succ f ih =>
    intro x hx
    by_cases h0 : x = 0
    · subst h0; simp [Lib.bitLenAux]
    · have e : Lib.bitLenAux (f + 1) x = 1 + Lib.bitLenAux f (x / 2) := by simp [Lib.bitLenAux, h0]
      obtain ⟨h1, h2, h3⟩ := ih (x / 2) (by rw [Nat.pow_succ] at hx; omega)
      rw [e]
      refine ⟨by rw [Nat.add_comm, Nat.pow_succ]; omega, fun _ => ⟨by omega, ?_⟩, by omega⟩
      rw [Nat.add_comm, Nat.add_sub_cancel]
      by_cases hx2 : x / 2 = 0
      · have : x = 1 := by omega
        subst this
        have : Lib.bitLenAux f 0 = 0 := by cases f <;> simp [Lib.bitLenAux]
        simp [this]
      · obtain ⟨h4, h5⟩ := h2 hx2
        have e2 : 2 ^ Lib.bitLenAux f (x / 2) = 2 * 2 ^ (Lib.bitLenAux f (x / 2) - 1) := by
          rw [← Nat.pow_succ']; congr 1; omega
        rw [e2]; omega

theorem bitLen_spec64 (x : Nat) (hx : x < b64) : x < 2 ^ Lib.bitLen x ∧ (x ≠ 0 → 1 ≤ Lib.bitLen x ∧ 2 ^ (Lib.bitLen x - 1) ≤ x) ∧ Lib.bitLen x ≤ 64 :=
  bitLenAux_spec 64 x (by rw [b64_pow] at hx; exact hx)

theorem div64_nums (hi lo y s : Nat) (hs : s + Lib.bitLen y = 64) (hs1 : s ≤ 63) (hy : y < b64) (hy0 : y ≠ 0) (hlo : lo < b64) (hh : hi < y) :
    ∃ Y v1 v0 U M d1 d0 : Nat, Nums hi lo y s Y v1 v0 U M d1 d0 ∧ Y < b64 ∧ hi * 2 ^ s < b64 ∧ v1 = Y / b32 ∧ v0 = Y % b32 ∧ d1 = M / b32 ∧ d0 = M % b32 := by
  obtain ⟨k1, k2, _⟩ := bitLen_spec64 y hy
  obtain ⟨k3, k4⟩ := k2 hy0
  have hp : 0 < 2 ^ s := Nat.two_pow_pos s
  have e64 : b64 = 2 ^ s * 2 ^ Lib.bitLen y := by rw [b64_pow, ← Nat.pow_add, hs]
  have e64' : b64 = 2 ^ s * 2 ^ (64 - s) := by rw [b64_pow, ← Nat.pow_add]; congr 1; omega
  have hYlt : y * 2 ^ s < b64 := by rw [e64, Nat.mul_comm]; exact Nat.mul_lt_mul_of_pos_left k1 hp
  have hYge : b64 ≤ 2 * (y * 2 ^ s) := by
    have : 2 ^ Lib.bitLen y = 2 * 2 ^ (Lib.bitLen y - 1) := by rw [← Nat.pow_succ']; congr 1; omega
    rw [e64, this]
    have h := Nat.mul_le_mul_left (2 ^ s) k4
    have e : 2 ^ s * (2 * 2 ^ (Lib.bitLen y - 1)) = 2 * (2 ^ s * 2 ^ (Lib.bitLen y - 1)) := by ac_rfl
    rw [e, Nat.mul_comm y]
    omega
  have hlo2 : lo / 2 ^ (64 - s) < 2 ^ s := by
    rw [Nat.div_lt_iff_lt_mul (Nat.two_pow_pos _), ← e64']; exact hlo
  have hUY : hi * 2 ^ s + lo / 2 ^ (64 - s) < y * 2 ^ s := by
    have : (hi + 1) * 2 ^ s ≤ y * 2 ^ s := Nat.mul_le_mul_right _ hh
    rw [Nat.add_mul, Nat.one_mul] at this
    omega
  have hM : lo * 2 ^ s % b64 = (lo % 2 ^ (64 - s)) * 2 ^ s := by
    rw [e64', Nat.mul_comm (2 ^ s) (2 ^ (64 - s)), Nat.mul_mod_mul_right]
  refine ⟨y * 2 ^ s, y * 2 ^ s / b32, y * 2 ^ s % b32, hi * 2 ^ s + lo / 2 ^ (64 - s), lo * 2 ^ s % b64, lo * 2 ^ s % b64 / b32, lo * 2 ^ s % b64 % b32, ?_, hYlt, Nat.lt_of_le_of_lt (Nat.le_add_right _ _) (Nat.lt_trans hUY hYlt), rfl, rfl, rfl, rfl⟩
  have hsq := b64_sq
  refine ⟨rfl, by rw [Nat.mul_comm (y * 2 ^ s / b32)]; exact (Nat.div_add_mod _ _).symm, ?_, ?_, Nat.mod_lt _ b32_pos, rfl, hUY, rfl, by rw [Nat.mul_comm (lo * 2 ^ s % b64 / b32)]; exact (Nat.div_add_mod _ _).symm, ?_, Nat.mod_lt _ b32_pos, ?_⟩
  · unfold b64 b32 at *; omega
  · rw [Nat.div_lt_iff_lt_mul b32_pos, ← hsq]; exact hYlt
  · rw [Nat.div_lt_iff_lt_mul b32_pos, ← hsq]; exact Nat.mod_lt _ b64_pos
  · have h1 : lo * 2 ^ s % b64 / b32 * b32 + lo * 2 ^ s % b64 % b32 = lo * 2 ^ s % b64 := by rw [Nat.mul_comm (lo * 2 ^ s % b64 / b32)]; exact Nat.div_add_mod _ _
    rw [Nat.add_assoc, h1, hM, ← hsq, Nat.add_mul]
    have h2 := Nat.div_add_mod lo (2 ^ (64 - s))
    have h3 : lo / 2 ^ (64 - s) * b64 + lo % 2 ^ (64 - s) * 2 ^ s = lo * 2 ^ s := by
      have : lo * 2 ^ s = (2 ^ (64 - s) * (lo / 2 ^ (64 - s)) + lo % 2 ^ (64 - s)) * 2 ^ s := by rw [h2]
      rw [this, Nat.add_mul, e64']
      have e5 : lo / 2 ^ (64 - s) * (2 ^ s * 2 ^ (64 - s)) = 2 ^ (64 - s) * (lo / 2 ^ (64 - s)) * 2 ^ s := by ac_rfl
      rw [e5]
    rw [Nat.add_mul, Nat.add_assoc, h3]
    have e6 : hi * 2 ^ s * b64 = hi * b64 * 2 ^ s := by ac_rfl
    rw [e6]

set_option maxRecDepth 100000 in
set_option maxHeartbeats 1000000 in
theorem div64_any (hi lo y : Nat) (w : World) (hy : y < b64) (hlo : lo < b64) (hh : hi < y) :
    Calls Try.prog 86 #[.int .u64 hi, .int .u64 lo, .int .u64 y] w fun e w' => e = .returned (.tuple #[.int .u64 ((hi * b64 + lo) / y : Nat), .int .u64 ((hi * b64 + lo) % y : Nat)]) ∧ Quiet w w' := by
  rcases Nat.eq_zero_or_pos hi with h0 | h0
  · subst h0
    have c1 : ((y : Int) == 0) = false := by simp; omega
    have c3 : (0 : Int) < y := by omega
    have c4 : ¬ (y : Int) ≤ 0 := by omega
    have hq : lo / y < b64 := Nat.lt_of_le_of_lt (Nat.div_le_self _ _) hlo
    have g1 : (lo : Int) ≤ 18446744073709551615 := by unfold b64 at hlo; omega
    have e1 : IntKind.u64.wrap ((lo : Int) / y) = ((lo / y : Nat) : Int) := by
      rw [IntKind.wrap_u64, ← Int.natCast_ediv]
      generalize lo / y = z at *
      unfold b64 at hq
      omega
    obtain ⟨q, hqq⟩ : ∃ q, q = lo / y := ⟨_, rfl⟩
    obtain ⟨r, hrr⟩ : ∃ r, r = lo % y := ⟨_, rfl⟩
    have e2 : (lo : Int) % y = (r : Int) := by rw [hrr]; rfl
    rw [← hqq] at e1
    have e3 : (0 * b64 + lo) / y = q := by rw [hqq, Nat.zero_mul, Nat.zero_add]
    have e4 : (0 * b64 + lo) % y = r := by rw [hrr, Nat.zero_mul, Nat.zero_add]
    rw [e3, e4]
    clear e3 e4 hqq hrr hq hlo hy
    go_enter Try.func86, Try.ntmps86
    go_wp2_with fail
    go_quiet (fail)
    go_wp2_with fail
    go_ret2
    refine ⟨?_, _, rfl⟩
    rw [← e2]
    rfl
  · obtain ⟨k1, k2, k5⟩ := bitLen_spec64 y hy
    obtain ⟨k3, k4⟩ := k2 (by omega)
    obtain ⟨Y, v1, v0, U, M, d1, d0, hn, hY, hH, rv1, rv0, rd1, rd0⟩ := div64_nums hi lo y (64 - Lib.bitLen y) (by omega) (by omega) hy (by omega) hlo hh
    generalize hse : 64 - Lib.bitLen y = s at *
    have hp : 0 < 2 ^ s := Nat.two_pow_pos s
    have hUb : U < b64 := Nat.lt_trans hn.UY hY
    have hLb : lo / 2 ^ (64 - s) < 2 ^ s := by
      have e64' : b64 = 2 ^ s * 2 ^ (64 - s) := by rw [b64_pow, ← Nat.pow_add]; congr 1; omega
      rw [Nat.div_lt_iff_lt_mul (Nat.two_pow_pos _), ← e64']; exact hlo
    have hG := Guess.first (b := b32) (v1 := v1) (v0 := v0) (u := U) (d := d1) b32_two hn.v1l hn.v0u (by rw [← hn.eYd]; exact hn.UY) hn.d1u
    have hv1p : 0 < v1 := by have := hn.v1l; unfold b32 at this; omega
    have hdm := Nat.div_add_mod U v1
    have hMb : M < b64 := by rw [hn.eM]; exact Nat.mod_lt _ b64_pos
    refine div64_walk hi lo y s Y v1 v0 U M d1 d0 (hi * 2 ^ s) (lo / 2 ^ (64 - s)) w (by omega) (by omega) hn hy hh h0 ?_ ?_ ?_ ?_ ?_ ?_ ?_ ?_ ?_ (U / v1) (U % v1) ?_ ?_ ?_ ?_ ?_ ?_ ?_ hG ?_ hY hlo
    · rw [IntKind.wrap_u64, hn.eY]
      have e : ((y * 2 ^ s : Nat) : Int) = (y : Int) * 2 ^ s := by simp
      rw [← e]
      rw [hn.eY] at hY
      unfold b64 at hY
      omega
    · rw [rv1]; unfold b32; simp
    · rw [bits_low32 Y hY, rv0]; unfold b32; rfl
    · rw [IntKind.wrap_u64]
      have e : ((hi * 2 ^ s : Nat) : Int) = (hi : Int) * 2 ^ s := by simp
      rw [← e]
      unfold b64 at hH
      omega
    · simp
    · rw [bits_or_nat _ _ hH (by rw [hn.eU] at hUb; omega), or_disjoint _ _ _ hLb, ← hn.eU]
    · rw [IntKind.wrap_u64, hn.eM]
      unfold b64
      simp
    · rw [rd1]; unfold b32; simp
    · rw [bits_low32 M hMb, rd0]; unfold b32; rfl
    · simp
    · have : (v1 : Int) * ((U / v1 : Nat) : Int) + ((U % v1 : Nat) : Int) = U := by rw [← Int.natCast_mul]; omega
      rw [Int.mul_comm]; omega
    · rw [← Int.natCast_mul, Nat.mul_comm]; omega
    · unfold b64 at hUb; omega
    · omega
    · rw [← Int.natCast_mul]; omega
    · have := hG.hi; unfold b32 at this; omega
    · have h1 := Nat.mod_lt U hv1p
      have h2 := hn.v1u
      unfold b32 at h2
      omega


theorem div64_named (hi lo y : Nat) (w : World) (hy : y < b64) (hlo : lo < b64) (hh : hi < y) :
    Calls Try.prog 86 #[.int .u64 hi, .int .u64 lo, .int .u64 y] w fun e w' => e = .returned (.tuple #[.int .u64 (divQ hi lo y : Nat), .int .u64 (divR hi lo y : Nat)]) ∧ Quiet w w' :=
  div64_any hi lo y w hy hlo hh

end Go.Proofs.Ytmfochplnchgcaa

/- THE WALKS OF ratio's NATURAL NUMBERS, part C: byWord. -/
namespace Go.Proofs.Ytmfochplnchgcaa
open Go.RowKit

/-- Long division by one word, from the top: digits from j on are done. -/
structure ByIn (a : List Nat) (d j : Nat) (o : List Nat) (r : Nat) : Prop where
  len : o.length = a.length
  dgs : Dgs b64 o
  rem : r < d
  val : lv b64 (a.drop j) = lv b64 (o.drop j) * d + r
  low : ∀ i, i < j → o.getD i 0 = 0

theorem ByIn.start (a : List Nat) (d : Nat) (hd : 0 < d) : ByIn a d a.length (List.replicate a.length 0) 0 :=
  ⟨by simp, Dgs.replicate b64_pos _, hd, by simp [lv], fun i _ => by simp [List.getElem?_replicate]; split <;> rfl⟩

theorem divQ_lt (hi lo y : Nat) (hy : 0 < y) (hlo : lo < b64) (hh : hi < y) : divQ hi lo y < b64 := quo_lt hy hh hlo

theorem ByIn.step {a : List Nat} {d j : Nat} {o : List Nat} {r : Nat} (h : ByIn a d (j + 1) o r) (ha : Dgs b64 a) (hj : j < a.length) :
    ByIn a d j (o.set j (divQ r (a.getD j 0) d)) (divR r (a.getD j 0) d) := by
  have hd : 0 < d := by have := h.rem; omega
  have hx := ha.getD b64_pos j
  refine ⟨by simpa using h.len, h.dgs.set _ _ (divQ_lt _ _ _ hd hx h.rem), Nat.mod_lt _ hd, ?_, fun i hi => ?_⟩
  · have h1 : (o.set j (divQ r (a.getD j 0) d)).drop j = divQ r (a.getD j 0) d :: o.drop (j + 1) := by
      rw [List.drop_eq_getElem_cons (by simp [h.len]; exact hj)]
      simp [List.drop_set]
    rw [h1, List.drop_eq_getElem_cons hj, lv_cons, lv_cons, h.val]
    have hg : a.getD j 0 = a[j] := by simp [hj]
    rw [← hg]
    have e := Nat.div_add_mod (r * b64 + a.getD j 0) d
    have e2 : d * divQ r (a.getD j 0) d + divR r (a.getD j 0) d = r * b64 + a.getD j 0 := e
    rw [Nat.mul_add, Nat.add_mul]
    have e3 : b64 * lv b64 (o.drop (j + 1)) * d = b64 * (lv b64 (o.drop (j + 1)) * d) := Nat.mul_assoc _ _ _
    have e4 : divQ r (a.getD j 0) d * d = d * divQ r (a.getD j 0) d := Nat.mul_comm _ _
    have e5 : b64 * r = r * b64 := Nat.mul_comm _ _
    omega
  · have := h.low i (by omega)
    rw [List.getD_eq_getElem?_getD] at *
    rw [List.getElem?_set_ne (by omega)]
    exact this

theorem ByIn.done {a : List Nat} {d : Nat} {o : List Nat} {r : Nat} (h : ByIn a d 0 o r) : lv b64 o = lv b64 a / d ∧ r = lv b64 a % d := by
  have hd : 0 < d := by have := h.rem; omega
  have hv := h.val
  simp only [List.drop_zero] at hv
  rw [hv]
  constructor
  · rw [Nat.add_comm, Nat.add_mul_div_right _ _ hd, Nat.div_eq_of_lt h.rem, Nat.zero_add]
  · rw [Nat.add_comm, Nat.add_mul_mod_self_right, Nat.mod_eq_of_lt h.rem]

def RetNatWord (q r : Nat) (w : World) (e : Ending) (w' : World) : Prop :=
  ∃ v, e = .returned (.tuple #[v, .int .u64 (r : Nat)]) ∧ IsNat .u64 b64 w' v q ∧ Below w.heap.size w w'

set_option maxRecDepth 100000 in
set_option maxHeartbeats 1000000 in
theorem byWord_any (m d : Nat) (va : Value) (w : World) (ha : IsNat .u64 b64 w va m) (hsz : (dig b64 m).length ≤ 1099511627776) (hd0 : 0 < d) (hd1 : d < b64) :
    Calls Try.prog 75 #[va, .int .u64 d] w (RetNatWord (m / d) (m % d) w) := by
  obtain ⟨aa, ca, rfl, hA⟩ := IsRow.opened ha
  have hda := dgs_dig b64_two m
  have Hva := Lib.hid (lv_dig b64_two m)
  clear ha
  generalize dig b64 m = da at *
  obtain ⟨i0, hi, hz0, hz1, hz2⟩ := info_parts info_u64
  have Hd := Lib.hid hd1
  clear hd1
  go_enter Try.func75, Try.ntmps75
  go_wp2_with (at_make; refine wpList_make_full _ rfl _ _ 54 rfl w.heap.size 95 i0 (.int .u64 0) 1 Try.underlying54 hi hz0 hz1 _ _ _ _ da.length rfl rfl (by omega) (by omega) (by rw [hz2]; omega) (by unfold maxLen; omega) (by omega) ?_)
  intro w1 hown hgrow
  have ho := Own.of_made hown
  have hbel := (Below.refl w.heap.size w).grown hgrow (Nat.le_refl _) (by simp)
  clear hown hgrow hi hz0 hz1 hz2
  go_wp2_with fail
  go_loopw [7, 8] (fun rv jv wr => ∃ (j : Nat) (o : List Nat) (r : Nat), j ≤ da.length ∧ jv = .int .i64 ((j : Int) - 1) ∧ rv = .int .u64 r ∧ Own wr w.heap.size .u64 95 o ∧ Hid (ByIn da d j o r) ∧ Below w.heap.size w wr)
    (fun _ jv _ => ((intOf jv) + 1).toNat)
  case atStart => exact ⟨da.length, _, 0, Nat.le_refl _, by go_num, rfl, ho, ByIn.start da d hd0, hbel⟩
  case round =>
    clear ho hbel
    obtain ⟨j, o, r, hj, rfl, rfl, ho, hB, hbel⟩ := hrel
    rcases Nat.eq_zero_or_pos j with rfl | hjp
    · have hlen := Lib.hid hB.out.len
      go_wp2_with fail
      have hrow := ho.isRow (by unfold maxLen; rw [hlen.out]; omega)
      rw [hlen.out] at hrow
      refine (cut_any o _ _ hrow hB.out.dgs).mono ?_
      rintro e w' ⟨v, rfl, hv, rfl⟩
      go_wp2_with fail
      go_ret2
      have hdn := hB.out.done
      rw [Hva.out] at hdn
      rw [← hdn.1, ← hdn.2]
      exact ⟨v, rfl, hv, hbel⟩
    · obtain ⟨i, rfl⟩ : ∃ i, j = i + 1 := ⟨j - 1, by omega⟩
      obtain ⟨b, off, rfl, hbA, hcA⟩ := hA (by omega)
      have hca : wr.cell? ⟨b, off + i, none⟩ = some (.int .u64 (da.getD i 0 : Nat)) := (hbel.cell (p := ⟨b, off + i, none⟩) hbA).trans (hcA i (by omega))
      have hco := ho.cell i (by rw [hB.out.len]; omega)
      have hfo := ho.frozen i
      have Hx : Hid (da.getD i 0 < b64) := hda.getD b64_pos i
      obtain ⟨x, hx⟩ : ∃ x, x = da.getD i 0 := ⟨_, rfl⟩
      rw [← hx] at hca Hx
      have HX := Lib.hid hx
      clear hx
      have e1 : ((i + 1 : Nat) : Int) - 1 = (i : Int) := by omega
      rw [e1]
      have hi1 : (i : Int) < da.length := by omega
      go_wp2_with fail
      refine (div64_named r x d _ Hd.out Hx.out hB.out.rem).mono ?_
      rintro e w' ⟨rfl, nq, rfl⟩
      go_wp2_with fail
      refine ⟨⟨i, _, divR r x d, by omega, rfl, rfl, (ho.drewN nq).store _ _, ?_, (below_dn hbel nq).setCell (p := ⟨w.heap.size, i, none⟩) (Nat.le_refl _) _⟩, by simp [intOf]⟩
      rw [HX.out]
      exact hB.out.step hda (by omega)

end Go.Proofs.Ytmfochplnchgcaa

/- THE WALK OF ratio.take: it subtracts q v from u in place, where u is at least that. -/
namespace Go.Proofs.Ytmfochplnchgcaa
open Go.RowKit

structure ScIn (v : List Nat) (q k : Nat) (o : List Nat) (c : Nat) : Prop where
  len : o.length = v.length + 1
  dgs : Dgs b64 o
  car : c < b64
  val : lv b64 o + c * b64 ^ k = lv b64 (v.take k) * q
  top : ∀ j, k ≤ j → o.getD j 0 = 0

theorem sc_step (x q c : Nat) (hx : x < b64) (hq : q < b64) (hc : c < b64) :
    addLo (mulLo x q) c 0 + b64 * (mulHi x q + addHi (mulLo x q) c 0) = x * q + c ∧ mulHi x q + addHi (mulLo x q) c 0 < b64 := by
  have h := mul_step 0 c x q b64_pos hc hx hq
  have e1 : addLo (mulLo x q) 0 0 = mulLo x q := by unfold addLo; simp; exact Nat.mod_eq_of_lt (mulLo_lt x q)
  have e2 : addHi (mulLo x q) 0 0 = 0 := by unfold addHi; simp; exact .inr (mulLo_lt x q)
  rw [e1, e2] at h
  simp only [Nat.add_zero] at h
  exact ⟨h.1, h.2.1⟩

theorem ScIn.start (v : List Nat) (q : Nat) : ScIn v q 0 (List.replicate (v.length + 1) 0) 0 :=
  ⟨by simp, Dgs.replicate b64_pos _, b64_pos, by simp [lv_replicate, lv], fun j _ => by simp [List.getElem?_replicate]; split <;> rfl⟩

theorem ScIn.step {v : List Nat} {q k : Nat} {o : List Nat} {c : Nat} (h : ScIn v q k o c) (hv : Dgs b64 v) (hq : q < b64) (hk : k < v.length) :
    ScIn v q (k + 1) (o.set k (addLo (mulLo (v.getD k 0) q) c 0)) (mulHi (v.getD k 0) q + addHi (mulLo (v.getD k 0) q) c 0) := by
  have hs := sc_step (v.getD k 0) q c (hv.getD b64_pos k) hq h.car
  refine ⟨by simpa using h.len, h.dgs.set _ _ (addLo_lt _ _ _), hs.2, ?_, fun j hj => ?_⟩
  · have h1 := lv_set b64 o k (addLo (mulLo (v.getD k 0) q) c 0) (by rw [h.len]; omega)
    rw [h.top k (Nat.le_refl _)] at h1
    have h2 := h.val
    have e0 : (lv b64 (v.take k) + b64 ^ k * v.getD k 0) * q = lv b64 (v.take k) * q + b64 ^ k * v.getD k 0 * q := Nat.add_mul _ _ _
    rw [lv_take_succ b64 v k hk, e0, ← h2, Nat.pow_succ]
    have e1 : (mulHi (v.getD k 0) q + addHi (mulLo (v.getD k 0) q) c 0) * (b64 ^ k * b64) = b64 ^ k * (b64 * (mulHi (v.getD k 0) q + addHi (mulLo (v.getD k 0) q) c 0)) := by ac_rfl
    have e2 : b64 ^ k * v.getD k 0 * q = b64 ^ k * (v.getD k 0 * q) := Nat.mul_assoc _ _ _
    have e3 : c * b64 ^ k = b64 ^ k * c := Nat.mul_comm _ _
    have e4 : b64 ^ k * (addLo (mulLo (v.getD k 0) q) c 0 + b64 * (mulHi (v.getD k 0) q + addHi (mulLo (v.getD k 0) q) c 0)) = b64 ^ k * (v.getD k 0 * q + c) := by rw [hs.1]
    rw [e1, e2, e3]
    rw [Nat.mul_add (b64 ^ k), Nat.mul_add (b64 ^ k)] at e4
    omega
  · have := h.top j (by omega)
    rw [List.getD_eq_getElem?_getD] at *
    rw [List.getElem?_set_ne (by omega)]
    exact this

theorem ScIn.done {v : List Nat} {q : Nat} {o : List Nat} {c : Nat} (h : ScIn v q v.length o c) : lv b64 (o.set v.length c) = lv b64 v * q ∧ Dgs b64 (o.set v.length c) := by
  refine ⟨?_, h.dgs.set _ _ h.car⟩
  have h1 := lv_set b64 o v.length c (by rw [h.len]; omega)
  rw [h.top _ (Nat.le_refl _)] at h1
  have h2 := h.val
  rw [List.take_length] at h2
  have : c * b64 ^ v.length = b64 ^ v.length * c := Nat.mul_comm _ _
  omega

/-- Subtraction, word by word: i words are done. -/
structure DfIn (u p : List Nat) (i : Nat) (x : List Nat) (b : Nat) : Prop where
  len : x.length = i
  dgs : Dgs b64 x
  bor : b ≤ 1
  val : lv b64 x + lv b64 (p.take i) = lv b64 (u.take i) + b * b64 ^ i

theorem sub_eq_any (B x y b : Nat) (hx : x < B) (hy : y < B) (hb : b ≤ 1) : (B + x - y - b) % B + y + b = x + B * (if x < y + b then 1 else 0) := by
  by_cases h : x < y + b
  · rw [if_pos h, Nat.mul_one]
    rw [Nat.mod_eq_of_lt (by omega)]
    omega
  · rw [if_neg h, Nat.mul_zero]
    have : B + x - y - b = (x - y - b) + B := by omega
    rw [this, Nat.add_mod_right, Nat.mod_eq_of_lt (by omega)]
    omega

theorem sub_eq (x y b : Nat) (hx : x < b64) (hy : y < b64) (hb : b ≤ 1) : subLo x y b + y + b = x + b64 * subHi x y b := by
  unfold subLo subHi
  generalize b64 = B at *
  exact sub_eq_any B x y b hx hy hb

theorem DfIn.start (u p : List Nat) : DfIn u p 0 [] 0 := ⟨rfl, Dgs.nil _, by omega, by simp [lv]⟩

theorem DfIn.step {u p : List Nat} {i : Nat} {x : List Nat} {b : Nat} (h : DfIn u p i x b) (hu : Dgs b64 u) (hp : Dgs b64 p) (hlen : u.length = p.length) (hi : i < u.length) :
    DfIn u p (i + 1) (x ++ [subLo (u.getD i 0) (p.getD i 0) b]) (subHi (u.getD i 0) (p.getD i 0) b) := by
  refine ⟨by simp [h.len], h.dgs.append (Dgs.cons (subLo_lt _ _ _) (Dgs.nil _)), subHi_le _ _ _, ?_⟩
  have e := sub_eq (u.getD i 0) (p.getD i 0) b (hu.getD b64_pos i) (hp.getD b64_pos i) h.bor
  rw [lv_append, lv_take_succ b64 p i (by omega), lv_take_succ b64 u i hi, h.len, Nat.pow_succ]
  have h1 := h.val
  have e1 : lv b64 [subLo (u.getD i 0) (p.getD i 0) b] = subLo (u.getD i 0) (p.getD i 0) b := by simp [lv]
  rw [e1]
  have e2 : b64 ^ i * (subLo (u.getD i 0) (p.getD i 0) b + p.getD i 0 + b) = b64 ^ i * (u.getD i 0 + b64 * subHi (u.getD i 0) (p.getD i 0) b) := by rw [e]
  simp only [Nat.mul_add] at e2
  have e3 : subHi (u.getD i 0) (p.getD i 0) b * (b64 ^ i * b64) = b64 ^ i * (b64 * subHi (u.getD i 0) (p.getD i 0) b) := by ac_rfl
  have e4 : b * b64 ^ i = b64 ^ i * b := Nat.mul_comm _ _
  rw [e3]
  omega

theorem DfIn.done {u p : List Nat} {x : List Nat} {b : Nat} (h : DfIn u p u.length x b) (hlen : u.length = p.length) (hle : lv b64 p ≤ lv b64 u) : lv b64 x = lv b64 u - lv b64 p := by
  have h1 := h.val
  rw [List.take_length, hlen, List.take_length] at h1
  have h2 := lv_lt h.dgs
  rw [h.len, hlen] at h2
  have hb : b = 0 := by
    rcases Nat.eq_zero_or_pos b with h0 | h0
    · exact h0
    · have : b64 ^ p.length ≤ b * b64 ^ p.length := Nat.le_mul_of_pos_left _ h0
      omega
  subst hb
  omega

theorem set_mid (pre x : List Nat) (u : List Nat) (i : Nat) (post : List Nat) (hx : x.length = i) (hi : i < u.length) (y : Nat) :
    (pre ++ (x ++ u.drop i) ++ post).set (pre.length + i) y = pre ++ ((x ++ [y]) ++ u.drop (i + 1)) ++ post := by
  subst hx
  have e : u.drop x.length = u[x.length] :: u.drop (x.length + 1) := List.drop_eq_getElem_cons hi
  rw [e]
  generalize u.drop (x.length + 1) = t
  rw [List.append_assoc, List.set_append_right _ _ (by omega), Nat.add_sub_cancel_left, List.append_assoc, List.set_append_right _ _ (by omega), Nat.sub_self]
  simp

theorem getD_mid (pre x : List Nat) (u : List Nat) (i : Nat) (post : List Nat) (hx : x.length = i) (hi : i < u.length) :
    (pre ++ (x ++ u.drop i) ++ post).getD (pre.length + i) 0 = u.getD i 0 := by
  subst hx
  have e : u.drop x.length = u[x.length] :: u.drop (x.length + 1) := List.drop_eq_getElem_cons hi
  rw [e]
  generalize u.drop (x.length + 1) = t
  have e2 : u.getD x.length 0 = u[x.length] := by simp [hi]
  rw [e2, List.append_assoc, List.getD_eq_getElem?_getD, List.getElem?_append_right (by omega), Nat.add_sub_cancel_left, List.append_assoc, List.getElem?_append_right (by omega), Nat.sub_self]
  rfl

/-- What take and digit do: the words of u in the middle of a row of the caller's own. -/
def RetMid (w : World) (bu : Nat) (e : TypeId) (pre : List Nat) (val : Nat) (n : Nat) (post : List Nat) (r : Value) (en : Ending) (w' : World) : Prop :=
  ∃ u', en = .returned r ∧ u'.length = n ∧ Dgs b64 u' ∧ lv b64 u' = val ∧ Own w' bu .u64 e (pre ++ u' ++ post) ∧ w.grownBy w' (some bu)

theorem grownBy_trans {w a b : World} {row : Option Nat} (h : w.grownBy a row) (k : a.grownBy b row) : w.grownBy b row :=
  ⟨k.os.trans h.os, k.tape.trans h.tape, k.output.trans h.output, Nat.le_trans h.size k.size, fun i hi hne => (k.block i (Nat.lt_of_lt_of_le hi h.size) hne).trans (h.block i hi hne)⟩
theorem grownBy_below {w a : World} (h : Below w.heap.size w a) (row : Option Nat) : w.grownBy a row :=
  ⟨h.os, h.tape, h.output, h.size, fun i hi _ => h.block i hi⟩
theorem grownBy_set {w a : World} {g : Nat} (h : w.grownBy a (some g)) (j : Nat) (v : Value) : w.grownBy (a.setCell ⟨g, j, none⟩ v) (some g) :=
  grownBy_trans h ⟨rfl, rfl, rfl, by simp, fun k _ hk => heap_setCell_other a ⟨g, j, none⟩ k v (fun e => hk (by simp [e]))⟩
theorem grownBy_dn {w a : World} {row : Option Nat} (h : w.grownBy a row) (n : Nat) : w.grownBy (a.drewN n) row := ⟨h.os, h.tape, h.output, h.size, h.block⟩
theorem grownBy_dr {w a : World} {row : Option Nat} (h : w.grownBy a row) : w.grownBy a.drew row := ⟨h.os, h.tape, h.output, h.size, h.block⟩

end Go.Proofs.Ytmfochplnchgcaa

/- THE WALK OF ratio.take. -/
namespace Go.Proofs.Ytmfochplnchgcaa
open Go.RowKit

theorem mid_row {w : World} {g : Nat} {e : TypeId} {pre u post : List Nat} (h : Own w g .u64 e (pre ++ u ++ post)) (cap : Nat) (h1 : u.length ≤ cap) (h2 : cap ≤ maxLen) (h0 : 0 < u.length) :
    IsRow .u64 w (.slice (some ⟨g, pre.length, none⟩) u.length cap) u := by
  refine .inr ⟨h0, g, pre.length, cap, rfl, h1, h2, h.lt, fun j hj => ?_⟩
  rw [h.cell (pre.length + j) (by simp; omega)]
  congr 2
  have : (pre ++ u ++ post).getD (pre.length + j) 0 = u.getD j 0 := by
    simp [List.getElem?_append_right, List.getElem?_append_left, hj]
  rw [this]

def tkOk (a b : Nat) : Bool := decide (a ≤ b)
def tkVal (a b : Nat) : Nat := if a ≤ b then b - a else b

set_option maxRecDepth 100000 in
set_option maxHeartbeats 2000000 in
theorem take_any (pre u post dv : List Nat) (bu capu bv offv capv q : Nat) (w : World) (hown : Own w bu .u64 95 (pre ++ u ++ post))
    (hlen : u.length = dv.length + 1) (hu : Dgs b64 u) (hv : Dgs b64 dv) (hq : q < b64) (hcap : u.length ≤ capu) (hcap2 : capu ≤ maxLen) (hne : bv ≠ bu) (hbv : bv < w.heap.size)
    (hcv : ∀ j, j < dv.length → w.cell? ⟨bv, offv + j, none⟩ = some (.int .u64 (dv.getD j 0 : Nat))) (hsz : dv.length ≤ 1099511627776) (hsz2 : pre.length ≤ 1099511627776) :
    Calls Try.prog 88 #[.slice (some ⟨bu, pre.length, none⟩) (dv.length + 1) capu, .slice (some ⟨bv, offv, none⟩) dv.length capv, .int .u64 q] w
      (RetMid w bu 95 pre (tkVal (lv b64 dv * q) (lv b64 u)) (dv.length + 1) post (.bool (tkOk (lv b64 dv * q) (lv b64 u)))) := by
  have Hcap := Lib.hid hcap
  have Hcap2 := Lib.hid hcap2
  have Hq := Lib.hid hq
  have Hown := Lib.hid hown
  have hbul := hown.lt
  clear hcap hcap2 hq hown
  obtain ⟨i0, hi, hz0, hz1, hz2⟩ := info_parts info_u64
  have Hlen := Lib.hid hlen
  clear hlen
  go_enter Try.func88, Try.ntmps88
  go_wp2_with (at_make; refine wpList_make_full _ rfl _ _ 54 rfl w.heap.size 95 i0 (.int .u64 0) 1 Try.underlying54 hi hz0 hz1 _ _ _ _ (dv.length + 1) rfl rfl (by omega) (by omega) (by rw [hz2]; omega) (by unfold maxLen; omega) (by omega) ?_)
  intro w1 hwn hgrow
  have ho := Own.of_made hwn
  have hbel := (Below.refl w.heap.size w).grown hgrow (Nat.le_refl _) (by simp)
  clear hwn hgrow hi hz0 hz1 hz2
  go_wp2_with fail
  go_loopw [8, 22] (fun cv kv wr => ∃ (k : Nat) (o : List Nat) (c : Nat), k ≤ dv.length ∧ kv = .int .i64 k ∧ cv = .int .u64 c ∧ Own wr w.heap.size .u64 95 o ∧ Hid (ScIn dv q k o c) ∧ Below w.heap.size w wr)
    (fun _ kv _ => dv.length - (intOf kv).toNat)
  case atStart => exact ⟨0, _, 0, Nat.zero_le _, rfl, rfl, ho, ScIn.start dv q, hbel⟩
  case round =>
    clear ho hbel
    obtain ⟨k, o, c, hkl, rfl, rfl, ho, hM, hbel⟩ := hrel
    by_cases hlt : k < dv.length
    · have hca : wr.cell? ⟨bv, offv + k, none⟩ = some (.int .u64 (dv.getD k 0 : Nat)) := (hbel.cell (p := ⟨bv, offv + k, none⟩) hbv).trans (hcv k hlt)
      have hco := ho.cell k (by rw [hM.out.len]; omega)
      have hfo := ho.frozen k
      have Hstep := Lib.hid (hM.out.step hv Hq.out hlt)
      have hss := sc_step (dv.getD k 0) q c (hv.getD b64_pos k) Hq.out hM.out.car
      have Hx : Hid (dv.getD k 0 < b64) := hv.getD b64_pos k
      obtain ⟨x, hx⟩ : ∃ x, x = dv.getD k 0 := ⟨_, rfl⟩
      rw [← hx] at hca Hx hss
      have HX := Lib.hid hx
      clear hx
      have hb1 := hss.2
      unfold b64 at hb1
      clear hss
      have hadd := run_Add64_0
      go_wp2_with fail
      refine (mul64_any x q _ Hx.out Hq.out).mono ?_
      rintro e w' ⟨rfl, rfl⟩
      go_wp2_with fail
      refine ⟨⟨k + 1, _, mulHi x q + addHi (mulLo x q) c 0, by omega, by go_num, by go_num, ho.store _ _, ?_, hbel.setCell (p := ⟨w.heap.size, k, none⟩) (Nat.le_refl _) _⟩, meas_up hlt⟩
      rw [HX.out]
      exact Hstep.out
    · obtain rfl : k = dv.length := by omega
      clear hlt hkl
      have hco := ho.cell dv.length (by rw [hM.out.len]; omega)
      have hfo := ho.frozen dv.length
      have hdn := hM.out.done
      have hol : (o.set dv.length c).length = dv.length + 1 := by simp [hM.out.len]
      have ho2 := ho.store dv.length c
      have hbel2 := hbel.setCell (p := ⟨w.heap.size, dv.length, none⟩) (Nat.le_refl _) (.int .u64 c)
      have Ho2 := Lib.hid ho2
      have Hbel2 := Lib.hid hbel2
      have Hdn := Lib.hid hdn
      have Hol := Lib.hid hol
      clear ho2 hbel2 hdn hol ho hbel hM
      go_wp2_with fail
      generalize wr.setCell ⟨w.heap.size, dv.length, none⟩ (.int .u64 (c : Nat)) = W at *
      have hB := Hbel2.out
      have hoU : Own W bu .u64 95 (pre ++ u ++ post) := Hown.out.below hB hbul
      have hoP := Ho2.out
      generalize o.set dv.length c = p at *
      have hrU := mid_row hoU capu Hcap.out Hcap2.out (by rw [Hlen.out]; omega)
      rw [Hlen.out] at hrU
      have hrP := hoP.isRow (by unfold maxLen; rw [Hol.out]; omega)
      rw [Hol.out] at hrP
      clear hco hfo Ho2 Hbel2
      refine (cut_any u _ _ hrU hu).mono ?_
      rintro e w' ⟨vU, rfl, hvU, rfl⟩
      go_wp2_with fail
      refine (cut_any p _ _ hrP Hdn.out.2).mono ?_
      rintro e w' ⟨vP, rfl, hvP, rfl⟩
      go_wp2_with fail
      refine (cmp_any _ _ _ _ _ hvU hvP).mono ?_
      rintro e w' ⟨rfl, nq, rfl⟩
      rw [Hdn.out.1]
      by_cases hle : lv b64 dv * q ≤ lv b64 u
      · have Hle := Lib.hid hle
        have hcm : ¬ cmpN (lv b64 u) (lv b64 dv * q) < 0 := by unfold cmpN; split <;> (try split) <;> omega
        have hok : tkOk (lv b64 dv * q) (lv b64 u) = true := by simp [tkOk, hle]
        have hval : tkVal (lv b64 dv * q) (lv b64 u) = lv b64 u - lv b64 dv * q := by simp [tkVal, hle]
        have Hok := Lib.hid hok
        have Hval := Lib.hid hval
        generalize cmpN (lv b64 u) (lv b64 dv * q) = cm at *
        clear hle hok hval hvU hvP hrU hrP
        have HB := Lib.hid hB
        clear hB
        go_wp2_with fail
        go_loopw [14, 59] (fun bv' kv wr => ∃ (k : Nat) (x : List Nat) (b : Nat), k ≤ dv.length + 1 ∧ kv = .int .i64 k ∧ bv' = .int .u64 b ∧ Own wr bu .u64 95 (pre ++ (x ++ u.drop k) ++ post) ∧
            Own wr w.heap.size .u64 95 p ∧ Hid (DfIn u p k x b) ∧ w.grownBy wr (some bu))
          (fun _ kv _ => dv.length + 1 - (intOf kv).toNat)
        case atStart => exact ⟨0, [], 0, Nat.zero_le _, rfl, rfl, by simpa using hoU.drewN nq, hoP.drewN nq, DfIn.start u p, grownBy_dn (grownBy_below HB.out _) _⟩
        case round =>
          clear hoU hoP HB
          obtain ⟨k, x, b, hkl, rfl, rfl, hoU, hoP, hD, hgr⟩ := hrel
          by_cases hlt : k < dv.length + 1
          · have hku : k < u.length := by rw [Hlen.out]; exact hlt
            have hlen1 : pre.length + k < (pre ++ (x ++ u.drop k) ++ post).length := by simp [hD.out.len]; omega
            have hcu := hoU.cell (pre.length + k) hlen1
            rw [getD_mid pre x u k post hD.out.len hku] at hcu
            have hfu := hoU.frozen (pre.length + k)
            have hcp := hoP.cell k (by rw [Hol.out]; exact hlt)
            have Hstep := Lib.hid (hD.out.step hu Hdn.out.2 (by rw [Hlen.out, Hol.out]) hku)
            have hbor := hD.out.bor
            obtain ⟨y, hy⟩ : ∃ y, y = u.getD k 0 := ⟨_, rfl⟩
            obtain ⟨z, hz⟩ : ∃ z, z = p.getD k 0 := ⟨_, rfl⟩
            rw [← hy] at hcu
            rw [← hz] at hcp
            have HY := Lib.hid hy
            have HZ := Lib.hid hz
            clear hy hz hlen1 hku
            have hsub := fun (W : World) => run_Sub64 y z b hbor W
            go_wp2_with fail
            go_region
            go_wp2_with fail
            refine ⟨⟨k + 1, x ++ [subLo y z b], subHi y z b, by omega, by go_num, by go_num, ?_, ?_, ?_, grownBy_dr (grownBy_set hgr _ _)⟩, meas_up hlt⟩
            · have := (hoU.store (pre.length + k) (subLo y z b)).drew
              rw [set_mid pre x u k post hD.out.len (by rw [Hlen.out]; exact hlt)] at this
              exact this
            · exact (hoP.other (a := ⟨bu, pre.length + k, none⟩) (by show bu ≠ w.heap.size; omega) _).drew
            · rw [HY.out, HZ.out]; exact Hstep.out
          · obtain rfl : k = dv.length + 1 := by omega
            go_wp2_with fail
            go_ret
            have hd := hD.out
            rw [← Hlen.out] at hd
            have hfin := hd.done (by rw [Hlen.out, Hol.out]) (by rw [Hdn.out.1]; exact Hle.out)
            rw [Hdn.out.1] at hfin
            refine ⟨x, by rw [Hok.out]; rfl, by rw [hd.len, Hlen.out], hd.dgs, by rw [Hval.out]; exact hfin, ?_, hgr⟩
            rw [List.drop_of_length_le (by rw [Hlen.out]; exact Nat.le_refl _), List.append_nil] at hoU
            exact hoU
      · have hcm : cmpN (lv b64 u) (lv b64 dv * q) < 0 := by
          have : lv b64 u < lv b64 dv * q := by omega
          unfold cmpN; rw [if_pos this]; omega
        have hok : tkOk (lv b64 dv * q) (lv b64 u) = false := by simp [tkOk]; omega
        have hval : tkVal (lv b64 dv * q) (lv b64 u) = lv b64 u := by simp [tkVal, hle]
        have Hok := Lib.hid hok
        have Hval := Lib.hid hval
        generalize cmpN (lv b64 u) (lv b64 dv * q) = cm at *
        clear hle hok hval hvU hvP hrU hrP
        have HB := Lib.hid hB
        clear hB
        go_wp2_with fail
        go_ret
        exact ⟨u, by rw [Hok.out]; rfl, Hlen.out, hu, by rw [Hval.out], hoU.drewN nq, grownBy_dn (grownBy_below HB.out _) _⟩

end Go.Proofs.Ytmfochplnchgcaa

/- THE WALK OF ratio.digit: one digit of a long division. -/
namespace Go.Proofs.Ytmfochplnchgcaa
open Go.RowKit

/-- The two, and the three, uppermost words of u against those of v. -/
structure DigNums (u v : List Nat) (un u1 u2 v1 v2 : Nat) : Prop where
  lo : ∃ c, lv b64 u = ((un * b64 + u1) * b64 + u2) * b64 ^ (v.length - 2) + c ∧ c < b64 ^ (v.length - 2)
  hi : ∃ d, lv b64 v = (v1 * b64 + v2) * b64 ^ (v.length - 2) + d

theorem lv_top (ds : List Nat) (k : Nat) (hk : k < ds.length) : lv b64 (ds.take (k + 1)) = ds.getD k 0 * b64 ^ k + lv b64 (ds.take k) := by
  rw [lv_take_succ b64 ds k hk, Nat.mul_comm (b64 ^ k), Nat.add_comm]

theorem digNums (u v : List Nat) (hv2 : 2 ≤ v.length) (hlen : u.length = v.length + 1) (hu : Dgs b64 u) :
    DigNums u v (u.getD v.length 0) (u.getD (v.length - 1) 0) (u.getD (v.length - 2) 0) (v.getD (v.length - 1) 0) (v.getD (v.length - 2) 0) := by
  obtain ⟨n, hn⟩ : ∃ n, v.length = n + 2 := ⟨v.length - 2, by omega⟩
  have e1 : v.length - 1 = n + 1 := by omega
  have e2 : v.length - 2 = n := by omega
  constructor
  · refine ⟨lv b64 (u.take n), ?_, ?_⟩
    · have hful : lv b64 u = lv b64 (u.take (n + 2 + 1)) := by rw [List.take_of_length_le (by omega)]
      rw [e1, e2, hn, hful, lv_top u (n + 2) (by omega), lv_top u (n + 1) (by omega), lv_top u n (by omega)]
      rw [Nat.add_mul, Nat.add_mul, Nat.add_mul, Nat.pow_succ, Nat.pow_succ]
      have f1 : u.getD (n + 2) 0 * (b64 ^ n * b64 * b64) = u.getD (n + 2) 0 * b64 * b64 * b64 ^ n := by ac_rfl
      have f2 : u.getD (n + 1) 0 * (b64 ^ n * b64) = u.getD (n + 1) 0 * b64 * b64 ^ n := by ac_rfl
      rw [f1, f2]
      omega
    · have := lv_lt (hu.take n)
      have e : (u.take n).length = n := by simp; omega
      rw [e] at this
      rw [e2]; exact this
  · refine ⟨lv b64 (v.take n), ?_⟩
    have hful : lv b64 v = lv b64 (v.take (n + 1 + 1)) := by rw [List.take_of_length_le (by omega)]
    rw [e1, e2, hful, lv_top v (n + 1) (by omega), lv_top v n (by omega)]
    rw [Nat.add_mul, Nat.pow_succ]
    have f2 : v.getD (n + 1) 0 * (b64 ^ n * b64) = v.getD (n + 1) 0 * b64 * b64 ^ n := by ac_rfl
    rw [f2]
    omega

/-- A quotient is at most what the uppermost words allow. -/
theorem quo_top {U V a b P c d Q : Nat} (hU : U = a * P + c) (hc : c < P) (hV : V = b * P + d) (hQ : Q * V ≤ U) : Q * b ≤ a := by
  have h1 : Q * b * P ≤ Q * V := by rw [hV, Nat.mul_add, Nat.mul_assoc]; omega
  have h2 : Q * b * P < (a + 1) * P := by rw [Nat.add_mul, Nat.one_mul]; omega
  have := Nat.lt_of_mul_lt_mul_right h2
  omega

theorem DigNums.three {u v : List Nat} {un u1 u2 v1 v2 Q : Nat} (h : DigNums u v un u1 u2 v1 v2) (hQ : Q * lv b64 v ≤ lv b64 u) : Q * (v1 * b64 + v2) ≤ (un * b64 + u1) * b64 + u2 := by
  obtain ⟨c, e1, hc⟩ := h.lo
  obtain ⟨d, e2⟩ := h.hi
  exact quo_top e1 hc e2 hQ

theorem DigNums.two {u v : List Nat} {un u1 u2 v1 v2 Q : Nat} (h : DigNums u v un u1 u2 v1 v2) (hu2 : u2 < b64) (hQ : Q * lv b64 v ≤ lv b64 u) : Q * v1 ≤ un * b64 + u1 :=
  quo_top (U := (un * b64 + u1) * b64 + u2) (V := v1 * b64 + v2) rfl hu2 rfl (h.three hQ)

/-- The guess and its rest. -/
structure Gs (un u1 v1 Q x r : Nat) : Prop where
  eq : x * v1 + r = un * b64 + u1
  le : Q ≤ x
  lt : x < b64

theorem Gs.first {un u1 v1 Q : Nat} (hv : un < v1) (hu1 : u1 < b64) (hQ : Q * v1 ≤ un * b64 + u1) : Gs un u1 v1 Q (divQ un u1 v1) (divR un u1 v1) := by
  have hp : 0 < v1 := by omega
  refine ⟨by unfold divQ divR; rw [Nat.mul_comm]; exact Nat.div_add_mod _ _, ?_, divQ_lt _ _ _ hp hu1 hv⟩
  unfold divQ
  rw [Nat.le_div_iff_mul_le hp]
  exact hQ

theorem Gs.less {un u1 u2 v1 v2 Q x r : Nat} (h : Gs un u1 v1 Q x r) (hQ : Q * (v1 * b64 + v2) ≤ (un * b64 + u1) * b64 + u2) (ht : r * b64 + u2 < x * v2) : 1 ≤ x ∧ Gs un u1 v1 Q (x - 1) (r + v1) := by
  have hlt : Q < x := by
    rcases Nat.lt_or_ge Q x with h' | h'
    · exact h'
    · have h1 : x * (v1 * b64 + v2) ≤ Q * (v1 * b64 + v2) := Nat.mul_le_mul_right _ h'
      have h2 : x * (v1 * b64 + v2) = x * v1 * b64 + x * v2 := by rw [Nat.mul_add, Nat.mul_assoc]
      have h3 : (un * b64 + u1) * b64 = x * v1 * b64 + r * b64 := by rw [← h.eq, Nat.add_mul]
      omega
  have h1 : 1 ≤ x := by omega
  refine ⟨h1, ?_, by omega, by have := h.lt; omega⟩
  obtain ⟨y, rfl⟩ : ∃ y, x = y + 1 := ⟨x - 1, by omega⟩
  have := h.eq
  rw [Nat.add_mul, Nat.one_mul] at this
  simp only [Nat.add_sub_cancel]
  omega

theorem mul_gt {x y hi lo r u2 : Nat} (hhi : hi = mulHi x y) (hlo : lo = mulLo x y) (h : r < hi ∨ hi = r ∧ u2 < lo) (hu2 : u2 < b64) : r * b64 + u2 < x * y := by
  have e := mul_eq x y
  rw [← hhi, ← hlo] at e
  rcases h with h | ⟨h1, h2⟩
  · have : (r + 1) * b64 ≤ hi * b64 := Nat.mul_le_mul_right _ h
    rw [Nat.add_mul, Nat.one_mul, Nat.mul_comm hi] at this
    omega
  · subst h1
    have : b64 * hi = hi * b64 := Nat.mul_comm _ _
    omega

set_option maxRecDepth 100000 in
set_option maxHeartbeats 4000000 in
theorem digit_any (pre u post dv : List Nat) (bu capu bv offv capv : Nat) (w : World) (hown : Own w bu .u64 95 (pre ++ u ++ post))
    (hlen : u.length = dv.length + 1) (hu : Dgs b64 u) (hv : Dgs b64 dv) (h2 : 2 ≤ dv.length) (hpos : 0 < lv b64 dv) (hQ : lv b64 u / lv b64 dv < b64) (hcap : u.length ≤ capu) (hcap2 : capu ≤ maxLen) (hne : bv ≠ bu) (hbv : bv < w.heap.size)
    (hcv : ∀ j, j < dv.length → w.cell? ⟨bv, offv + j, none⟩ = some (.int .u64 (dv.getD j 0 : Nat))) (hsz : dv.length ≤ 1099511627776) (hsz2 : pre.length ≤ 1099511627776) :
    Calls Try.prog 77 #[.slice (some ⟨bu, pre.length, none⟩) (dv.length + 1) capu, .slice (some ⟨bv, offv, none⟩) dv.length capv] w
      (RetMid w bu 95 pre (lv b64 u % lv b64 dv) (dv.length + 1) post (.int .u64 (lv b64 u / lv b64 dv : Nat))) := by
  have hbul := hown.lt
  have hrd : ∀ j, j < u.length → w.cell? ⟨bu, pre.length + j, none⟩ = some (.int .u64 (u.getD j 0 : Nat)) := fun j hj => by
    rw [hown.cell (pre.length + j) (by simp; omega)]
    congr 2
    have : (pre ++ u ++ post).getD (pre.length + j) 0 = u.getD j 0 := by
      simp [List.getElem?_append_right, List.getElem?_append_left, hj]
    rw [this]
  have hn := digNums u dv h2 hlen hu
  have c0 := hrd dv.length (by omega)
  have c1 := hrd (dv.length - 1) (by omega)
  have c2 := hrd (dv.length - 2) (by omega)
  have d1 := hcv (dv.length - 1) (by omega)
  have d2 := hcv (dv.length - 2) (by omega)
  have l0 := hu.getD b64_pos dv.length
  have l1 := hu.getD b64_pos (dv.length - 1)
  have l2 := hu.getD b64_pos (dv.length - 2)
  have k1 := hv.getD b64_pos (dv.length - 1)
  have k2 := hv.getD b64_pos (dv.length - 2)
  generalize u.getD dv.length 0 = un at *
  generalize u.getD (dv.length - 1) 0 = u1 at *
  generalize u.getD (dv.length - 2) 0 = u2 at *
  generalize dv.getD (dv.length - 1) 0 = v1 at *
  generalize dv.getD (dv.length - 2) 0 = v2 at *
  have hQm : lv b64 u / lv b64 dv * lv b64 dv ≤ lv b64 u := Nat.div_mul_le_self _ _
  obtain ⟨Q, hQe⟩ : ∃ Q, Q = lv b64 u / lv b64 dv := ⟨_, rfl⟩
  rw [← hQe] at hQ hQm
  have H3 := Lib.hid (hn.three hQm)
  have H2 := Lib.hid (hn.two l2 hQm)
  have HQe := Lib.hid hQe
  have HQ := Lib.hid hQ
  have Hcap := Lib.hid hcap
  have Hcap2 := Lib.hid hcap2
  have Hown := Lib.hid hown
  have Hlen := Lib.hid hlen
  have L0 := Lib.hid l0
  have L1 := Lib.hid l1
  have L2 := Lib.hid l2
  have K1 := Lib.hid k1
  have K2 := Lib.hid k2
  have Hcv := Lib.hid hcv
  clear hcap hcap2 hown hrd hn hQm hQe hQ l0 l1 l2 k1 k2 hcv hlen
  rw [← HQe.out]
  have i1 : (dv.length : Int) - 1 < dv.length := by omega
  have i2 : (0 : Int) ≤ (dv.length : Int) - 2 := by omega
  go_enter Try.func77, Try.ntmps77
  go_upto_region 3 with (fail)
  go_quiet (fail)
  go_upto_if 22 with (fail)
  go_cut [6] (fun g wx => ∃ x : Nat, g = .int .u64 x ∧ Hid (Q ≤ x) ∧ Hid (x < b64) ∧ Quiet w wx)
  case first =>
    by_cases t : un < v1
    · have t' : decide (un < v1) = true := by simpa using t
      have T := Lib.hid t
      clear t
      rw [t']
      clear t'
      go_upto_region 5 with (fail)
      go_quiet ((go_at_call 86; exact quiet_at (div64_named un u1 v1 _ K1.out L1.out T.out)))
      go_upto_block 0 with (fail)
      go_wp2_with fail
      go_loopw [6, 7] (fun xv rv wr => ∃ x r : Nat, xv = .int .u64 x ∧ rv = .int .u64 r ∧ Hid (r < b64) ∧ Hid (Gs un u1 v1 Q x r) ∧ Quiet w wr) (fun xv _ _ => (intOf xv).toNat)
      case atStart => exact ⟨_, _, rfl, rfl, by show divR un u1 v1 < b64; exact Nat.lt_trans (Nat.mod_lt _ (by have := T.out; omega)) K1.out, Gs.first T.out L1.out H2.out, Quiet.step ⟨_, rfl⟩ _⟩
      case round =>
        obtain ⟨x, r, rfl, rfl, hr, hG, nw, rfl⟩ := hrel
        have hadd := run_Add64_0
        go_wp2_with fail
        refine (mul64_any x v2 _ hG.out.lt K2.out).mono ?_
        rintro e w' ⟨rfl, rfl⟩
        by_cases q1 : mulHi x v2 < r
        · have q1' : decide (mulHi x v2 < r) = true := by simpa using q1
          go_wp2_with fail
          go_meet
          case rel => exact ⟨x, rfl, hG.out.le, hG.out.lt, _, rfl⟩
        · have q1' : decide (mulHi x v2 < r) = false := by simpa using q1
          by_cases q2 : mulHi x v2 = r ∧ mulLo x v2 ≤ u2
          · obtain ⟨q2, q3⟩ := q2
            have q2' : ((mulHi x v2 : Nat) : Int) = (r : Int) := by omega
            have q3' : decide (mulLo x v2 ≤ u2) = true := by simpa using q3
            have Q2 := Lib.hid q2
            have q4 : (((mulHi x v2 : Nat) : Int) == (r : Int)) = true := by simp [q2]
            clear q2 q2'
            go_wp2_with fail
            go_meet
            case rel => exact ⟨x, rfl, hG.out.le, hG.out.lt, _, rfl⟩
          · have hgt : r * b64 + u2 < x * v2 := mul_gt rfl rfl (by omega) L2.out
            have hl := hG.out.less H3.out hgt
            have hl1 := hl.1
            have HL := Lib.hid hl.2
            clear hgt hl
            have hxb : (x : Int) ≤ 18446744073709551615 := by have := hG.out.lt; unfold b64 at this; omega
            by_cases e : mulHi x v2 = r
            · have q4 : (((mulHi x v2 : Nat) : Int) == (r : Int)) = true := by simp [e]
              have q3' : decide (mulLo x v2 ≤ u2) = false := by simp; omega
              clear e q1 q2
              by_cases ho : 0 < addHi r v1 0
              · have ho' : decide (0 < addHi r v1 0) = true := by simpa using ho
                clear ho
                go_wp2_with fail
                go_meet
                case rel => exact ⟨x - 1, by go_num, HL.out.le, HL.out.lt, _, rfl⟩
              · have ho' : decide (0 < addHi r v1 0) = false := by simpa using ho
                have Hsum : Hid (addLo r v1 0 = r + v1) := by
                  have := add_eq r v1 0
                  have h0 : addHi r v1 0 = 0 := by omega
                  rw [h0] at this
                  show addLo r v1 0 = r + v1
                  omega
                clear ho
                go_wp2_with fail
                refine ⟨⟨x - 1, addLo r v1 0, by go_num, rfl, addLo_lt _ _ _, ?_, _, rfl⟩, by simp [intOf]; omega⟩
                rw [Hsum.out]; exact HL.out
            · have q4 : (((mulHi x v2 : Nat) : Int) == (r : Int)) = false := by simp; omega
              clear e q1 q2
              by_cases ho : 0 < addHi r v1 0
              · have ho' : decide (0 < addHi r v1 0) = true := by simpa using ho
                clear ho
                go_wp2_with fail
                go_meet
                case rel => exact ⟨x - 1, by go_num, HL.out.le, HL.out.lt, _, rfl⟩
              · have ho' : decide (0 < addHi r v1 0) = false := by simpa using ho
                have Hsum : Hid (addLo r v1 0 = r + v1) := by
                  have := add_eq r v1 0
                  have h0 : addHi r v1 0 = 0 := by omega
                  rw [h0] at this
                  show addLo r v1 0 = r + v1
                  omega
                clear ho
                go_wp2_with fail
                refine ⟨⟨x - 1, addLo r v1 0, by go_num, rfl, addLo_lt _ _ _, ?_, _, rfl⟩, by simp [intOf]; omega⟩
                rw [Hsum.out]; exact HL.out
    · have t' : decide (un < v1) = false := by simpa using t
      go_wp2_with fail
      go_meet
      case rel => exact ⟨18446744073709551615, rfl, by have := HQ.out; show _ ≤ _; unfold b64 at this; omega, by show _ < _; unfold b64; omega, _, rfl⟩
  case rest =>
    obtain ⟨x, rfl, hx1, hx2, nw, rfl⟩ := hcut
    go_wp2_with fail
    go_loopw [6] (fun xv wr => ∃ (x : Nat) (u' : List Nat), xv = .int .u64 x ∧ Hid (Q ≤ x) ∧ Hid (x < b64) ∧ Hid (u'.length = dv.length + 1) ∧ Dgs b64 u' ∧ Hid (lv b64 u' = lv b64 u) ∧ Own wr bu .u64 95 (pre ++ u' ++ post) ∧ w.grownBy wr (some bu)) (fun xv _ => (intOf xv).toNat)
    case atStart => exact ⟨x, u, rfl, hx1, hx2, Hlen.out, hu, rfl, Hown.out.drewN nw, grownBy_dn (World.grownBy.refl _ _) nw⟩
    case round =>
      clear hx1 hx2
      obtain ⟨x, u', rfl, hx1, hx2, hlu, hdu, hvu, hoU, hgr⟩ := hrel
      have hcvw : ∀ j, j < dv.length → wr.cell? ⟨bv, offv + j, none⟩ = some (.int .u64 (dv.getD j 0 : Nat)) := fun j hj => hgr.cell (Hcv.out j hj) (by simpa using hne)
      have hbvw : bv < wr.heap.size := Nat.lt_of_lt_of_le hbv hgr.size
      have ht := take_any pre u' post dv bu capu bv offv capv x wr hoU hlu.out hdu hv hx2.out (by rw [hlu.out, ← Hlen.out]; exact Hcap.out) Hcap2.out hne hbvw hcvw hsz hsz2
      have Ht := Lib.hid ht
      clear ht hcvw hbvw
      have hdiv := Nat.div_add_mod (lv b64 u) (lv b64 dv)
      rw [← HQe.out] at hdiv
      have Hdiv := Lib.hid hdiv
      clear hdiv
      by_cases hle : lv b64 dv * x ≤ lv b64 u'
      · have hok : tkOk (lv b64 dv * x) (lv b64 u') = true := by simp [tkOk, hle]
        have hval : tkVal (lv b64 dv * x) (lv b64 u') = lv b64 u' - lv b64 dv * x := by simp [tkVal, hle]
        rw [hok, hval] at Ht
        have Hxq : Hid (x = Q) := by
          show x = Q
          refine Nat.le_antisymm ?_ hx1.out
          rw [HQe.out, Nat.le_div_iff_mul_le hpos, Nat.mul_comm, ← hvu.out]
          exact hle
        clear hle hok hval
        go_wp2_with fail
        refine Ht.out.mono ?_
        rintro e w' ⟨u2', rfl, hl2, hd2, hv2', ho2, hg2⟩
        go_wp2_with fail
        go_ret
        refine ⟨u2', by rw [Hxq.out]; rfl, hl2, hd2, ?_, ho2, grownBy_trans hgr hg2⟩
        rw [hv2', hvu.out, Hxq.out]
        have := Hdiv.out
        omega
      · have hok : tkOk (lv b64 dv * x) (lv b64 u') = false := by simp [tkOk]; omega
        have hval : tkVal (lv b64 dv * x) (lv b64 u') = lv b64 u' := by simp [tkVal, hle]
        rw [hok, hval] at Ht
        have hxq : Q + 1 ≤ x := by
          rcases Nat.lt_or_ge Q x with h | h
          · exact h
          · have : lv b64 dv * x ≤ lv b64 dv * Q := Nat.mul_le_mul_left _ h
            have h2 := Hdiv.out
            rw [← hvu.out] at h2
            omega
        have hx0 : 1 ≤ x := by omega
        have Hxq := Lib.hid hxq
        clear hle hok hval hxq
        have hxb : (x : Int) ≤ 18446744073709551615 := by have := hx2.out; unfold b64 at this; omega
        go_wp2_with fail
        refine Ht.out.mono ?_
        rintro e w' ⟨u2', rfl, hl2, hd2, hv2', ho2, hg2⟩
        have Hl2 := Lib.hid hl2
        have Hv2 := Lib.hid hv2'
        clear hl2 hv2'
        go_wp2_with fail
        refine ⟨⟨x - 1, u2', by go_num, by show Q ≤ x - 1; have := Hxq.out; omega, by show x - 1 < b64; have := hx2.out; omega, Hl2.out, hd2, by show lv b64 u2' = lv b64 u; rw [Hv2.out, hvu.out], ho2, grownBy_trans hgr hg2⟩, by simp [intOf]; omega⟩

end Go.Proofs.Ytmfochplnchgcaa
