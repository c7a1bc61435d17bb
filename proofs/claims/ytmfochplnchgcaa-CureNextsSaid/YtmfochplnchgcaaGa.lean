/- Part a of the lemmas and walks. -/
import Derived.WalkKit
import Derived.WalkSpells
import Derived.WalkLawsBesides
import Derived.Lib.Hide
import Derived.Deep.AppendLies
import Derived.Test.YtmfochplnchgcaaRows
import Derived.BigQuiet
import Derived.Test.YtmfochplnchgcaaShelf
import Derived.Shelf.Spec.BitsCarry

/- PLAIN LAWS: natural numbers as lists of digits to a base, the least one first; no program in sight. -/
namespace Go.Proofs.Ytmfochplnchgcaa

/-- The value of a list of digits. -/
def lv (B : Nat) : List Nat → Nat
  | [] => 0
  | d :: ds => d + B * lv B ds

def digF (B : Nat) : Nat → Nat → List Nat
  | 0, _ => []
  | f + 1, n => if n = 0 then [] else n % B :: digF B f (n / B)

/-- The digits of a number, without zeros at the end. -/
def dig (B n : Nat) : List Nat := digF B n n

def Dgs (B : Nat) (ds : List Nat) : Prop := ∀ d ∈ ds, d < B

theorem Dgs.nil (B : Nat) : Dgs B [] := by intro d h; cases h
theorem Dgs.cons {B d : Nat} {ds : List Nat} (h : d < B) (hs : Dgs B ds) : Dgs B (d :: ds) := by
  intro x hx
  rcases List.mem_cons.1 hx with rfl | hx
  · exact h
  · exact hs x hx
theorem Dgs.head {B d : Nat} {ds : List Nat} (h : Dgs B (d :: ds)) : d < B := h d (by simp)
theorem Dgs.tail {B d : Nat} {ds : List Nat} (h : Dgs B (d :: ds)) : Dgs B ds := fun x hx => h x (by simp [hx])
theorem Dgs.getD {B : Nat} {ds : List Nat} (h : Dgs B ds) (hB : 0 < B) (i : Nat) : ds.getD i 0 < B := by
  by_cases hi : i < ds.length
  · have : ds.getD i 0 = ds[i] := by simp [hi]
    rw [this]; exact h _ (List.getElem_mem hi)
  · simp [List.getElem?_eq_none (Nat.le_of_not_lt hi)]; exact hB
theorem Dgs.append {B : Nat} {a b : List Nat} (ha : Dgs B a) (hb : Dgs B b) : Dgs B (a ++ b) := by
  intro x hx
  rcases List.mem_append.1 hx with h | h
  · exact ha x h
  · exact hb x h
theorem Dgs.take {B : Nat} {a : List Nat} (ha : Dgs B a) (k : Nat) : Dgs B (a.take k) := fun x hx => ha x (List.mem_of_mem_take hx)
theorem Dgs.drop {B : Nat} {a : List Nat} (ha : Dgs B a) (k : Nat) : Dgs B (a.drop k) := fun x hx => ha x (List.mem_of_mem_drop hx)
theorem Dgs.set {B : Nat} {a : List Nat} (ha : Dgs B a) (k x : Nat) (hx : x < B) : Dgs B (a.set k x) := by
  intro y hy
  rcases List.mem_or_eq_of_mem_set hy with h | rfl
  · exact ha y h
  · exact hx
theorem Dgs.replicate {B : Nat} (hB : 0 < B) (k : Nat) : Dgs B (List.replicate k 0) := by
  intro x hx
  rw [(List.mem_replicate.1 hx).2]; exact hB

theorem lv_nil (B : Nat) : lv B [] = 0 := rfl
theorem lv_cons (B d : Nat) (ds : List Nat) : lv B (d :: ds) = d + B * lv B ds := rfl

theorem lv_append (B : Nat) (a b : List Nat) : lv B (a ++ b) = lv B a + B ^ a.length * lv B b := by
  induction a with
  | nil => simp [lv]
  | cons d a ih =>
    simp only [List.cons_append, lv_cons, ih, List.length_cons, Nat.mul_add, Nat.pow_succ]
    rw [← Nat.mul_assoc, Nat.mul_comm B (B ^ a.length)]
    omega

theorem lv_replicate (B k : Nat) : lv B (List.replicate k 0) = 0 := by
  induction k with
  | zero => rfl
  | succ k ih => simp [List.replicate_succ, lv_cons, ih]

theorem lv_lt {B : Nat} {ds : List Nat} (h : Dgs B ds) : lv B ds < B ^ ds.length := by
  induction ds with
  | nil => simp [lv]
  | cons d ds ih =>
    have h1 := h.head
    have h2 := ih h.tail
    simp only [lv_cons, List.length_cons, Nat.pow_succ]
    have : B * (lv B ds + 1) ≤ B * B ^ ds.length := Nat.mul_le_mul_left _ h2
    rw [Nat.mul_add] at this
    rw [Nat.mul_comm (B ^ ds.length) B]
    omega

theorem lv_take_succ (B : Nat) (ds : List Nat) (k : Nat) (h : k < ds.length) : lv B (ds.take (k + 1)) = lv B (ds.take k) + B ^ k * ds.getD k 0 := by
  rw [List.take_succ_eq_append_getElem h, lv_append]
  have : (ds.take k).length = k := by simp; omega
  simp [this, lv, h]

theorem lv_take_drop (B : Nat) (ds : List Nat) (k : Nat) (h : k ≤ ds.length) : lv B ds = lv B (ds.take k) + B ^ k * lv B (ds.drop k) := by
  have h1 : (ds.take k).length = k := by simp; omega
  have := lv_append B (ds.take k) (ds.drop k)
  rw [List.take_append_drop, h1] at this
  exact this

theorem lv_set (B : Nat) (ds : List Nat) (k x : Nat) (h : k < ds.length) : lv B (ds.set k x) + B ^ k * ds.getD k 0 = lv B ds + B ^ k * x := by
  induction ds generalizing k with
  | nil => simp at h
  | cons d ds ih =>
    cases k with
    | zero => simp [lv_cons]; omega
    | succ k =>
      have := ih k (by simpa using h)
      simp only [List.set_cons_succ, lv_cons, Nat.pow_succ, List.getD_cons_succ] at *
      have e : ∀ y, B ^ k * B * y = B * (B ^ k * y) := fun y => by rw [Nat.mul_comm (B ^ k) B, Nat.mul_assoc]
      rw [e, e]
      have : B * (lv B (ds.set k x) + B ^ k * ds.getD k 0) = B * (lv B ds + B ^ k * x) := by rw [this]
      rw [Nat.mul_add, Nat.mul_add] at this
      omega

/-! ### The canonical digits -/
theorem digF_zero (B f : Nat) : digF B f 0 = [] := by cases f <;> simp [digF]

theorem digF_fuel {B : Nat} (hB : 2 ≤ B) : ∀ (f g n : Nat), n ≤ f → n ≤ g → digF B f n = digF B g n := by
  intro f
  induction f with
  | zero => intro g n hf hg; obtain rfl : n = 0 := by omega
            rw [digF_zero, digF_zero]
  | succ f ih =>
    intro g n hf hg
    cases g with
    | zero => obtain rfl : n = 0 := by omega
              rw [digF_zero, digF_zero]
    | succ g =>
      simp only [digF]
      by_cases hn : n = 0
      · simp [hn]
      · simp only [hn, if_false]
        have : n / B < n := Nat.div_lt_self (by omega) (by omega)
        rw [ih g (n / B) (by omega) (by omega)]

theorem dig_zero (B : Nat) : dig B 0 = [] := rfl
theorem dig_pos {B n : Nat} (hB : 2 ≤ B) (hn : n ≠ 0) : dig B n = n % B :: dig B (n / B) := by
  unfold dig
  cases n with
  | zero => exact absurd rfl hn
  | succ n =>
    simp only [digF, if_neg hn]
    have : (n + 1) / B < n + 1 := Nat.div_lt_self (by omega) (by omega)
    rw [digF_fuel hB n ((n + 1) / B) ((n + 1) / B) (by omega) (Nat.le_refl _)]

theorem lv_dig {B : Nat} (hB : 2 ≤ B) (n : Nat) : lv B (dig B n) = n := by
  induction n using Nat.strongRecOn with
  | _ n ih =>
    by_cases hn : n = 0
    · subst hn; rfl
    · rw [dig_pos hB hn, lv_cons, ih (n / B) (Nat.div_lt_self (by omega) (by omega))]
      exact Nat.mod_add_div n B

theorem dgs_dig {B : Nat} (hB : 2 ≤ B) (n : Nat) : Dgs B (dig B n) := by
  induction n using Nat.strongRecOn with
  | _ n ih =>
    by_cases hn : n = 0
    · subst hn; exact Dgs.nil B
    · rw [dig_pos hB hn]
      exact Dgs.cons (Nat.mod_lt _ (by omega)) (ih (n / B) (Nat.div_lt_self (by omega) (by omega)))

theorem dig_nil_iff {B : Nat} (hB : 2 ≤ B) (n : Nat) : dig B n = [] ↔ n = 0 := by
  constructor
  · intro h
    have := lv_dig hB n
    rw [h] at this
    exact this.symm
  · rintro rfl; rfl

theorem dig_one {B n : Nat} (hB : 2 ≤ B) (h0 : n ≠ 0) (h : n < B) : dig B n = [n] := by
  rw [dig_pos hB h0, Nat.mod_eq_of_lt h, Nat.div_eq_of_lt h, dig_zero]

/-- The digits are the digits. -/
theorem dig_of {B : Nat} (hB : 2 ≤ B) : ∀ (ds : List Nat), Dgs B ds → (∀ h : ds ≠ [], ds.getLast h ≠ 0) → dig B (lv B ds) = ds := by
  intro ds
  induction ds with
  | nil => intro _ _; rfl
  | cons d ds ih =>
    intro hd hl
    have hd1 := hd.head
    have ih' : dig B (lv B ds) = ds := ih hd.tail (fun h => by have := hl (by simp); rwa [List.getLast_cons h] at this)
    have hne : lv B (d :: ds) ≠ 0 := by
      intro h0
      have e : d + B * lv B ds = 0 := h0
      have hd0 : d = 0 := by omega
      have hm : B * lv B ds = 0 := by omega
      have hv0 : lv B ds = 0 := by
        rcases Nat.mul_eq_zero.1 hm with h | h
        · omega
        · exact h
      have hnil : ds = [] := by rw [← ih', hv0]; rfl
      subst hnil
      have := hl (by simp)
      simp at this
      exact this hd0
    rw [dig_pos hB hne, lv_cons]
    have e1 : (d + B * lv B ds) % B = d := by rw [Nat.add_mul_mod_self_left]; exact Nat.mod_eq_of_lt hd1
    have e2 : (d + B * lv B ds) / B = lv B ds := by rw [Nat.add_mul_div_left _ _ (by omega), Nat.div_eq_of_lt hd1]; omega
    rw [e1, e2, ih']

theorem dig_last {B : Nat} (hB : 2 ≤ B) (n : Nat) (h : dig B n ≠ []) : (dig B n).getLast h ≠ 0 := by
  induction n using Nat.strongRecOn with
  | _ n ih =>
    by_cases hn : n = 0
    · subst hn; exact absurd rfl h
    · by_cases hq : n / B = 0
      · have e : dig B n = [n % B] := by rw [dig_pos hB hn, hq, dig_zero]
        have hlt : n < B := by
          rcases Nat.lt_or_ge n B with h | h
          · exact h
          · have := Nat.div_pos h (by omega); omega
        have : (dig B n).getLast h = n % B := by simp [e]
        rw [this, Nat.mod_eq_of_lt hlt]; exact hn
      · have hq' : dig B (n / B) ≠ [] := fun h' => hq ((dig_nil_iff hB _).1 h')
        have := ih (n / B) (Nat.div_lt_self (by omega) (by omega)) hq'
        have e : (dig B n).getLast h = (dig B (n / B)).getLast hq' := by
          have e1 := dig_pos hB hn
          simp only [e1]
          rw [List.getLast_cons hq']
        rw [e]; exact this

/-- A last digit that is 0 says nothing. -/
theorem dig_lv_snoc_zero {B : Nat} (ds : List Nat) : lv B (ds ++ [0]) = lv B ds := by rw [lv_append]; simp [lv]

/-- A number is below a power of the base exactly if its digits are so many at most. -/
theorem dig_length_le {B : Nat} (hB : 2 ≤ B) : ∀ (k n : Nat), n < B ^ k → (dig B n).length ≤ k := by
  intro k
  induction k with
  | zero => intro n h; obtain rfl : n = 0 := by simpa using h
            simp [dig_zero]
  | succ k ih =>
    intro n h
    by_cases hn : n = 0
    · subst hn; simp [dig_zero]
    · rw [dig_pos hB hn]
      simp only [List.length_cons]
      have : n / B < B ^ k := by
        rw [Nat.div_lt_iff_lt_mul (by omega)]
        rw [Nat.pow_succ] at h; exact h
      have := ih _ this
      omega

theorem lt_pow_dig_length {B : Nat} (hB : 2 ≤ B) (n : Nat) : n < B ^ (dig B n).length := by
  have := lv_lt (dgs_dig hB n)
  rwa [lv_dig hB] at this

theorem pow_le_of_dig_length {B : Nat} (hB : 2 ≤ B) (n k : Nat) (h : k < (dig B n).length) : B ^ k ≤ n := by
  rcases Nat.lt_or_ge n (B ^ k) with h' | h'
  · have := dig_length_le hB k n h'; omega
  · exact h'

/-- The number of digits grows with the number. -/
theorem dig_length_mono {B : Nat} (hB : 2 ≤ B) {m n : Nat} (h : m ≤ n) : (dig B m).length ≤ (dig B n).length :=
  dig_length_le hB _ _ (Nat.lt_of_le_of_lt h (lt_pow_dig_length hB n))

theorem dig_length_mul {B : Nat} (hB : 2 ≤ B) (m n : Nat) : (dig B (m * n)).length ≤ (dig B m).length + (dig B n).length := by
  by_cases hn : n = 0
  · subst hn; simp [dig_zero]
  refine dig_length_le hB _ _ ?_
  rw [Nat.pow_add]
  exact Nat.mul_lt_mul_of_lt_of_le (lt_pow_dig_length hB m) (Nat.le_of_lt (lt_pow_dig_length hB n)) (Nat.pow_pos (by omega))

theorem dig_length_add {B : Nat} (hB : 2 ≤ B) (m n k : Nat) (hm : (dig B m).length ≤ k) (hn : (dig B n).length ≤ k) : (dig B (m + n)).length ≤ k + 1 := by
  refine dig_length_le hB _ _ ?_
  have h1 : m < B ^ k := Nat.lt_of_lt_of_le (lt_pow_dig_length hB m) (Nat.pow_le_pow_right (by omega) hm)
  have h2 : n < B ^ k := Nat.lt_of_lt_of_le (lt_pow_dig_length hB n) (Nat.pow_le_pow_right (by omega) hn)
  rw [Nat.pow_succ]
  have : B ^ k * 2 ≤ B ^ k * B := Nat.mul_le_mul_left _ hB
  omega

/-! ### Comparison from the greatest digit down -/
theorem lv_lt_of_digit {B : Nat} {a b : List Nat} (ha : Dgs B a) (i : Nat) (hi : i < a.length) (hlen : a.length = b.length)
    (heq : a.drop (i + 1) = b.drop (i + 1)) (hlt : a.getD i 0 < b.getD i 0) : lv B a < lv B b := by
  have h1 := lv_take_drop B a (i + 1) (by omega)
  have h2 := lv_take_drop B b (i + 1) (by omega)
  rw [lv_take_succ B a i hi] at h1
  rw [lv_take_succ B b i (by omega)] at h2
  rw [h1, h2, heq]
  have h3 : lv B (a.take i) < B ^ i := by
    have := lv_lt (ha.take i)
    have e : (a.take i).length = i := by simp; omega
    rwa [e] at this
  have h4 : B ^ i * (a.getD i 0 + 1) ≤ B ^ i * b.getD i 0 := Nat.mul_le_mul_left _ hlt
  rw [Nat.mul_add] at h4
  omega

theorem lt_of_dig_length {B : Nat} (hB : 2 ≤ B) {m n : Nat} (h : (dig B m).length < (dig B n).length) : m < n := by
  rcases Nat.lt_or_ge m n with h' | h'
  · exact h'
  · have := dig_length_mono hB h'; omega

/-- The base of 64 bits, and the one of 32; behind names: their numerals are never opened in a walk. -/
def b64 : Nat := 18446744073709551616
def b32 : Nat := 4294967296
theorem b64_two : 2 ≤ b64 := by unfold b64; omega
theorem b32_two : 2 ≤ b32 := by unfold b32; omega
theorem b64_pos : 0 < b64 := by unfold b64; omega
theorem b32_pos : 0 < b32 := by unfold b32; omega
theorem b64_pow : b64 = 2 ^ 64 := by unfold b64; omega
theorem b32_pow : b32 = 2 ^ 32 := by unfold b32; omega
theorem b64_sq : b64 = b32 * b32 := by unfold b64 b32; omega

end Go.Proofs.Ytmfochplnchgcaa

/- PLAIN LAWS: the quotient of two words by one, found in two halves (Knuth's D for base 2^32). No program in sight. -/
namespace Go.Proofs.Ytmfochplnchgcaa

/-- A guess q with its remainder r: what a loop of corrections keeps. u: the upper part, d: the next digit; V = v1 b + v0. -/
structure Guess (b v1 v0 u d q r : Nat) : Prop where
  eq : u = q * v1 + r
  lo : (u * b + d) / (v1 * b + v0) ≤ q
  hi : q ≤ b + 1

theorem Guess.first {b v1 v0 u d : Nat} (hb : 2 ≤ b) (hv1 : b ≤ 2 * v1) (hv0 : v0 < b) (hu : u < v1 * b + v0) (hd : d < b) : Guess b v1 v0 u d (u / v1) (u % v1) := by
  have hp : 0 < v1 := by omega
  refine ⟨by rw [Nat.mul_comm]; exact (Nat.div_add_mod u v1).symm, ?_, ?_⟩
  · have h1 : u * b + d < (u / v1 + 1) * (v1 * b + v0) := by
      have h2 : u < (u / v1 + 1) * v1 := by
        have h3 := Nat.div_add_mod u v1
        have h4 := Nat.mod_lt u hp
        rw [Nat.add_mul, Nat.one_mul, Nat.mul_comm]; omega
      have h5 : (u + 1) * b ≤ (u / v1 + 1) * v1 * b := Nat.mul_le_mul_right b h2
      rw [Nat.add_mul, Nat.one_mul] at h5
      have h6 : (u / v1 + 1) * (v1 * b + v0) = (u / v1 + 1) * v1 * b + (u / v1 + 1) * v0 := by rw [Nat.mul_add, Nat.mul_assoc]
      omega
    have h7 : 0 < v1 * b + v0 := by have := Nat.mul_pos hp (by omega : 0 < b); omega
    have := (Nat.div_lt_iff_lt_mul h7).2 h1
    omega
  · have h1 : u < (b + 2) * v1 := by
      have e : (b + 2) * v1 = b * v1 + 2 * v1 := by rw [Nat.add_mul]
      have e2 : v1 * b = b * v1 := Nat.mul_comm _ _
      omega
    have := (Nat.div_lt_iff_lt_mul hp).2 h1
    omega

/-- The quotient is below the base. -/
theorem quo_lt {b V u d : Nat} (hV : 0 < V) (hu : u < V) (hd : d < b) : (u * b + d) / V < b := by
  rw [Nat.div_lt_iff_lt_mul hV]
  have : (u + 1) * b ≤ V * b := Nat.mul_le_mul_right b hu
  rw [Nat.add_mul, Nat.one_mul] at this
  rw [Nat.mul_comm b V]
  omega

/-- A guess that the test refuses is too great. -/
theorem Guess.less {b v1 v0 u d q r : Nat} (h : Guess b v1 v0 u d q r) (hV : 0 < v1 * b + v0) (hu : u < v1 * b + v0) (hd : d < b) (ht : b ≤ q ∨ b * r + d < q * v0) :
    1 ≤ q ∧ Guess b v1 v0 u d (q - 1) (r + v1) := by
  have hq : (u * b + d) / (v1 * b + v0) < q := by
    rcases ht with ht | ht
    · exact Nat.lt_of_lt_of_le (quo_lt hV hu hd) ht
    · rw [Nat.div_lt_iff_lt_mul hV]
      have e := h.eq
      have e2 : u * b = q * v1 * b + r * b := by rw [e, Nat.add_mul]
      have e3 : q * (v1 * b + v0) = q * v1 * b + q * v0 := by rw [Nat.mul_add, Nat.mul_assoc]
      have e4 : r * b = b * r := Nat.mul_comm _ _
      omega
  have h1 : 1 ≤ q := Nat.lt_of_le_of_lt (Nat.zero_le _) hq
  refine ⟨h1, ?_, by omega, by have := h.hi; omega⟩
  have e := h.eq
  obtain ⟨q, rfl⟩ : ∃ q', q = q' + 1 := ⟨q - 1, by omega⟩
  simp only [Nat.add_sub_cancel]
  rw [Nat.add_mul, Nat.one_mul] at e
  omega

/-- Where the loop ends the guess is the quotient. -/
theorem Guess.done {b v1 v0 u d q r : Nat} (h : Guess b v1 v0 u d q r) (hV : 0 < v1 * b + v0) (ht : q * v0 ≤ b * r + d) : q = (u * b + d) / (v1 * b + v0) := by
  apply Nat.le_antisymm _ h.lo
  rw [Nat.le_div_iff_mul_le hV]
  have e := h.eq
  have e2 : u * b = q * v1 * b + r * b := by rw [e, Nat.add_mul]
  have e3 : q * (v1 * b + v0) = q * v1 * b + q * v0 := by rw [Nat.mul_add, Nat.mul_assoc]
  have e4 : r * b = b * r := Nat.mul_comm _ _
  omega

theorem Guess.broke {b v1 v0 u d q r : Nat} (h : Guess b v1 v0 u d q r) (hV : 0 < v1 * b + v0) (hv0 : v0 < b) (hq : q ≤ b) (hr : b ≤ r) : q = (u * b + d) / (v1 * b + v0) := by
  refine h.done hV ?_
  have h1 : q * v0 ≤ b * v0 := Nat.mul_le_mul_right _ hq
  have h2 : b * v0 ≤ b * r := Nat.mul_le_mul_left _ (by omega)
  omega

/-- Two digits of the quotient. -/
theorem two_halves {b V u d1 d0 q1 q0 r : Nat} (hV : 0 < V) (hu : u < V) (hd0 : d0 < b) (h1 : q1 = (u * b + d1) / V) (hr : r = (u * b + d1) % V) (h0 : q0 = (r * b + d0) / V) :
    q1 * b + q0 = (u * (b * b) + d1 * b + d0) / V ∧ (r * b + d0) % V = (u * (b * b) + d1 * b + d0) % V := by
  have e1 := Nat.div_add_mod (u * b + d1) V
  rw [← h1, ← hr] at e1
  have e2 : u * (b * b) + d1 * b + d0 = (q1 * b) * V + (r * b + d0) := by
    have : (u * b + d1) * b = (V * q1 + r) * b := by rw [e1]
    rw [Nat.add_mul, Nat.add_mul] at this
    have e3 : u * b * b = u * (b * b) := Nat.mul_assoc _ _ _
    have e4 : V * q1 * b = q1 * b * V := by ac_rfl
    omega
  rw [e2, h0]
  constructor
  · rw [Nat.add_comm (q1 * b * V), Nat.add_mul_div_right _ _ hV, Nat.add_comm]
  · rw [Nat.add_comm (q1 * b * V), Nat.add_mul_mod_self_right]

/-- A number's bits split at a power of two: what a shift's two halves are. -/
theorem or_disjoint (a x s : Nat) (hx : x < 2 ^ s) : a * 2 ^ s ||| x = a * 2 ^ s + x := by
  rw [Nat.mul_comm]
  exact (Nat.two_pow_add_eq_or_of_lt hx a).symm

end Go.Proofs.Ytmfochplnchgcaa

/- RUNS OF A CURE, PLAINLY: rules, runs, what an event makes of a run (the program's and the reference's way), and that a right run stays right. -/
namespace Go.Proofs.Ytmfochplnchgcaa

structure Rn where
  ph : Int
  be : Int
  mi : Int
  wa : Int
  l0 : Bool
  l1 : Bool
  l2 : Bool
  te : Bool
structure Ru where
  m0 : Int
  m1 : Int
  m2 : Int
  pa : Int
  t00 : Int
  t01 : Int
  t02 : Int
  t10 : Int
  t11 : Int
  t12 : Int
  t20 : Int
  t21 : Int
  t22 : Int

/-- The minutes of phase p, and what it demands at disturbance d. -/
def Ru.mn (r : Ru) (p : Int) : Int := if p = 1 then r.m0 else if p = 2 then r.m1 else r.m2
def Ru.tb (r : Ru) (p : Int) (d : Nat) : Int :=
  if p = 1 then (if d = 0 then r.t00 else if d = 1 then r.t01 else r.t02)
  else if p = 2 then (if d = 0 then r.t10 else if d = 1 then r.t11 else r.t12)
  else (if d = 0 then r.t20 else if d = 1 then r.t21 else r.t22)
def Rn.lost (x : Rn) (d : Nat) : Bool := if d = 0 then x.l0 else if d = 1 then x.l1 else x.l2
def Rn.lose (x : Rn) (d : Nat) (b : Bool) : Rn := if d = 0 then { x with l0 := b } else if d = 1 then { x with l1 := b } else { x with l2 := b }

def inR (n lo hi : Int) : Bool := decide (lo ≤ n) && decide (n ≤ hi)
def rulesOk (r : Ru) : Bool :=
  inR r.pa 0 256 && inR r.m0 1 256 && inR r.t00 0 3 && inR r.t01 0 3 && inR r.t02 0 3 && inR r.m1 1 256 && inR r.t10 0 3 && inR r.t11 0 3 && inR r.t12 0 3 &&
  inR r.m2 1 256 && inR r.t20 0 3 && inR r.t21 0 3 && inR r.t22 0 3
structure GoodRules (r : Ru) : Prop where
  pa : 0 ≤ r.pa ∧ r.pa ≤ 256
  m0 : 1 ≤ r.m0 ∧ r.m0 ≤ 256
  m1 : 1 ≤ r.m1 ∧ r.m1 ≤ 256
  m2 : 1 ≤ r.m2 ∧ r.m2 ≤ 256
  t00 : 0 ≤ r.t00 ∧ r.t00 ≤ 3
  t01 : 0 ≤ r.t01 ∧ r.t01 ≤ 3
  t02 : 0 ≤ r.t02 ∧ r.t02 ≤ 3
  t10 : 0 ≤ r.t10 ∧ r.t10 ≤ 3
  t11 : 0 ≤ r.t11 ∧ r.t11 ≤ 3
  t12 : 0 ≤ r.t12 ∧ r.t12 ≤ 3
  t20 : 0 ≤ r.t20 ∧ r.t20 ≤ 3
  t21 : 0 ≤ r.t21 ∧ r.t21 ≤ 3
  t22 : 0 ≤ r.t22 ∧ r.t22 ≤ 3
theorem rulesOk_good {r : Ru} (h : rulesOk r = true) : GoodRules r := by
  simp only [rulesOk, inR, Bool.and_eq_true, decide_eq_true_eq] at h
  obtain ⟨⟨⟨⟨⟨⟨⟨⟨⟨⟨⟨⟨a, b⟩, c⟩, d⟩, e⟩, f⟩, g⟩, i⟩, j⟩, k⟩, l⟩, m⟩, n⟩ := h
  exact ⟨a, b, f, k, c, d, e, g, i, j, l, m, n⟩
theorem GoodRules.mn {r : Ru} (h : GoodRules r) (p : Int) : 1 ≤ r.mn p ∧ r.mn p ≤ 256 := by
  unfold Ru.mn
  split
  · exact h.m0
  · split
    · exact h.m1
    · exact h.m2
theorem GoodRules.tb {r : Ru} (h : GoodRules r) (p : Int) (d : Nat) : 0 ≤ r.tb p d ∧ r.tb p d ≤ 3 := by
  have ⟨_, _, _, _, a, b, c, d', e, f, g, i, j⟩ := h
  unfold Ru.tb
  split
  · split
    · exact a
    · split
      · exact b
      · exact c
  · split
    · split
      · exact d'
      · split
        · exact e
        · exact f
    · split
      · exact g
      · split
        · exact i
        · exact j

def goes (p : Int) : Bool := inR p 1 3
/-- A disturbance lasts for which phase p demands to wait. -/
def heldAt (r : Ru) (x : Rn) (p : Int) : Bool := x.l0 && decide (r.tb p 0 = 2) || (x.l1 && decide (r.tb p 1 = 2) || x.l2 && decide (r.tb p 2 = 2))
def right (r : Ru) (x : Rn) : Bool :=
  if inR x.ph 0 7 then
    if x.ph = 4 then inR x.be 1 3 && (inR x.mi 0 (r.mn x.be - 1) && (inR x.wa 0 r.pa && heldAt r x x.be))
    else if x.be = 0 ∧ x.wa = 0 then (if goes x.ph then inR x.mi 0 (r.mn x.ph - 1) else decide (x.mi = 0))
    else false
  else false
/-- What right says. -/
def Right (r : Ru) (x : Rn) : Prop :=
  (x.ph = 4 ∧ (1 ≤ x.be ∧ x.be ≤ 3) ∧ (0 ≤ x.mi ∧ x.mi < r.mn x.be) ∧ (0 ≤ x.wa ∧ x.wa ≤ r.pa) ∧ heldAt r x x.be = true)
  ∨ (x.be = 0 ∧ x.wa = 0 ∧ (1 ≤ x.ph ∧ x.ph ≤ 3) ∧ (0 ≤ x.mi ∧ x.mi < r.mn x.ph))
  ∨ (x.be = 0 ∧ x.wa = 0 ∧ x.mi = 0 ∧ (x.ph = 0 ∨ x.ph = 5 ∨ x.ph = 6 ∨ x.ph = 7))
theorem right_iff (r : Ru) (x : Rn) : right r x = true ↔ Right r x := by
  unfold right Right goes inR
  constructor
  · intro h
    split at h
    · split at h
      · simp only [Bool.and_eq_true, decide_eq_true_eq] at h
        obtain ⟨h1, h2, h3, h4⟩ := h
        exact .inl ⟨by assumption, h1, by omega, h3, h4⟩
      · split at h
        · split at h
          · simp only [Bool.and_eq_true, decide_eq_true_eq] at *
            exact .inr (.inl (by omega))
          · simp only [Bool.and_eq_true, decide_eq_true_eq] at *
            exact .inr (.inr (by omega))
        · cases h
    · cases h
  · rintro (⟨a, b, c, d, e⟩ | ⟨a, b, c, d⟩ | ⟨a, b, c, d⟩)
    · rw [if_pos (by simp [a]), if_pos a, e]
      simp only [Bool.and_eq_true, decide_eq_true_eq]
      exact ⟨b, ⟨c.1, by omega⟩, d, trivial⟩
    · rw [if_pos (by simp only [Bool.and_eq_true, decide_eq_true_eq]; omega), if_neg (by omega), if_pos ⟨a, b⟩, if_pos (by simp only [Bool.and_eq_true, decide_eq_true_eq]; omega)]
      simp only [Bool.and_eq_true, decide_eq_true_eq]
      omega
    · rw [if_pos (by simp only [Bool.and_eq_true, decide_eq_true_eq]; omega), if_neg (by omega), if_pos ⟨a, b⟩, if_neg (by simp only [Bool.and_eq_true, decide_eq_true_eq]; omega)]
      simp only [decide_eq_true_eq]
      exact c

def ended (x : Rn) (p : Int) : Rn := { x with ph := p, be := 0, mi := 0, wa := 0 }
/-- The phase that a run is in, or waits behind. -/
def inPh (x : Rn) : Int := if x.ph = 4 then x.be else x.ph
def meet (r : Ru) (x : Rn) (d : Nat) : Rn :=
  if goes (inPh x) then
    if r.tb (inPh x) d = 3 then ended x 7
    else if r.tb (inPh x) d = 1 then { x with te := true }
    else if r.tb (inPh x) d = 2 then (if goes x.ph then { x with be := x.ph, ph := 4 } else x)
    else x
  else x
def meetIf (r : Ru) (x : Rn) (d : Nat) : Rn := if x.lost d then meet r x d else x
def begin (r : Ru) (x : Rn) (p : Int) : Rn := meetIf r (meetIf r (meetIf r { x with ph := p, mi := 0 } 0) 1) 2
def tick (r : Ru) (x : Rn) : Rn :=
  if x.ph = 4 then (if r.pa < x.wa + 1 then ended { x with wa := x.wa + 1 } 7 else { x with wa := x.wa + 1 })
  else if goes x.ph then
    if x.mi + 1 < r.mn x.ph then { x with mi := x.mi + 1 }
    else if x.ph < 3 then begin r { x with mi := x.mi + 1 } (x.ph + 1)
    else if x.te then ended { x with mi := x.mi + 1 } 6
    else ended { x with mi := x.mi + 1 } 5
  else x
def dOf (e : Int) : Nat := ((e - 2) / 2).toNat
def lostOf (e : Int) : Bool := decide (e % 2 = 0)
def unheld (r : Ru) (x : Rn) : Rn := if x.ph = 4 ∧ heldAt r x x.be = false then { x with ph := x.be, be := 0, wa := 0 } else x
def next (r : Ru) (x : Rn) (e : Int) : Option Rn :=
  if e = 0 then some (tick r x)
  else if e = 1 then (if x.ph = 0 then some (begin r { x with te := false } 1) else none)
  else if inR x.ph 0 4 = false ∨ x.lost (dOf e) = lostOf e then none
  else if lostOf e then some (meet r (x.lose (dOf e) true) (dOf e))
  else some (unheld r (x.lose (dOf e) false))
end Go.Proofs.Ytmfochplnchgcaa

/- RUNS OF A CURE, PLAINLY, further: the reference's way is the program's at right runs; a right run stays right. -/
namespace Go.Proofs.Ytmfochplnchgcaa

theorem goes_iff (p : Int) : goes p = true ↔ 1 ≤ p ∧ p ≤ 3 := by
  unfold goes inR
  simp
theorem goes_no {p : Int} (h : ¬ (1 ≤ p ∧ p ≤ 3)) : goes p = false := by
  cases hg : goes p
  · rfl
  · exact absurd ((goes_iff p).1 hg) h
theorem goes_yes {p : Int} (h : 1 ≤ p ∧ p ≤ 3) : goes p = true := (goes_iff p).2 h

theorem ended_right (r : Ru) (x : Rn) {p : Int} (h : p = 5 ∨ p = 6 ∨ p = 7) : Right r (ended x p) := .inr (.inr ⟨rfl, rfl, rfl, .inr h⟩)
theorem held_of {r : Ru} {x : Rn} {p : Int} {d : Nat} (hd : d < 3) (hl : x.lost d = true) (ht : r.tb p d = 2) : heldAt r x p = true := by
  unfold heldAt
  match d, hd with
  | 0, _ => simp_all [Rn.lost]
  | 1, _ => simp_all [Rn.lost]
  | 2, _ => simp_all [Rn.lost]
theorem meet_right {r : Ru} {x : Rn} {d : Nat} (G : GoodRules r) (hd : d < 3) (hl : x.lost d = true) (h : Right r x) : Right r (meet r x d) := by
  unfold meet
  split
  · rename_i hg
    split
    · exact ended_right _ _ (by simp)
    · split
      · exact h
      · split
        · rename_i h2
          split
          · rename_i hg2
            rcases h with ⟨a, _⟩ | ⟨a, b, c, e⟩ | ⟨a, b, c, e⟩
            · rw [a] at hg2
              exact absurd hg2 (by decide)
            · refine .inl ⟨rfl, c, e, ⟨by show 0 ≤ x.wa; omega, ?_⟩, ?_⟩
              · show x.wa ≤ r.pa
                have := G.pa
                omega
              · refine held_of hd (x := { x with be := x.ph, ph := 4 }) (by unfold Rn.lost at *; exact hl) ?_
                rw [← h2, inPh, if_neg (by omega)]
            · exact absurd ((goes_iff _).1 hg2) (by omega)
          · exact h
        · exact h
  · exact h
theorem meetIf_right {r : Ru} {x : Rn} {d : Nat} (G : GoodRules r) (hd : d < 3) (h : Right r x) : Right r (meetIf r x d) := by
  unfold meetIf
  split
  · exact meet_right G hd (by assumption) h
  · exact h
theorem begin_right {r : Ru} {x : Rn} {p : Int} (G : GoodRules r) (hb : x.be = 0) (hw : x.wa = 0) (hp : 1 ≤ p ∧ p ≤ 3) : Right r (begin r x p) := by
  refine meetIf_right G (by omega) (meetIf_right G (by omega) (meetIf_right G (by omega) (.inr (.inl ⟨hb, hw, hp, ?_⟩))))
  have := G.mn p
  show (0 : Int) ≤ 0 ∧ 0 < r.mn p
  omega
theorem tick_right {r : Ru} {x : Rn} (G : GoodRules r) (h : Right r x) : Right r (tick r x) := by
  unfold tick
  split
  · rename_i h4
    split
    · exact ended_right _ _ (by simp)
    · rcases h with ⟨a, b, c, d, e⟩ | ⟨a, b, c, d⟩ | ⟨a, b, c, d⟩
      · exact .inl ⟨a, b, c, ⟨by show 0 ≤ x.wa + 1; omega, by show x.wa + 1 ≤ r.pa; omega⟩, e⟩
      · omega
      · omega
  · split
    · rename_i h4 hg
      have hg := (goes_iff _).1 hg
      have hB : x.be = 0 ∧ x.wa = 0 ∧ 0 ≤ x.mi := by
        rcases h with ⟨a, b, c, d, e⟩ | ⟨a, b, c, d⟩ | ⟨a, b, c, d⟩ <;> omega
      split
      · exact .inr (.inl ⟨hB.1, hB.2.1, hg, by show 0 ≤ x.mi + 1; omega, by assumption⟩)
      · split
        · exact begin_right G hB.1 hB.2.1 (by omega)
        · split <;> exact ended_right _ _ (by simp)
    · exact h
theorem lose_lost {x : Rn} {d : Nat} (hd : d < 3) (b : Bool) : (x.lose d b).lost d = b := by
  match d, hd with
  | 0, _ => rfl
  | 1, _ => rfl
  | 2, _ => rfl
theorem lose_held {r : Ru} {x : Rn} {p : Int} {d : Nat} (h : heldAt r x p = true) : heldAt r (x.lose d true) p = true := by
  unfold Rn.lose heldAt at *
  cases h0 : x.l0 <;> cases h1 : x.l1 <;> cases h2 : x.l2 <;> split <;> (try split) <;> simp_all <;> omega
theorem lose_same (x : Rn) (d : Nat) (b : Bool) : (x.lose d b).ph = x.ph ∧ (x.lose d b).be = x.be ∧ (x.lose d b).mi = x.mi ∧ (x.lose d b).wa = x.wa ∧ (x.lose d b).te = x.te := by
  unfold Rn.lose
  split
  · exact ⟨rfl, rfl, rfl, rfl, rfl⟩
  · split <;> exact ⟨rfl, rfl, rfl, rfl, rfl⟩
theorem lose_right {r : Ru} {x : Rn} {d : Nat} (h : Right r x) : Right r (x.lose d true) := by
  obtain ⟨s1, s2, s3, s4, _⟩ := lose_same x d true
  unfold Right at *
  rw [s1, s2, s3, s4]
  rcases h with ⟨a, b, c, d, e⟩ | h | h
  · exact .inl ⟨a, b, c, d, lose_held e⟩
  · exact .inr (.inl h)
  · exact .inr (.inr h)
theorem unheld_right {r : Ru} {x : Rn} {d : Nat} (h : Right r x) : Right r (unheld r (x.lose d false)) := by
  obtain ⟨s1, s2, s3, s4, _⟩ := lose_same x d false
  unfold unheld
  split
  · rename_i h4
    obtain ⟨h4, _⟩ := h4
    rw [s1] at h4
    rcases h with ⟨a, b, c, d, e⟩ | ⟨a, b, c, d⟩ | ⟨a, b, c, d⟩
    · refine .inr (.inl ⟨rfl, rfl, ?_, ?_⟩)
      · show 1 ≤ (x.lose _ false).be ∧ _
        rw [s2]
        exact b
      · show 0 ≤ (x.lose _ false).mi ∧ (x.lose _ false).mi < r.mn (x.lose _ false).be
        rw [s2, s3]
        exact c
    · omega
    · omega
  · rename_i h4
    unfold Right at *
    rw [s1, s2, s3, s4]
    rw [s1, s2] at h4
    rcases h with ⟨a, b, c, d, e⟩ | h | h
    · refine .inl ⟨a, b, c, d, ?_⟩
      cases hh : heldAt r (x.lose _ false) x.be
      · exact absurd ⟨a, hh⟩ h4
      · rfl
    · exact .inr (.inl h)
    · exact .inr (.inr h)
theorem dOf_lt {e : Int} (h : e ≤ 7) : dOf e < 3 := by
  unfold dOf
  omega
theorem next_right {r : Ru} {x y : Rn} {e : Int} (G : GoodRules r) (h : Right r x) (he : e ≤ 7) (hy : next r x e = some y) : Right r y := by
  unfold next at hy
  split at hy
  · cases hy
    exact tick_right G h
  · split at hy
    · split at hy
      · cases hy
        have hB : x.be = 0 ∧ x.wa = 0 := by rcases h with ⟨a, b, c, d, e⟩ | ⟨a, b, c, d⟩ | ⟨a, b, c, d⟩ <;> omega
        exact begin_right G hB.1 hB.2 (by omega)
      · cases hy
    · split at hy
      · cases hy
      · split at hy
        · cases hy
          exact meet_right G (dOf_lt he) (lose_lost (dOf_lt he) _) (lose_right h)
        · cases hy
          exact unheld_right h

/-! The reference's way. -/
def meetR (r : Ru) (x : Rn) (d : Nat) : Rn :=
  if goes (inPh x) then
    if r.tb (inPh x) d = 3 then ended x 7
    else if r.tb (inPh x) d = 1 then { x with te := true }
    else if r.tb (inPh x) d = 2 then (if x.ph = 4 then x else { x with be := inPh x, ph := 4, wa := 0 })
    else x
  else x
def meetIfR (r : Ru) (x : Rn) (d : Nat) : Rn := if x.lost d then meetR r x d else x
def beginR (r : Ru) (x : Rn) (p : Int) : Rn := meetIfR r (meetIfR r (meetIfR r { x with ph := p, mi := 0 } 0) 1) 2
def tickR (r : Ru) (x : Rn) : Rn :=
  if goes x.ph then
    if x.mi + 1 < r.mn x.ph then { x with mi := x.mi + 1 }
    else if x.ph < 3 then beginR r { x with mi := x.mi + 1 } (x.ph + 1)
    else if x.te then ended { x with mi := x.mi + 1 } 6
    else ended { x with mi := x.mi + 1 } 5
  else if x.ph = 4 then (if r.pa < x.wa + 1 then ended { x with wa := x.wa + 1 } 7 else { x with wa := x.wa + 1 })
  else x
def nextR (r : Ru) (x : Rn) (e : Int) : Option Rn :=
  if e = 0 then some (tickR r x)
  else if e = 1 then (if x.ph = 0 then some (beginR r { x with te := false } 1) else none)
  else if 4 < x.ph ∨ x.lost (dOf e) = lostOf e then none
  else if lostOf e then some (meetR r (x.lose (dOf e) true) (dOf e))
  else some (unheld r (x.lose (dOf e) false))

theorem meetR_eq {r : Ru} {x : Rn} {d : Nat} (h : x.ph ≠ 4 → x.wa = 0) : meetR r x d = meet r x d := by
  unfold meetR meet
  by_cases hg : goes (inPh x) = true
  · rw [if_pos hg, if_pos hg]
    split
    · rfl
    · split
      · rfl
      · split
        · by_cases h4 : x.ph = 4
          · rw [if_pos h4, if_neg (by rw [h4]; decide)]
          · rw [if_neg h4]
            have e : inPh x = x.ph := if_neg h4
            rw [e] at hg ⊢
            rw [if_pos hg]
            have := h h4
            cases x
            simp_all
        · rfl
  · rw [if_neg hg, if_neg hg]
theorem meet_wa {r : Ru} {x : Rn} {d : Nat} (h : x.ph ≠ 4 → x.wa = 0) : (meet r x d).ph ≠ 4 → (meet r x d).wa = 0 := by
  unfold meet
  split
  · split
    · exact fun _ => rfl
    · split
      · exact h
      · split
        · split
          · exact fun h => absurd rfl h
          · exact h
        · exact h
  · exact h
theorem meetIfR_eq {r : Ru} {x : Rn} {d : Nat} (h : x.ph ≠ 4 → x.wa = 0) : meetIfR r x d = meetIf r x d := by
  unfold meetIfR meetIf
  rw [meetR_eq h]
theorem meetIf_wa {r : Ru} {x : Rn} {d : Nat} (h : x.ph ≠ 4 → x.wa = 0) : (meetIf r x d).ph ≠ 4 → (meetIf r x d).wa = 0 := by
  unfold meetIf
  split
  · exact meet_wa h
  · exact h
theorem beginR_eq {r : Ru} {x : Rn} {p : Int} (h : x.wa = 0) : beginR r x p = begin r x p := by
  have h0 : ({ x with ph := p, mi := 0 } : Rn).ph ≠ 4 → ({ x with ph := p, mi := 0 } : Rn).wa = 0 := fun _ => h
  unfold beginR begin
  rw [meetIfR_eq h0, meetIfR_eq (meetIf_wa h0), meetIfR_eq (meetIf_wa (meetIf_wa h0))]
theorem Right.wa {r : Ru} {x : Rn} (h : Right r x) : x.ph ≠ 4 → x.wa = 0 := by
  rcases h with ⟨a, b, c, d, e⟩ | ⟨a, b, c, d⟩ | ⟨a, b, c, d⟩ <;> omega
theorem tickR_eq {r : Ru} {x : Rn} (h : Right r x) : tickR r x = tick r x := by
  unfold tickR tick
  by_cases hg : goes x.ph = true
  · have h4 : x.ph ≠ 4 := by have := (goes_iff _).1 hg; omega
    rw [if_pos hg, if_neg h4, if_pos hg, beginR_eq (x := { x with mi := x.mi + 1 }) (h.wa h4)]
  · by_cases h4 : x.ph = 4
    · rw [if_neg hg, if_pos h4, if_pos h4]
    · rw [if_neg hg, if_neg h4, if_neg h4, if_neg hg]
theorem nextR_eq {r : Ru} {x : Rn} {e : Int} (h : Right r x) : nextR r x e = next r x e := by
  unfold nextR next
  have hp : (4 < x.ph ∨ x.lost (dOf e) = lostOf e) ↔ (inR x.ph 0 4 = false ∨ x.lost (dOf e) = lostOf e) := by
    have : inR x.ph 0 4 = false ↔ 4 < x.ph := by
      unfold inR
      have : 0 ≤ x.ph := by rcases h with ⟨a, b, c, d, e⟩ | ⟨a, b, c, d⟩ | ⟨a, b, c, d⟩ <;> omega
      simp only [Bool.and_eq_false_iff, decide_eq_false_iff_not]
      omega
    rw [this]
  rw [tickR_eq h]
  split
  · rfl
  · split
    · split
      · rw [beginR_eq (x := { x with te := false }) (h.wa (by omega))]
      · rfl
    · by_cases hh : inR x.ph 0 4 = false ∨ x.lost (dOf e) = lostOf e
      · rw [if_pos hh, if_pos (hp.2 hh)]
      · rw [if_neg hh, if_neg (fun g => hh (hp.1 g)), meetR_eq (by rw [(lose_same _ _ _).1, (lose_same _ _ _).2.2.2.1]; exact h.wa)]

/-! Runs of events. -/
def rn0 : Rn := ⟨0, 0, 0, 0, false, false, false, false⟩
def playStep (r : Ru) (s : Rn × Nat) (e : Int) : Rn × Nat := match next r s.1 e with | some y => (y, s.2 + 1) | none => s
def play (r : Ru) (es : List Int) : Rn × Nat := es.foldl (playStep r) (rn0, 0)
theorem play_take {r : Ru} {es : List Int} {i : Nat} (h : i < es.length) : play r (es.take (i + 1)) = playStep r (play r (es.take i)) (es.getD i 0) := by
  unfold play
  rw [List.take_add_one, List.foldl_append]
  simp [List.getD_eq_getElem?_getD, List.getElem?_eq_getElem h]
theorem rn0_right (r : Ru) : Right r rn0 := .inr (.inr ⟨rfl, rfl, rfl, .inl rfl⟩)
theorem play_right {r : Ru} (G : GoodRules r) (es : List Int) (h : ∀ e ∈ es, e ≤ 7) : Right r (play r es).1 := by
  have key : ∀ (es : List Int) (s : Rn × Nat), (∀ e ∈ es, e ≤ 7) → Right r s.1 → Right r (es.foldl (playStep r) s).1 := by
    intro es
    induction es with
    | nil => intro s _ hs; exact hs
    | cons e es ih =>
      intro s h hs
      refine ih _ (fun e' h' => h e' (by simp [h'])) ?_
      unfold playStep
      split
      · exact next_right G hs (h e (by simp)) (by assumption)
      · exact hs
  exact key es _ h (rn0_right r)
end Go.Proofs.Ytmfochplnchgcaa

/- DECIMAL DIGITS: the plain part. -/
namespace Go.Proofs.Ytmfochplnchgcaa

theorem ten_two : 2 ≤ 10 := by omega
/-- The byte of a decimal digit. -/
def chD (d : Nat) : UInt8 := UInt8.ofNat (48 + d)
/-- The last m decimal digits, and all of them; none of 0. -/
def decP (n m : Nat) : List UInt8 := ((dig 10 n).take m).reverse.map chD
def decL (n : Nat) : List UInt8 := (dig 10 n).reverse.map chD
/-- The decimal text of a natural number. -/
def decT (n : Nat) : List UInt8 := if n = 0 then [48] else decL n

theorem dig_drop {B : Nat} (hB : 2 ≤ B) : ∀ (k n : Nat), (dig B n).drop k = dig B (n / B ^ k)
  | 0, n => by simp
  | k + 1, n => by
    by_cases h : n = 0
    · subst h; simp [dig_zero]
    · rw [dig_pos hB h, List.drop_succ_cons, dig_drop hB k, Nat.div_div_eq_div_mul, Nat.pow_succ, Nat.mul_comm B]
theorem dig_length_gt {B : Nat} (hB : 2 ≤ B) (k n : Nat) : k < (dig B n).length ↔ n / B ^ k ≠ 0 := by
  rw [Ne, ← dig_nil_iff hB, ← dig_drop hB, List.drop_eq_nil_iff]
  omega
theorem dig_getD {B : Nat} (hB : 2 ≤ B) (k n : Nat) : (dig B n).getD k 0 = n / B ^ k % B := by
  by_cases h : n / B ^ k = 0
  · have := (not_congr (dig_length_gt hB k n)).2 (fun hne => hne h)
    rw [h, List.getD_eq_getElem?_getD, List.getElem?_eq_none (by omega)]
    simp
  · have hl := (dig_length_gt hB k n).2 h
    have e := dig_drop hB k n
    rw [dig_pos hB h, List.drop_eq_getElem_cons hl] at e
    rw [List.getD_eq_getElem?_getD, List.getElem?_eq_getElem hl]
    exact (List.cons.inj e).1
theorem decP_zero (n : Nat) : decP n 0 = [] := by simp [decP]
theorem decP_step (n m : Nat) (h : n / 10 ^ m ≠ 0) : decP n (m + 1) = chD (n / 10 ^ m % 10) :: decP n m := by
  have hl := (dig_length_gt ten_two m n).2 h
  have e := dig_getD ten_two m n
  rw [List.getD_eq_getElem?_getD, List.getElem?_eq_getElem hl] at e
  unfold decP
  rw [List.take_succ_eq_append_getElem hl, List.reverse_append]
  simp at e ⊢
  rw [e]
theorem decP_all (n m : Nat) (h : n / 10 ^ m = 0) : decP n m = decL n := by
  have := (not_congr (dig_length_gt ten_two m n)).2 (fun hne => hne h)
  unfold decP decL
  rw [List.take_of_length_le (by omega)]
theorem decP_length (n m : Nat) (h : m = 0 ∨ n / 10 ^ (m - 1) ≠ 0) : (decP n m).length = m := by
  rcases h with rfl | h
  · simp [decP]
  · rcases Nat.eq_zero_or_pos m with rfl | hp
    · simp [decP]
    · have := (dig_length_gt ten_two (m - 1) n).2 h
      simp [decP]
      omega
theorem decL_zero : decL 0 = [] := rfl
theorem decL_length (n : Nat) : (decL n).length = (dig 10 n).length := by simp [decL]
theorem decL_nil (n : Nat) : decL n = [] ↔ n = 0 := by
  rw [← dig_nil_iff ten_two n]
  unfold decL
  simp
theorem lv_inj {B : Nat} : ∀ {a b : List Nat}, Dgs B a → Dgs B b → a.length = b.length → lv B a = lv B b → a = b
  | [], [], _, _, _, _ => rfl
  | x :: a, y :: b, ha, hb, hl, hv => by
    rw [lv_cons, lv_cons] at hv
    have hx := ha.head
    have hy := hb.head
    have e1 : x = y := by
      have h1 : (x + B * lv B a) % B = x := by rw [Nat.add_mul_mod_self_left, Nat.mod_eq_of_lt hx]
      have h2 : (y + B * lv B b) % B = y := by rw [Nat.add_mul_mod_self_left, Nat.mod_eq_of_lt hy]
      rw [← h1, ← h2, hv]
    subst e1
    have e2 : lv B a = lv B b := Nat.eq_of_mul_eq_mul_left (show 0 < B by omega) (Nat.add_left_cancel hv)
    rw [lv_inj ha.tail hb.tail (by simpa using hl) e2]
theorem dig_take {B : Nat} (hB : 2 ≤ B) (k n : Nat) (h : n / B ^ k ≠ 0) : (dig B n).take k = dig B (n % B ^ k) ++ List.replicate (k - (dig B (n % B ^ k)).length) 0 := by
  have hl := (dig_length_gt hB k n).2 h
  have hp : 0 < B ^ k := Nat.pow_pos (by omega)
  have hm := dig_length_le hB k (n % B ^ k) (Nat.mod_lt _ hp)
  have htk : ((dig B n).take k).length = k := by simp; omega
  refine lv_inj ((dgs_dig hB n).take k) ((dgs_dig hB _).append (Dgs.replicate (by omega) _)) (by simp; omega) ?_
  have hv := lv_take_drop B (dig B n) k (by omega)
  have ht := lv_lt ((dgs_dig hB n).take k)
  rw [lv_dig hB, dig_drop hB, lv_dig hB] at hv
  rw [htk] at ht
  have e : n % B ^ k = lv B ((dig B n).take k) := by
    have h1 : n % B ^ k = (lv B ((dig B n).take k) + B ^ k * (n / B ^ k)) % B ^ k := by rw [← hv]
    rw [h1, Nat.add_mul_mod_self_left, Nat.mod_eq_of_lt ht]
  rw [lv_append, lv_replicate, lv_dig hB, Nat.mul_zero, Nat.add_zero, e]
/-- The digits of a number below 10^k, with zeros ahead. -/
def decZ (k n : Nat) : List UInt8 := List.replicate (k - (decL n).length) 48 ++ decL n
theorem decL_split (k n : Nat) (h : n / 10 ^ k ≠ 0) : decL n = decL (n / 10 ^ k) ++ decZ k (n % 10 ^ k) := by
  have e : dig 10 n = (dig 10 n).take k ++ dig 10 (n / 10 ^ k) := by
    rw [← dig_drop ten_two, List.take_append_drop]
  unfold decL decZ
  rw [e, dig_take ten_two k n h, decL_length]
  simp [decL, chD, List.map_reverse]
/-- The parts of 19 digits, the least one first. -/
def decParts : Nat → Nat → List (List UInt8)
  | 0, _ => []
  | f + 1, n => if n = 0 then [] else (if n / 10 ^ 19 = 0 then decL n else decZ 19 (n % 10 ^ 19)) :: decParts f (n / 10 ^ 19)
theorem decParts_flat : ∀ (f n : Nat), n < 10 ^ (19 * f) → (decParts f n).reverse.flatten = decL n
  | 0, n, h => by
    have : n = 0 := by simpa using h
    subst this
    rfl
  | f + 1, n, h => by
    unfold decParts
    by_cases h0 : n = 0
    · subst h0; rfl
    · rw [if_neg h0]
      have hlt : n / 10 ^ 19 < 10 ^ (19 * f) := by
        rw [Nat.div_lt_iff_lt_mul (Nat.pow_pos (by omega)), ← Nat.pow_add]
        rw [show 19 * f + 19 = 19 * (f + 1) by omega]
        exact h
      have ih := decParts_flat f _ hlt
      rw [List.reverse_cons, List.flatten_append, ih]
      by_cases h1 : n / 10 ^ 19 = 0
      · rw [if_pos h1, h1]; simp [decL_zero]
      · rw [if_neg h1, decL_split 19 n h1]; simp
theorem chD_toNat (d : Nat) (h : d < 10) : (chD d).toNat = 48 + d := by
  unfold chD
  rw [UInt8.toNat_ofNat', Nat.mod_eq_of_lt (by omega)]

/-- The text of a fraction. -/
def txtQ (q : Rat) : List UInt8 := (if q.num < 0 then [45] else []) ++ (decT q.num.natAbs ++ (if q.den = 1 then [] else 47 :: decT q.den))

end Go.Proofs.Ytmfochplnchgcaa

/- CureGood, PLAINLY: what is kept over the events of a run. -/
namespace Go.Proofs.Ytmfochplnchgcaa

/-- Minutes of the phases ahead of phase p. -/
def Ru.ahead (r : Ru) (p : Int) : Int := if p = 1 then 0 else if p = 2 then r.m0 else r.m0 + r.m1
/-- All that lasts is to be ignored in the phase of a run that goes. -/
def freeOf (r : Ru) (x : Rn) : Bool := (!x.l0 || decide (r.tb x.ph 0 = 0)) && ((!x.l1 || decide (r.tb x.ph 1 = 0)) && (!x.l2 || decide (r.tb x.ph 2 = 0)))
/-- Disturbances of P that last are ignored, or waited for. -/
def FreeP (r : Ru) (x : Rn) (P : Nat → Prop) : Prop := x.te = false → goes (inPh x) = true → ∀ d, d < 3 → P d → x.lost d = true → r.tb (inPh x) d = 0 ∨ (x.ph = 4 ∧ r.tb (inPh x) d = 2)

theorem lost_same {x y : Rn} (h0 : y.l0 = x.l0) (h1 : y.l1 = x.l1) (h2 : y.l2 = x.l2) (d : Nat) : y.lost d = x.lost d := by unfold Rn.lost; rw [h0, h1, h2]
theorem meet_lost (r : Ru) (x : Rn) (d : Nat) : (meet r x d).l0 = x.l0 ∧ (meet r x d).l1 = x.l1 ∧ (meet r x d).l2 = x.l2 := by
  unfold meet
  split
  · split
    · exact ⟨rfl, rfl, rfl⟩
    · split
      · exact ⟨rfl, rfl, rfl⟩
      · split
        · split <;> exact ⟨rfl, rfl, rfl⟩
        · exact ⟨rfl, rfl, rfl⟩
  · exact ⟨rfl, rfl, rfl⟩
theorem meet_te {r : Ru} {x : Rn} {d : Nat} (h : (meet r x d).te = false) : x.te = false := by
  unfold meet at h
  split at h
  · split at h
    · exact h
    · split at h
      · cases h
      · split at h
        · split at h <;> exact h
        · exact h
  · exact h
theorem meet_form (r : Ru) (x : Rn) (d : Nat) : meet r x d = ended x 7 ∨ (inPh (meet r x d) = inPh x ∧ (meet r x d).mi = x.mi ∧ ((meet r x d).ph = x.ph ∨ ((meet r x d).ph = 4 ∧ goes x.ph = true)) ∧ (meet r x d).wa = x.wa) := by
  unfold meet
  split
  · split
    · exact .inl rfl
    · split
      · exact .inr ⟨rfl, rfl, .inl rfl, rfl⟩
      · split
        · split
          · rename_i hg
            refine .inr ⟨?_, rfl, .inr ⟨rfl, hg⟩, rfl⟩
            have : x.ph ≠ 4 := by
              have := (goes_iff _).1 hg
              omega
            show (if (4 : Int) = 4 then x.ph else 4) = _
            rw [if_pos rfl, inPh, if_neg this]
          · exact .inr ⟨rfl, rfl, .inl rfl, rfl⟩
        · exact .inr ⟨rfl, rfl, .inl rfl, rfl⟩
  · exact .inr ⟨rfl, rfl, .inl rfl, rfl⟩
theorem meet_free {r : Ru} {x : Rn} {P : Nat → Prop} {d : Nat} (G : GoodRules r) (h : FreeP r x P) : FreeP r (meet r x d) (fun k => P k ∨ k = d) := by
  unfold meet
  by_cases hg : goes (inPh x) = true
  · rw [if_pos hg]
    split
    · exact fun _ hg' => absurd hg' (by show ¬ goes (if (7 : Int) = 4 then 0 else 7) = true; decide)
    · split
      · exact fun ht => by cases ht
      · split
        · rename_i h3 h1 h2
          split
          · rename_i hp
            have h4 : x.ph ≠ 4 := by
              have := (goes_iff _).1 hp
              omega
            have e0 : inPh x = x.ph := if_neg h4
            have e1 : inPh { x with be := x.ph, ph := 4 } = x.ph := if_pos rfl
            intro ht _ k hk hP hl
            rw [e1]
            rcases hP with hP | rfl
            · rcases h ht hg k hk hP (by rw [← hl]; exact (lost_same rfl rfl rfl k)) with h | ⟨h, _⟩
              · rw [e0] at h
                exact .inl h
              · exact absurd h h4
            · rw [e0] at h2
              exact .inr ⟨rfl, h2⟩
          · rename_i hp
            intro ht hg' k hk hP hl
            rcases hP with hP | rfl
            · exact h ht hg' k hk hP hl
            · refine .inr ⟨?_, h2⟩
              by_cases h4 : x.ph = 4
              · exact h4
              · rw [inPh, if_neg h4] at hg
                exact absurd hg hp
        · intro ht hg' k hk hP hl
          rcases hP with hP | rfl
          · exact h ht hg' k hk hP hl
          · have := G.tb (inPh x) k
            left
            omega
  · rw [if_neg hg]
    exact fun _ hg' => absurd hg' hg
theorem FreeP.sub {r : Ru} {x : Rn} {P Q : Nat → Prop} (h : FreeP r x P) (hs : ∀ d, d < 3 → Q d → x.lost d = true → P d) : FreeP r x Q := fun ht hg d hd hQ hl => h ht hg d hd (hs d hd hQ hl) hl
theorem meetIf_free {r : Ru} {x : Rn} {P : Nat → Prop} {d : Nat} (G : GoodRules r) (h : FreeP r x P) : FreeP r (meetIf r x d) (fun k => P k ∨ k = d) := by
  unfold meetIf
  split
  · exact meet_free G h
  · rename_i hl
    refine h.sub fun k hk hQ hk' => ?_
    rcases hQ with hQ | rfl
    · exact hQ
    · exact absurd hk' hl
theorem begin_free {r : Ru} {x : Rn} {p : Int} (G : GoodRules r) : FreeP r (begin r x p) (fun _ => True) := by
  unfold begin
  refine (meetIf_free (d := 2) G (meetIf_free (d := 1) G (meetIf_free (d := 0) G (P := fun _ => False) fun _ _ _ _ h _ => h.elim))).sub fun d hd _ _ => ?_
  omega
theorem meetIf_te {r : Ru} {x : Rn} {d : Nat} (h : (meetIf r x d).te = false) : x.te = false := by
  unfold meetIf at h
  split at h
  · exact meet_te h
  · exact h
theorem begin_te {r : Ru} {x : Rn} {p : Int} (h : (begin r x p).te = false) : x.te = false := by
  unfold begin at h
  exact meetIf_te (x := { x with ph := p, mi := 0 }) (meetIf_te (meetIf_te h))
/-- A run is over, or is in phase p at minute 0 (or waits). -/
def AtBegin (y : Rn) (p : Int) : Prop := (y.ph = 7) ∨ (inPh y = p ∧ y.mi = 0 ∧ (y.ph = p ∨ y.ph = 4))
theorem meetIf_at {r : Ru} {x : Rn} {p : Int} {d : Nat} (h : AtBegin x p) : AtBegin (meetIf r x d) p := by
  unfold meetIf
  split
  · rcases meet_form r x d with he | ⟨e1, e2, e3, _⟩
    · rw [he]
      exact .inl rfl
    · rcases h with h | ⟨h1, h2, h3⟩
      · rcases e3 with e3 | ⟨_, e3⟩
        · exact .inl (by rw [e3, h])
        · rw [h] at e3
          exact absurd e3 (by decide)
      · refine .inr ⟨by rw [e1, h1], by rw [e2, h2], ?_⟩
        rcases e3 with e3 | ⟨e3, _⟩
        · rw [e3]
          exact h3
        · exact .inr e3
  · exact h
theorem begin_at (r : Ru) (x : Rn) {p : Int} (hp : 1 ≤ p ∧ p ≤ 3) : AtBegin (begin r x p) p :=
  meetIf_at (meetIf_at (meetIf_at (.inr ⟨if_neg (show ¬ p = 4 by omega), rfl, .inl rfl⟩)))

/-- What is kept over the events. -/
structure GoodInv (r : Ru) (x : Rn) (gone wt : Int) (ig : Bool) (done : List Int) : Prop where
  hright : Right r x
  wt0 : 0 ≤ wt
  wtl : wt ≤ done.length
  hwt : x.ph = 4 → wt ≤ x.wa
  g0 : 0 ≤ gone
  gl : gone ≤ done.length
  hgone : 1 ≤ inPh x ∧ inPh x ≤ 3 → gone = r.ahead (inPh x) + x.mi
  hig : x.te = false → 1 ≤ inPh x ∧ inPh x ≤ 3 → ig = true
  idle : x.ph = 0 → gone = 0 ∧ ig = true
  hfree : FreeP r x (fun _ => True)
  hdone : play r done = (x, done.length)
  evs : ∀ e ∈ done, 0 ≤ e ∧ e ≤ 7

theorem goodInv_start (r : Ru) : GoodInv r rn0 0 0 true [] :=
  ⟨rn0_right r, Int.le_refl _, Int.le_refl _, fun _ => Int.le_refl _, Int.le_refl _, Int.le_refl _, fun h => absurd h (by decide), fun _ _ => rfl, fun _ => ⟨rfl, rfl⟩, fun _ h => absurd h (by decide), rfl, fun _ h => absurd h (by simp)⟩
/-- What the law's round makes of its numbers. -/
def gone1 (x : Rn) (gone e : Int) : Int := if e = 0 ∧ goes x.ph = true then gone + 1 else gone
def ig1 (r : Ru) (x : Rn) (ig : Bool) (e : Int) : Bool := if e = 0 ∧ goes x.ph = true then ig && freeOf r x else ig
def wt1 (x : Rn) (wt e : Int) : Int := if e = 0 ∧ x.ph = 4 then wt + 1 else 0

theorem free_of {r : Ru} {x : Rn} (hF : FreeP r x (fun _ => True)) (ht : x.te = false) (hg : goes x.ph = true) : freeOf r x = true := by
  have h4 : x.ph ≠ 4 := by have := (goes_iff _).1 hg; omega
  have e0 : inPh x = x.ph := if_neg h4
  have key : ∀ d, d < 3 → x.lost d = true → r.tb x.ph d = 0 := fun d hd hl => by
    rcases hF ht (by rw [e0]; exact hg) d hd trivial hl with h | ⟨h, _⟩
    · rw [e0] at h
      exact h
    · exact absurd h h4
  have k0 := key 0 (by omega)
  have k1 := key 1 (by omega)
  have k2 := key 2 (by omega)
  simp only [Rn.lost, if_true, if_false, Nat.one_ne_zero] at k0 k1 k2
  unfold freeOf
  cases h0 : x.l0 <;> cases h1 : x.l1 <;> cases h2 : x.l2 <;> simp_all
theorem done_step {r : Ru} {x y : Rn} {e : Int} {done : List Int} (h : play r done = (x, done.length)) (hy : next r x e = some y) : play r (done ++ [e]) = (y, (done ++ [e]).length) := by
  unfold play at *
  rw [List.foldl_append, h]
  show playStep r (x, done.length) e = _
  unfold playStep
  rw [show (x, done.length).1 = x from rfl, hy]
  simp

set_option maxHeartbeats 1000000 in
theorem goodInv_step {r : Ru} {x y : Rn} {gone wt : Int} {ig : Bool} {done : List Int} {e : Int} (G : GoodRules r) (h : GoodInv r x gone wt ig done) (he : 0 ≤ e ∧ e ≤ 7) (hy : next r x e = some y) :
    GoodInv r y (gone1 x gone e) (wt1 x wt e) (ig1 r x ig e) (done ++ [e]) ∧ wt1 x wt e ≤ r.pa + 1 ∧ (y.ph = 5 → x.ph ≠ 5 → gone1 x gone e = r.m0 + r.m1 + r.m2 ∧ ig1 r x ig e = true) := by
  have hR := next_right G h.hright he.2 hy
  have hD := done_step h.hdone hy
  have hE : ∀ e' ∈ done ++ [e], 0 ≤ e' ∧ e' ≤ 7 := fun e' h' => by
    rcases List.mem_append.1 h' with h' | h'
    · exact h.evs e' h'
    · rw [List.mem_singleton.1 h']
      exact he
  have hL : ((done ++ [e]).length : Int) = done.length + 1 := by simp
  have hw0 := h.wt0
  have hwl := h.wtl
  have hg0 := h.g0
  have hgl := h.gl
  have hpa := G.pa
  unfold next at hy
  split at hy
  · rename_i e0
    subst e0
    cases hy
    unfold tick at *
    by_cases h4 : x.ph = 4
    · have hng : goes x.ph = false := by rw [h4]; rfl
      have a1 : gone1 x gone 0 = gone := by unfold gone1; rw [if_neg (by simp [hng])]
      have a2 : ig1 r x ig 0 = ig := by unfold ig1; rw [if_neg (by simp [hng])]
      have a3 : wt1 x wt 0 = wt + 1 := by unfold wt1; rw [if_pos ⟨rfl, h4⟩]
      have hw := h.hwt h4
      have hwa : x.wa ≤ r.pa := by rcases h.hright with ⟨a, b, c, d, e⟩ | ⟨a, b, c, d⟩ | ⟨a, b, c, d⟩ <;> omega
      rw [if_pos h4] at hR hD ⊢
      rw [a1, a2, a3]
      by_cases hs : r.pa < x.wa + 1
      · rw [if_pos hs] at hR hD ⊢
        refine ⟨⟨hR, by omega, by omega, fun h7 => absurd h7 (by show ¬ (7 : Int) = 4; decide), hg0, by omega, fun h7 => absurd h7 (by show ¬ (1 ≤ (if (7 : Int) = 4 then (0 : Int) else 7) ∧ (if (7 : Int) = 4 then (0 : Int) else 7) ≤ 3); decide), fun _ h7 => absurd h7 (by show ¬ (1 ≤ (if (7 : Int) = 4 then (0 : Int) else 7) ∧ (if (7 : Int) = 4 then (0 : Int) else 7) ≤ 3); decide), fun h7 => absurd h7 (by show ¬ (7 : Int) = 0; decide), fun _ h7 => absurd h7 (by show ¬ goes (if (7 : Int) = 4 then 0 else 7) = true; decide), hD, hE⟩, by omega, fun h5 => absurd h5 (by show ¬ (7 : Int) = 5; decide)⟩
      · rw [if_neg hs] at hR hD ⊢
        refine ⟨⟨hR, by omega, by omega, fun _ => by show wt + 1 ≤ x.wa + 1; omega, hg0, by omega, h.hgone, h.hig, h.idle, h.hfree, hD, hE⟩, by omega, fun h5 => absurd h5 (by show ¬ x.ph = 5; omega)⟩
    · have a3 : wt1 x wt 0 = 0 := by unfold wt1; rw [if_neg (by simp [h4])]
      rw [if_neg h4] at hR hD ⊢
      rw [a3]
      have e0 : inPh x = x.ph := if_neg h4
      by_cases hg : goes x.ph = true
      · have hp := (goes_iff _).1 hg
        have a1 : gone1 x gone 0 = gone + 1 := by unfold gone1; rw [if_pos ⟨rfl, hg⟩]
        have a2 : ig1 r x ig 0 = (ig && freeOf r x) := by unfold ig1; rw [if_pos ⟨rfl, hg⟩]
        have hgo := h.hgone (by rw [e0]; exact hp)
        have hig : x.te = false → (ig && freeOf r x) = true := fun ht => by
          rw [h.hig ht (by rw [e0]; exact hp), free_of h.hfree ht hg]
          rfl
        have hmi : 0 ≤ x.mi ∧ x.mi < r.mn x.ph := by rcases h.hright with ⟨a, b, c, d, e⟩ | ⟨a, b, c, d⟩ | ⟨a, b, c, d⟩ <;> omega
        rw [e0] at hgo
        rw [if_pos hg] at hR hD ⊢
        rw [a1, a2]
        by_cases hm : x.mi + 1 < r.mn x.ph
        · rw [if_pos hm] at hR hD ⊢
          refine ⟨⟨hR, by omega, by omega, fun h7 => absurd h7 h4, by omega, by omega, fun _ => ?_, fun ht _ => hig ht, fun h7 => absurd h7 (by show ¬ x.ph = 0; omega), h.hfree, hD, hE⟩, by omega, fun h5 => absurd h5 (by show ¬ x.ph = 5; omega)⟩
          show gone + 1 = r.ahead (inPh x) + (x.mi + 1)
          rw [e0]
          omega
        · rw [if_neg hm] at hR hD ⊢
          by_cases h3 : x.ph < 3
          · rw [if_pos h3] at hR hD ⊢
            have hat := begin_at r { x with mi := x.mi + 1 } (p := x.ph + 1) (by omega)
            have hfr := begin_free (x := { x with mi := x.mi + 1 }) (p := x.ph + 1) G
            have hte : (begin r { x with mi := x.mi + 1 } (x.ph + 1)).te = false → x.te = false := fun ht => begin_te (x := { x with mi := x.mi + 1 }) ht
            have hah : r.ahead (x.ph + 1) = r.ahead x.ph + r.mn x.ph := by
              unfold Ru.ahead Ru.mn
              rcases (show x.ph = 1 ∨ x.ph = 2 by omega) with h | h <;> simp [h]
            generalize begin r { x with mi := x.mi + 1 } (x.ph + 1) = y at *
            have hyw : y.ph = 4 → 0 ≤ y.wa := fun h4 => by rcases hR with ⟨a, b, c, d, e⟩ | ⟨a, b, c, d⟩ | ⟨a, b, c, d⟩ <;> omega
            refine ⟨⟨hR, by omega, by omega, hyw, by omega, by omega, fun hi => ?_, fun ht _ => hig (hte ht), fun h7 => ?_, hfr, hD, hE⟩, by omega, fun h5 => ?_⟩
            · rcases hat with hat | ⟨t1, t2, t3⟩
              · rw [inPh, if_neg (by omega)] at hi
                omega
              · rw [t1, t2]
                omega
            · rcases hat with hat | ⟨t1, t2, t3⟩ <;> omega
            · rcases hat with hat | ⟨t1, t2, t3⟩ <;> omega
          · rw [if_neg h3] at hR hD ⊢
            by_cases ht : x.te = true
            · rw [if_pos ht] at hR hD ⊢
              refine ⟨⟨hR, by omega, by omega, fun h7 => absurd h7 (by show ¬ (6 : Int) = 4; decide), by omega, by omega, fun h7 => absurd h7 (by show ¬ (1 ≤ (if (6 : Int) = 4 then (0 : Int) else 6) ∧ (if (6 : Int) = 4 then (0 : Int) else 6) ≤ 3); decide), fun _ h7 => absurd h7 (by show ¬ (1 ≤ (if (6 : Int) = 4 then (0 : Int) else 6) ∧ (if (6 : Int) = 4 then (0 : Int) else 6) ≤ 3); decide), fun h7 => absurd h7 (by show ¬ (6 : Int) = 0; decide), fun _ h7 => absurd h7 (by show ¬ goes (if (6 : Int) = 4 then 0 else 6) = true; decide), hD, hE⟩, by omega, fun h5 => absurd h5 (by show ¬ (6 : Int) = 5; decide)⟩
            · rw [if_neg ht] at hR hD ⊢
              refine ⟨⟨hR, by omega, by omega, fun h7 => absurd h7 (by show ¬ (5 : Int) = 4; decide), by omega, by omega, fun h7 => absurd h7 (by show ¬ (1 ≤ (if (5 : Int) = 4 then (0 : Int) else 5) ∧ (if (5 : Int) = 4 then (0 : Int) else 5) ≤ 3); decide), fun _ h7 => absurd h7 (by show ¬ (1 ≤ (if (5 : Int) = 4 then (0 : Int) else 5) ∧ (if (5 : Int) = 4 then (0 : Int) else 5) ≤ 3); decide), fun h7 => absurd h7 (by show ¬ (5 : Int) = 0; decide), fun _ h7 => absurd h7 (by show ¬ goes (if (5 : Int) = 4 then 0 else 5) = true; decide), hD, hE⟩, by omega, fun _ _ => ⟨?_, hig (by simpa using ht)⟩⟩
              have h33 : x.ph = 3 := by omega
              rw [h33] at hgo hm hmi
              have e1 : r.ahead 3 = r.m0 + r.m1 := rfl
              have e2 : r.mn 3 = r.m2 := rfl
              omega
      · have a1 : gone1 x gone 0 = gone := by unfold gone1; rw [if_neg (by simp [hg])]
        have a2 : ig1 r x ig 0 = ig := by unfold ig1; rw [if_neg (by simp [hg])]
        rw [if_neg hg] at hR hD ⊢
        rw [a1, a2]
        exact ⟨⟨hR, by omega, by omega, fun h7 => absurd h7 h4, hg0, by omega, h.hgone, h.hig, h.idle, h.hfree, hD, hE⟩, by omega, fun h5 h5' => absurd h5 h5'⟩
  · rename_i e0
    have a1 : gone1 x gone e = gone := by unfold gone1; rw [if_neg (by simp [e0])]
    have a2 : ig1 r x ig e = ig := by unfold ig1; rw [if_neg (by simp [e0])]
    have a3 : wt1 x wt e = 0 := by unfold wt1; rw [if_neg (by simp [e0])]
    rw [a1, a2, a3]
    have hyw : y.ph = 4 → 0 ≤ y.wa := fun h4 => by rcases hR with ⟨a, b, c, d, e⟩ | ⟨a, b, c, d⟩ | ⟨a, b, c, d⟩ <;> omega
    split at hy
    · rename_i e1
      split at hy
      · rename_i h0
        obtain ⟨i1, i2⟩ := h.idle h0
        have hat := begin_at r { x with te := false } (p := 1) (by omega)
        have hfr := begin_free (x := { x with te := false }) (p := 1) G
        have hye : begin r { x with te := false } 1 = y := Option.some.inj hy
        rw [hye] at hat hfr
        refine ⟨⟨hR, by omega, by omega, hyw, hg0, by omega, fun hi => ?_, fun _ _ => i2, fun _ => ⟨i1, i2⟩, hfr, hD, hE⟩, by omega, fun h5 => ?_⟩
        · rcases hat with hat | ⟨t1, t2, t3⟩
          · rw [inPh, if_neg (by omega)] at hi
            omega
          · rw [t1, t2, i1]
            rfl
        · rcases hat with hat | ⟨t1, t2, t3⟩ <;> omega
      · cases hy
    · split at hy
      · cases hy
      · rename_i e1 hn
        have hph : 0 ≤ x.ph ∧ x.ph ≤ 4 := by
          have : ¬ inR x.ph 0 4 = false := fun h => hn (.inl h)
          unfold inR at this
          simp only [Bool.and_eq_false_iff, decide_eq_false_iff_not] at this
          omega
        split at hy
        · obtain ⟨s1, s2, s3, s4, s5⟩ := lose_same x (dOf e) true
          have hye : meet r (x.lose (dOf e) true) (dOf e) = y := Option.some.inj hy
          have si : inPh (x.lose (dOf e) true) = inPh x := by unfold inPh; rw [s1, s2]
          have hfr := meet_free (d := dOf e) G (x := x.lose (dOf e) true) (P := fun d => d ≠ dOf e) fun ht hg d hd hP hl => by
            rw [si, s1]
            rw [si] at hg
            rw [s5] at ht
            refine h.hfree ht hg d hd trivial ?_
            rw [← hl]
            unfold Rn.lose Rn.lost
            have := dOf_lt he.2
            generalize dOf e = k at *
            match d, k, hd, this with
            | 0, 0, _, _ => exact absurd rfl hP
            | 1, 1, _, _ => exact absurd rfl hP
            | 2, 2, _, _ => exact absurd rfl hP
            | 0, 1, _, _ => rfl
            | 0, 2, _, _ => rfl
            | 1, 0, _, _ => rfl
            | 1, 2, _, _ => rfl
            | 2, 0, _, _ => rfl
            | 2, 1, _, _ => rfl
          have hfm := meet_form r (x.lose (dOf e) true) (dOf e)
          have hte : y.te = false → x.te = false := fun ht => by
            rw [← hye] at ht
            rw [← s5]
            exact meet_te ht
          rw [hye] at hfr hfm
          rw [si, s1, s3] at hfm
          have hfr' : FreeP r y (fun _ => True) := hfr.sub fun d _ _ _ => by
            rcases Nat.decEq d (dOf e) with h | h
            · exact .inl h
            · exact .inr h
          rcases hfm with hfm | ⟨t1, t2, t3, t4⟩
          · have h7 : y.ph = 7 := by rw [hfm]; rfl
            refine ⟨⟨hR, by omega, by omega, hyw, hg0, by omega, fun hi => ?_, fun _ hi => ?_, fun _ => by omega, hfr', hD, hE⟩, by omega, fun h5 => by omega⟩ <;> (rw [inPh, if_neg (by omega)] at hi; omega)
          · refine ⟨⟨hR, by omega, by omega, hyw, hg0, by omega, fun hi => ?_, fun ht hi => ?_, fun hy0 => ?_, hfr', hD, hE⟩, by omega, fun h5 => by omega⟩
            · rw [t1] at hi ⊢
              rw [t2]
              exact h.hgone hi
            · rw [t1] at hi
              exact h.hig (hte ht) hi
            · exact h.idle (by omega)
        · obtain ⟨s1, s2, s3, s4, s5⟩ := lose_same x (dOf e) false
          have hye : unheld r (x.lose (dOf e) false) = y := Option.some.inj hy
          have si : inPh (x.lose (dOf e) false) = inPh x := by unfold inPh; rw [s1, s2]
          have hfr : FreeP r (x.lose (dOf e) false) (fun _ => True) := fun ht hg d hd hP hl => by
            rw [si, s1]
            rw [si] at hg
            rw [s5] at ht
            refine h.hfree ht hg d hd trivial ?_
            unfold Rn.lose Rn.lost at *
            have := dOf_lt he.2
            generalize dOf e = k at *
            match d, k, hd, this with
            | 0, 0, _, _ => cases hl
            | 1, 1, _, _ => cases hl
            | 2, 2, _, _ => cases hl
            | 0, 1, _, _ => exact hl
            | 0, 2, _, _ => exact hl
            | 1, 0, _, _ => exact hl
            | 1, 2, _, _ => exact hl
            | 2, 0, _, _ => exact hl
            | 2, 1, _, _ => exact hl
          unfold unheld at hye
          split at hye
          · rename_i hh
            obtain ⟨h4, hnh⟩ := hh
            rw [s1] at h4
            have eb : inPh x = x.be := if_pos h4
            have hbe : 1 ≤ x.be ∧ x.be ≤ 3 := by rcases h.hright with ⟨a, b, c, d, e⟩ | ⟨a, b, c, d⟩ | ⟨a, b, c, d⟩ <;> omega
            have yp : y.ph = x.be := by rw [← hye]; exact s2
            have ym : y.mi = x.mi := by rw [← hye]; exact s3
            have yt : y.te = x.te := by rw [← hye]; exact s5
            have yi : inPh y = x.be := by rw [inPh, if_neg (by omega), yp]
            have yl : ∀ d, y.lost d = (x.lose (dOf e) false).lost d := fun d => by rw [← hye]; exact lost_same rfl rfl rfl d
            have yb : y.be = 0 := by rw [← hye]
            refine ⟨⟨hR, by omega, by omega, hyw, hg0, by omega, fun hi => ?_, fun ht hi => ?_, fun _ => by omega, ?_, hD, hE⟩, by omega, fun h5 => by omega⟩
            · rw [yi, ym, ← eb]
              exact h.hgone (by rw [eb]; exact hbe)
            · exact h.hig (by rw [← yt]; exact ht) (by rw [eb]; exact hbe)
            · intro ht hg d hd _ hl
              rw [yi]
              left
              rw [yl] at hl
              have := hfr (by rw [s5, ← yt]; exact ht) (by rw [si, eb]; exact goes_yes hbe) d hd trivial hl
              rw [si, eb] at this
              rcases this with h | ⟨_, h2⟩
              · exact h
              · rw [s2] at hnh
                rw [held_of hd hl h2] at hnh
                cases hnh
          · subst hye
            refine ⟨⟨hR, by omega, by omega, hyw, hg0, by omega, fun hi => ?_, fun ht hi => ?_, fun hy0 => ?_, hfr, hD, hE⟩, by omega, fun h5 => by omega⟩
            · rw [si] at hi ⊢
              rw [s3]
              exact h.hgone hi
            · rw [si] at hi
              exact h.hig (by rw [← s5]; exact ht) hi
            · exact h.idle (by omega)
end Go.Proofs.Ytmfochplnchgcaa

/- THE WORDS ON MEMORY: a slice value that reads as a list of digits; a number in memory; what a call returns. -/
namespace Go.Proofs.Ytmfochplnchgcaa
open Go.RowKit

/-- The slice value v reads as the digits ds in w. -/
def IsRow (k : IntKind) (w : World) (v : Value) (ds : List Nat) : Prop :=
  (ds = [] ∧ ∃ ao cap, v = .slice ao 0 cap ∧ cap ≤ maxLen ∧ (ao = none → cap = 0)) ∨
  (0 < ds.length ∧ ∃ b off cap, v = .slice (some ⟨b, off, none⟩) ds.length cap ∧ ds.length ≤ cap ∧ cap ≤ maxLen ∧ b < w.heap.size ∧
    ∀ j, j < ds.length → w.cell? ⟨b, off + j, none⟩ = some (.int k (ds.getD j 0 : Nat)))

/-- The slice value v reads as the natural number n: its digits to the base B, without zeros at the end. -/
def IsNat (k : IntKind) (B : Nat) (w : World) (v : Value) (n : Nat) : Prop := IsRow k w v (dig B n)

theorem IsRow.below {k : IntKind} {w w' : World} {v : Value} {ds : List Nat} (h : IsRow k w v ds) (hb : Below w.heap.size w w') : IsRow k w' v ds := by
  rcases h with h | ⟨h0, b, off, cap, rfl, h1, h2, h3, h4⟩
  · exact .inl h
  · exact .inr ⟨h0, b, off, cap, rfl, h1, h2, Nat.lt_of_lt_of_le h3 hb.size, fun j hj => (hb.cell (p := ⟨b, off + j, none⟩) h3).trans (h4 j hj)⟩

theorem IsNat.below {k : IntKind} {B : Nat} {w w' : World} {v : Value} {n : Nat} (h : IsNat k B w v n) (hb : Below w.heap.size w w') : IsNat k B w' v n :=
  IsRow.below h hb

theorem IsRow.nil (k : IntKind) (w : World) : IsRow k w (.slice none 0 0) [] := .inl ⟨rfl, _, _, rfl, by unfold maxLen; omega, fun _ => rfl⟩
theorem IsNat.zero (k : IntKind) (B : Nat) (w : World) : IsNat k B w (.slice none 0 0) 0 := IsRow.nil k w

theorem IsRow.len {k : IntKind} {w : World} {v : Value} {ds : List Nat} (h : IsRow k w v ds) : ds.length ≤ maxLen := by
  rcases h with ⟨rfl, _⟩ | ⟨_, _, _, _, _, h1, h2, _⟩
  · simp
  · omega

/-- What a call returns: a number in memory; nothing that was there has turned. -/
def RetNat (k : IntKind) (B n : Nat) (w : World) (e : Ending) (w' : World) : Prop :=
  ∃ v, e = .returned v ∧ IsNat k B w' v n ∧ Below w.heap.size w w'

/-- The same, the world being the very same. -/
def RetNatSame (k : IntKind) (B n : Nat) (w : World) (e : Ending) (w' : World) : Prop :=
  ∃ v, e = .returned v ∧ IsNat k B w v n ∧ w = w'


/-- Block g is a row of its own: its first cells are just the digits ds. -/
def Own (w : World) (g : Nat) (k : IntKind) (e : TypeId) (ds : List Nat) : Prop :=
  ∃ tl : List Value, w.heap[g]? = some (.cells (ds.map (fun d : Nat => Value.int k (d : Int)) ++ tl).toArray e (0, 0))

theorem Own.lt {w : World} {g : Nat} {k : IntKind} {e : TypeId} {ds : List Nat} (h : Own w g k e ds) : g < w.heap.size := by
  obtain ⟨tl, h⟩ := h; exact (Array.getElem?_eq_some_iff.1 h).1

theorem Own.cell {w : World} {g : Nat} {k : IntKind} {e : TypeId} {ds : List Nat} (h : Own w g k e ds) (j : Nat) (hj : j < ds.length) : w.cell? ⟨g, j, none⟩ = some (.int k (ds.getD j 0 : Nat)) := by
  obtain ⟨tl, h⟩ := h
  rw [cell_of_row w g j _ e (0, 0) h]
  simp [hj, List.getElem?_append_left]

theorem Own.frozen {w : World} {g : Nat} {k : IntKind} {e : TypeId} {ds : List Nat} (h : Own w g k e ds) (j : Nat) : w.frozen? ⟨g, j, none⟩ = false := by
  obtain ⟨tl, h⟩ := h; exact frozen_of_row w g j _ e h

theorem Own.store {w : World} {g : Nat} {k : IntKind} {e : TypeId} {ds : List Nat} (h : Own w g k e ds) (j x : Nat) : Own (w.setCell ⟨g, j, none⟩ (.int k x)) g k e (ds.set j x) := by
  obtain ⟨tl, h⟩ := h
  unfold Own
  rw [heap_setCell_same w g j _ e _ h]
  by_cases hj : j < ds.length
  · refine ⟨tl, ?_⟩
    simp [List.map_set, List.set_append_left _ _ (show j < (ds.map (fun d : Nat => Value.int k (d : Int))).length by simpa using hj)]
  · refine ⟨tl.set (j - ds.length) (.int k x), ?_⟩
    rw [List.set_eq_of_length_le (by omega)]
    have := List.set_append_right (s := ds.map (fun d : Nat => Value.int k (d : Int))) (t := tl) j (Value.int k x) (by simp; omega)
    simp only [List.length_map] at this
    simp [this]

theorem Own.other {w : World} {g : Nat} {k : IntKind} {e : TypeId} {ds : List Nat} (h : Own w g k e ds) {a : Addr} (ha : a.block ≠ g) (u : Value) : Own (w.setCell a u) g k e ds := by
  obtain ⟨tl, h⟩ := h
  refine ⟨tl, ?_⟩
  rw [heap_setCell_other w a g u (Ne.symm ha)]
  exact h

theorem Own.alloc {w : World} {g : Nat} {k : IntKind} {e : TypeId} {ds : List Nat} (h : Own w g k e ds) (o : Obj) : Own (w.alloc o) g k e ds := by
  have hl := h.lt
  obtain ⟨tl, h⟩ := h
  refine ⟨tl, ?_⟩
  rw [heap_alloc_old w o hl]
  exact h

theorem Own.below {w w' : World} {g : Nat} {k : IntKind} {e : TypeId} {ds : List Nat} (h : Own w g k e ds) {B : Nat} (hb : Below B w w') (hg : g < B) : Own w' g k e ds := by
  obtain ⟨tl, h⟩ := h
  refine ⟨tl, ?_⟩
  rw [hb.block g hg]
  exact h

theorem Own.grown {w w' : World} {g : Nat} {k : IntKind} {e : TypeId} {ds : List Nat} (h : Own w g k e ds) {row : Option Nat} (hb : w.grownBy w' row) (hg : some g ≠ row) : Own w' g k e ds := by
  have hl := h.lt
  obtain ⟨tl, h⟩ := h
  refine ⟨tl, ?_⟩
  rw [hb.block g hl hg]
  exact h

theorem Own.drewN {w : World} {g : Nat} {k : IntKind} {e : TypeId} {ds : List Nat} (h : Own w g k e ds) (n : Nat) : Own (w.drewN n) g k e ds := h
theorem Own.drew {w : World} {g : Nat} {k : IntKind} {e : TypeId} {ds : List Nat} (h : Own w g k e ds) : Own w.drew g k e ds := h

theorem Own.of_ownsRow {w : World} {g base cap n : Nat} {k : IntKind} {e : TypeId} {ds : List Nat} (hn : ds.length = n)
    (h : w.ownsRow base e 1 (.slice (some ⟨g, 0, none⟩) n cap) n (ds.map (fun d : Nat => Value.int k (d : Int)))) : Own w g k e ds ∧ n ≤ cap ∧ cap ≤ maxLen ∧ base ≤ g := by
  rcases h.2 with ⟨h', _⟩ | ⟨g', cap', cur, h', hb, hg, hnc, hcm, hcs, htake⟩
  · simp at h'
  · simp only [Value.slice.injEq, Option.some.injEq, Addr.mk.injEq, and_true, true_and] at h'
    obtain ⟨rfl, rfl⟩ := h'
    refine ⟨⟨cur.toList.drop n, ?_⟩, hnc, hcm, hb⟩
    rw [hg]
    rw [Nat.mul_one] at htake
    rw [← htake, List.take_append_drop]

theorem Own.of_made {w : World} {g base : Nat} {k : IntKind} {e : TypeId} {n : Nat}
    (h : w.ownsRow base e 1 (.slice (some ⟨g, 0, none⟩) n n) n (madeCells #[Value.int k 0] n).toList) : Own w g k e (List.replicate n 0) := by
  rw [toList_madeCells_one] at h
  exact (Own.of_ownsRow (cap := n) (n := n) (base := base) (ds := List.replicate n 0) (by simp) (by simpa using h)).1

/-- What a row of one's own reads as. -/
theorem Own.isRowCap {w : World} {g : Nat} {k : IntKind} {e : TypeId} {ds : List Nat} (h : Own w g k e ds) (cap : Nat) (h1 : ds.length ≤ cap) (h2 : cap ≤ maxLen) : IsRow k w (.slice (some ⟨g, 0, none⟩) ds.length cap) ds := by
  rcases Nat.eq_zero_or_pos ds.length with h0 | hp
  · left
    refine ⟨List.eq_nil_of_length_eq_zero h0, _, _, by rw [h0], h2, by simp⟩
  · exact .inr ⟨hp, g, 0, cap, rfl, h1, h2, h.lt, fun j hj => by rw [Nat.zero_add]; exact h.cell j hj⟩

theorem Own.isRow {w : World} {g : Nat} {k : IntKind} {e : TypeId} {ds : List Nat} (h : Own w g k e ds) (hl : ds.length ≤ maxLen) : IsRow k w (.slice (some ⟨g, 0, none⟩) ds.length ds.length) ds :=
  h.isRowCap _ (Nat.le_refl _) hl

/-- Words of 64 bits: sum and carry, product, difference and borrow: behind names, so that a walk leaves them alone. -/
def addLo (x y c : Nat) : Nat := (x + y + c) % b64
def addHi (x y c : Nat) : Nat := (x + y + c) / b64
def mulLo (x y : Nat) : Nat := x * y % b64
def mulHi (x y : Nat) : Nat := x * y / b64
def subLo (x y b : Nat) : Nat := (b64 + x - y - b) % b64
def subHi (x y b : Nat) : Nat := if x < y + b then 1 else 0
theorem addLo_lt (x y c : Nat) : addLo x y c < b64 := Nat.mod_lt _ b64_pos
theorem mulLo_lt (x y : Nat) : mulLo x y < b64 := Nat.mod_lt _ b64_pos
theorem subLo_lt (x y c : Nat) : subLo x y c < b64 := Nat.mod_lt _ b64_pos
theorem add_eq (x y c : Nat) : addLo x y c + b64 * addHi x y c = x + y + c := Nat.mod_add_div _ _
theorem mul_eq (x y : Nat) : mulLo x y + b64 * mulHi x y = x * y := Nat.mod_add_div _ _
theorem addHi_le (x y c : Nat) (hx : x < b64) (hy : y < b64) (hc : c ≤ 1) : addHi x y c ≤ 1 := by
  unfold addHi
  have : x + y + c < b64 * 2 := by omega
  have := Nat.div_lt_of_lt_mul this
  omega
theorem subHi_le (x y c : Nat) : subHi x y c ≤ 1 := by unfold subHi; split <;> omega


def divQ (hi lo y : Nat) : Nat := (hi * b64 + lo) / y
def divR (hi lo y : Nat) : Nat := (hi * b64 + lo) % y

theorem below_dn {B : Nat} {a w : World} (h : Below B a w) (n : Nat) : Below B a (w.drewN n) := ⟨h.os, h.tape, h.output, h.size, h.block⟩

/-- A slice that reads as digits, opened: its address where there is a digit. -/
theorem IsRow.opened {k : IntKind} {w : World} {v : Value} {ds : List Nat} (h : IsRow k w v ds) : ∃ ao cap, v = .slice ao ds.length cap ∧
    (0 < ds.length → ∃ b off, ao = some ⟨b, off, none⟩ ∧ b < w.heap.size ∧ ∀ j, j < ds.length → w.cell? ⟨b, off + j, none⟩ = some (.int k (ds.getD j 0 : Nat))) := by
  rcases h with ⟨rfl, ao, cap, rfl, _⟩ | ⟨_, b, off, cap, rfl, _, _, hb, hc⟩
  · exact ⟨_, _, rfl, fun h => absurd h (by simp)⟩
  · exact ⟨_, _, rfl, fun _ => ⟨b, off, rfl, hb, hc⟩⟩


/-- The measure of a loop that counts up to n. -/
theorem meas_up {n i : Nat} (h : i < n) : n - (intOf (.int .i64 ((i : Int) + 1))).toNat < n - (intOf (.int .i64 (i : Int))).toNat := by simp [intOf]; omega


/-- Nothing that was there has turned: step by step. -/
theorem ext_trans {w a b : World} (h : Below w.heap.size w a) (k : Below a.heap.size a b) : Below w.heap.size w b := h.trans (k.mono h.size)


theorem ownsRow_some {w : World} {base : Nat} {e : TypeId} {size : Nat} {v : Value} {n : Nat} {xs : List Value} (h : w.ownsRow base e size v n xs) (hn : 0 < n) : ∃ g cap, v = .slice (some ⟨g, 0, none⟩) n cap := by
  rcases h.2 with ⟨_, h0⟩ | ⟨g, cap, cur, rfl, _⟩
  · omega
  · exact ⟨g, cap, rfl⟩

/-- An empty slice that the call itself has just made. -/
theorem ownsRow_empty {w w' : World} {e : TypeId} (h : Below (w.heap.size + 1) (w.alloc (.cells #[] e)) w') : w'.ownsRow w.heap.size e 1 (.slice (some ⟨w.heap.size, 0, none⟩) 0 0) 0 [] := by
  refine ⟨rfl, .inr ⟨w.heap.size, 0, #[], rfl, Nat.le_refl _, ?_, Nat.le_refl _, by unfold maxLen; omega, rfl, rfl⟩⟩
  rw [h.block _ (Nat.lt_succ_self _)]
  exact heap_alloc_new w _

/-- The cells that an append takes. -/
theorem row_cells {k : IntKind} {w : World} {b off : Nat} {ds : List Nat} (hc : ∀ j, j < ds.length → w.cell? ⟨b, off + j, none⟩ = some (.int k (ds.getD j 0 : Nat))) :
    ∀ (j : Nat) (u : Value), (ds.map (fun d : Nat => Value.int k (d : Int)))[j]? = some u → w.cell? ((⟨b, off, none⟩ : Addr).add j) = some u := by
  intro j u hu
  have hj : j < ds.length := by
    rcases Nat.lt_or_ge j ds.length with h | h
    · exact h
    · simp [List.getElem?_eq_none h] at hu
  have e : (⟨b, off, none⟩ : Addr).add j = ⟨b, off + j, none⟩ := by
    unfold Addr.add; split <;> simp_all
  rw [e, hc j hj]
  simp [hj] at hu ⊢
  exact hu
theorem row_one {k : IntKind} (ds : List Nat) : ∀ u ∈ ds.map (fun d : Nat => Value.int k (d : Int)), u.oneCell' = true := by
  intro u hu
  obtain ⟨d, _, rfl⟩ := List.mem_map.1 hu
  rfl

end Go.Proofs.Ytmfochplnchgcaa

/- FRACTIONS: the plain part, and what a fraction of the program's reads as. -/
namespace Go.Proofs.Ytmfochplnchgcaa
open Go.RowKit

/-- n with a sign. -/
def sg (neg : Bool) (n : Nat) : Int := if neg then -(n : Int) else n
/-- The fraction n/d with a sign. -/
def mkQ (neg : Bool) (n d : Nat) : Rat := mkRat (sg neg n) d

theorem sg_natAbs (neg : Bool) (n : Nat) : (sg neg n).natAbs = n := by unfold sg; split <;> simp
theorem sg_zero (neg : Bool) : sg neg 0 = 0 := by unfold sg; split <;> simp
theorem sg_lt (neg : Bool) (n : Nat) (h : n ≠ 0) : decide (sg neg n < 0) = neg := by cases neg <;> simp [sg] <;> omega

theorem mkQ_num (neg : Bool) (n d : Nat) (hd : 0 < d) : (mkQ neg n d).num.natAbs = n / Nat.gcd n d := by
  unfold mkQ
  rw [Rat.num_mkRat, if_neg (by omega), sg_natAbs, Nat.gcd_comm]
  rw [Int.natAbs_ediv_of_dvd, sg_natAbs, Int.natAbs_natCast]
  refine Int.natAbs_dvd_natAbs.1 ?_
  rw [sg_natAbs, Int.natAbs_natCast]
  exact Nat.gcd_dvd_left n d

theorem mkQ_den (neg : Bool) (n d : Nat) (hd : 0 < d) : (mkQ neg n d).den = d / Nat.gcd n d := by
  unfold mkQ
  rw [Rat.den_mkRat, if_neg (by omega), sg_natAbs, Nat.gcd_comm]

theorem mkQ_zero (neg : Bool) (d : Nat) : mkQ neg 0 d = 0 := by unfold mkQ; rw [sg_zero]; simp

theorem mkQ_neg (neg : Bool) (n d : Nat) (hd : 0 < d) (hn : n ≠ 0) : decide ((mkQ neg n d).num < 0) = neg := by
  have hg : 0 < Nat.gcd n d := Nat.gcd_pos_of_pos_right n hd
  have e : (mkQ neg n d).num = sg neg n / (Nat.gcd n d : Nat) := by
    unfold mkQ
    rw [Rat.num_mkRat, if_neg (by omega), sg_natAbs, Nat.gcd_comm]
  have h2 : decide ((mkQ neg n d).num < 0) = decide (sg neg n < 0) := by
    rw [e, decide_eq_decide]
    generalize sg neg n = z
    constructor
    · intro h
      rcases Int.lt_or_le z 0 with h1 | h1
      · exact h1
      · have := Int.ediv_nonneg h1 (show (0 : Int) ≤ (Nat.gcd n d : Nat) by omega); omega
    · intro h
      exact Int.ediv_neg_of_neg_of_pos h (by omega)
  rw [h2, sg_lt neg n hn]

/-- A denominator as the program keeps it: 0 for 1. -/
def dn (d : Nat) : Nat := if d = 1 then 0 else d

/-- The value v reads as the fraction q. -/
def IsRat (w : World) (v : Value) (q : Rat) : Prop :=
  ∃ vn vd, v = .agg #[.bool (decide (q.num < 0)), vn, vd] ∧ IsNat .u64 b64 w vn q.num.natAbs ∧ IsNat .u64 b64 w vd (dn q.den)

theorem IsRat.below {w w' : World} {v : Value} {q : Rat} (h : IsRat w v q) (hb : Below w.heap.size w w') : IsRat w' v q := by
  obtain ⟨vn, vd, rfl, h1, h2⟩ := h
  exact ⟨vn, vd, rfl, h1.below hb, h2.below hb⟩

def RetRat (q : Rat) (w : World) (e : Ending) (w' : World) : Prop := ∃ v, e = .returned v ∧ IsRat w' v q ∧ Below w.heap.size w w'

theorem IsRat.zero (w : World) : IsRat w (.agg #[.bool false, .slice none 0 0, .slice none 0 0]) 0 :=
  ⟨_, _, rfl, IsNat.zero _ _ _, IsNat.zero _ _ _⟩

/-- The size of a fraction: words of both parts. -/
def szR (q : Rat) (k : Nat) : Prop := (dig b64 q.num.natAbs).length ≤ k ∧ (dig b64 q.den).length ≤ k

theorem rat_eq (q : Rat) : q = mkQ (decide (q.num < 0)) q.num.natAbs q.den := by
  unfold mkQ
  have : sg (decide (q.num < 0)) q.num.natAbs = q.num := by
    unfold sg
    by_cases h : q.num < 0 <;> simp [h] <;> omega
  rw [this]
  exact (Rat.mkRat_self q).symm

/-- A block of the call's own: its cells. -/
theorem blk_cell {w : World} {B T : Nat} {cs : Array Value} (h : w.heap[B]? = some (.cells cs T (0, 0))) (j : Nat) (v : Value) (hv : cs[j]? = some v) : w.cell? ⟨B, j, none⟩ = some v := by
  rw [cell_of_row w B j cs T (0, 0) h]; exact hv
theorem blk_frozen {w : World} {B T : Nat} {cs : Array Value} (h : w.heap[B]? = some (.cells cs T (0, 0))) (j : Nat) : w.frozen? ⟨B, j, none⟩ = false := frozen_of_row w B j cs T h
theorem blk_new (w : World) (cs : Array Value) (T : Nat) : (w.alloc (.cells cs T)).heap[w.heap.size]? = some (.cells cs T (0, 0)) := heap_alloc_new w _
theorem blk_keep {w w' : World} {B T n : Nat} {cs : Array Value} (h : w.heap[B]? = some (.cells cs T (0, 0))) (hb : Below n w w') (hB : B < n) : w'.heap[B]? = some (.cells cs T (0, 0)) := by
  rw [hb.block B hB]; exact h
theorem blk_lt {w : World} {B : Nat} {o : Obj} (h : w.heap[B]? = some o) : B < w.heap.size := (Array.getElem?_eq_some_iff.1 h).1
theorem blk_set {w : World} {B T : Nat} {cs : Array Value} (h : w.heap[B]? = some (.cells cs T (0, 0))) (j : Nat) (v : Value) : (w.setCell ⟨B, j, none⟩ v).heap[B]? = some (.cells (cs.setIfInBounds j v) T (0, 0)) :=
  heap_setCell_same w B j cs T v h


/-- A block that holds no numbers is no digits' block: a store into it leaves every number as it was. -/
def noInt (cs : Array Value) : Prop := ∀ (i : Nat) (k : IntKind) (x : Int), cs[i]? ≠ some (Value.int k x)
theorem IsRow.set_other {k : IntKind} {w : World} {v : Value} {ds : List Nat} {B T : Nat} {cs : Array Value} (h : IsRow k w v ds) (hB : w.heap[B]? = some (.cells cs T (0, 0))) (hn : noInt cs) (j : Nat) (u : Value) :
    IsRow k (w.setCell ⟨B, j, none⟩ u) v ds := by
  rcases h with h | ⟨h0, b, off, cap, rfl, h1, h2, h3, h4⟩
  · exact .inl h
  · have hne : b ≠ B := by
      rintro rfl
      have := h4 0 h0
      rw [cell_of_row w b (off + 0) cs T (0, 0) hB] at this
      exact hn _ _ _ this
    refine .inr ⟨h0, b, off, cap, rfl, h1, h2, by simpa [World.setCell] using h3, fun i hi => ?_⟩
    rw [← h4 i hi]
    exact World.cell?_of_block (w := w) (heap_setCell_other w ⟨B, j, none⟩ b u hne)
theorem noInt3 (b : Bool) (x y : Option Addr) (i j k l : Nat) : noInt #[.bool b, .slice x i j, .slice y k l] := by
  intro n k x
  match n with
  | 0 => simp
  | 1 => simp
  | 2 => simp
  | n + 3 => simp

/-- A fraction stored into a block of the call's own: what else reads as a number still does. -/
theorem store3 {w : World} {B T : Nat} {b0 neg : Bool} {x0 y0 x1 y1 : Option Addr} {i0 j0 k0 l0 i1 j1 k1 l1 : Nat} {k : IntKind} {v : Value} {ds : List Nat}
    (hB : w.heap[B]? = some (.cells #[.bool b0, .slice x0 i0 j0, .slice y0 k0 l0] T (0, 0))) (h : IsRow k w v ds) :
    IsRow k (((w.setCell ⟨B, 0, none⟩ (.bool neg)).setCell ⟨B, 1, none⟩ (.slice x1 i1 j1)).setCell ⟨B, 2, none⟩ (.slice y1 k1 l1)) v ds := by
  have h1 := h.set_other hB (noInt3 b0 x0 y0 i0 j0 k0 l0) 0 (.bool neg)
  have hB1 := blk_set hB 0 (.bool neg)
  have h2 := h1.set_other hB1 (by exact noInt3 neg x0 y0 i0 j0 k0 l0) 1 (.slice x1 i1 j1)
  have hB2 := blk_set hB1 1 (.slice x1 i1 j1)
  exact h2.set_other hB2 (by exact noInt3 neg x1 y0 i1 j1 k0 l0) 2 (.slice y1 k1 l1)
theorem below_store3 {n : Nat} {w0 w : World} {B : Nat} {u0 u1 u2 : Value} (h : Below n w0 w) (hB : n ≤ B) :
    Below n w0 (((w.setCell ⟨B, 0, none⟩ u0).setCell ⟨B, 1, none⟩ u1).setCell ⟨B, 2, none⟩ u2) :=
  ((h.setCell (p := ⟨B, 0, none⟩) hB u0).setCell (p := ⟨B, 1, none⟩) hB u1).setCell (p := ⟨B, 2, none⟩) hB u2


/-- A fraction, opened. -/
theorem IsRat.opened {w : World} {v : Value} {q : Rat} (h : IsRat w v q) : ∃ a1 c1 a2 c2, v = .agg #[.bool (decide (q.num < 0)), .slice a1 (dig b64 q.num.natAbs).length c1, .slice a2 (dig b64 (dn q.den)).length c2] ∧
    IsNat .u64 b64 w (.slice a1 (dig b64 q.num.natAbs).length c1) q.num.natAbs ∧ IsNat .u64 b64 w (.slice a2 (dig b64 (dn q.den)).length c2) (dn q.den) := by
  obtain ⟨vn, vd, rfl, h1, h2⟩ := h
  have h1' := h1
  have h2' := h2
  obtain ⟨a1, c1, rfl, _⟩ := IsRow.opened h1
  obtain ⟨a2, c2, rfl, _⟩ := IsRow.opened h2
  exact ⟨a1, c1, a2, c2, rfl, h1', h2'⟩

/-- The sign of x - y. -/
def cmpR (x y : Rat) : Int := if x < y then -1 else if y < x then 1 else 0

/-- What a call returns: a number; nothing that was there has turned. -/
def RetInt (n : Int) (w : World) (e : Ending) (w' : World) : Prop := e = .returned (.int .i64 n) ∧ Below w.heap.size w w'
def RetBool (b : Bool) (w : World) (e : Ending) (w' : World) : Prop := e = .returned (.bool b) ∧ Below w.heap.size w w'


/-- Two boxed fractions, held while calls are made that turn nothing old. -/
theorem keep6 {W a b : World} {B1 B2 : Nat} {v0 v1 v2 v3 v4 v5 : Value} (hl1 : B1 < W.heap.size) (hl2 : B2 < W.heap.size) (hb : Below a.heap.size a b)
    (h : Below W.heap.size W a ∧ a.cell? ⟨B1, 0, none⟩ = some v0 ∧ a.cell? ⟨B1, 1, none⟩ = some v1 ∧ a.cell? ⟨B1, 2, none⟩ = some v2 ∧ a.cell? ⟨B2, 0, none⟩ = some v3 ∧ a.cell? ⟨B2, 1, none⟩ = some v4 ∧ a.cell? ⟨B2, 2, none⟩ = some v5) :
    Below W.heap.size W b ∧ b.cell? ⟨B1, 0, none⟩ = some v0 ∧ b.cell? ⟨B1, 1, none⟩ = some v1 ∧ b.cell? ⟨B1, 2, none⟩ = some v2 ∧ b.cell? ⟨B2, 0, none⟩ = some v3 ∧ b.cell? ⟨B2, 1, none⟩ = some v4 ∧ b.cell? ⟨B2, 2, none⟩ = some v5 := by
  obtain ⟨h0, h1, h2, h3, h4, h5, h6⟩ := h
  have hs := h0.size
  have e : ∀ (B j : Nat), B < W.heap.size → b.cell? ⟨B, j, none⟩ = a.cell? ⟨B, j, none⟩ := fun B j hB => hb.cell (p := ⟨B, j, none⟩) (by show B < a.heap.size; omega)
  exact ⟨ext_trans h0 hb, by rw [e _ _ hl1]; exact h1, by rw [e _ _ hl1]; exact h2, by rw [e _ _ hl1]; exact h3, by rw [e _ _ hl2]; exact h4, by rw [e _ _ hl2]; exact h5, by rw [e _ _ hl2]; exact h6⟩

end Go.Proofs.Ytmfochplnchgcaa

/- FLOATS: what the comparisons of Float's tests come to; the value of a float's bits. Plain. -/
namespace Go.Proofs.Ytmfochplnchgcaa
open Go.RowKit

/-- The weight of the sign bit of a float64, and the rung of infinity. -/
def sgnW : Nat := 9223372036854775808
def infR : Nat := 9218868437227405312
def bin52 : Nat := 4503599627370496

theorem f64_sign : Ieee.double.signWeight = sgnW := by decide +kernel
theorem f64_inf : Ieee.double.infRung = infR := by decide +kernel
theorem f64_bin : Ieee.double.binade = bin52 := by decide +kernel
theorem f64_least : Ieee.double.leastPlace = -1074 := by decide +kernel

theorem cmp_self (a : Int) : compare a a = .eq := by simp
theorem cmp_self_nat (a : Nat) : compare a a = .eq := by simp

theorem order_self (b : Nat) : (FloatKind.f64.format.order b b != some .eq) = decide (infR < b % sgnW) := by
  show (Ieee.double.order b b != some .eq) = _
  unfold Ieee.Format.order Ieee.Format.read
  rw [f64_sign, f64_inf, f64_bin]
  generalize b % sgnW = r
  generalize (b / sgnW % 2 == 1) = s
  have hb : bin52 < infR := by unfold bin52 infR; omega
  simp only []
  by_cases h1 : r < bin52
  · have h2 : ¬ infR < r := by omega
    simp [h1, h2, Ieee.Datum.order]
  · by_cases h2 : r < infR
    · have h3 : ¬ infR < r := by omega
      simp [h1, h2, h3, Ieee.Datum.order]
    · by_cases h3 : r = infR
      · subst h3
        simp [h1, Ieee.Datum.order]
      · have h4 : infR < r := by omega
        simp [h1, h2, h3, h4, Ieee.Datum.order]

def maxF : Nat := 9218868437227405311

theorem order_max (r : Nat) (hr : r < sgnW) (hn : ¬ infR < r) : (FloatKind.f64.format.order r maxF == some .gt) = decide (r = infR) := by
  show (Ieee.double.order r maxF == some .gt) = _
  have hm : Ieee.double.read maxF = .number false 9007199254740991 971 := by decide +kernel
  unfold Ieee.Format.order
  rw [hm]
  unfold Ieee.Format.read
  rw [f64_sign, f64_inf, f64_bin, f64_least]
  have e1 : r % sgnW = r := Nat.mod_eq_of_lt hr
  have e2 : r / sgnW = 0 := Nat.div_eq_of_lt hr
  rw [e1, e2]
  have hb : bin52 < infR := by unfold bin52 infR; omega
  simp only []
  have key : ∀ (m : Nat) (i : Int), m ≤ 9007199254740991 → i ≤ 971 → (Ieee.Datum.order (.number false m i) (.number false 9007199254740991 971) == some .gt) = false := by
    intro m i h1 h2
    have h3 : min i 971 = i := by omega
    simp only [Ieee.Datum.order, h3, Ieee.signed]
    have h4 : (i - i).toNat = 0 := by omega
    rw [h4]
    have h5 : (m <<< 0 : Nat) ≤ 9007199254740991 <<< ((971 : Int) - i).toNat := by
      rw [Nat.shiftLeft_eq, Nat.shiftLeft_eq]
      have : 1 ≤ 2 ^ ((971 : Int) - i).toNat := Nat.one_le_two_pow
      calc m * 2 ^ 0 ≤ 9007199254740991 * 1 := by omega
        _ ≤ _ := Nat.mul_le_mul_left _ this
    generalize (m <<< 0 : Nat) = A at *
    generalize (9007199254740991 <<< ((971 : Int) - i).toNat : Nat) = B at *
    have h6 : compare (A : Int) (B : Int) ≠ .gt := by
      intro h
      have := (Int.compare_eq_gt).1 h
      omega
    simpa using h6
  by_cases h1 : r < bin52
  · have h2 : ¬ r = infR := by omega
    simp only [h1, if_true, h2, decide_false]
    exact key r _ (by unfold bin52 at h1; omega) (by omega)
  · by_cases h2 : r < infR
    · have h3 : ¬ r = infR := by omega
      simp only [h1, if_false, h2, if_true, h3, decide_false]
      refine key _ _ ?_ ?_
      · have := Nat.mod_lt r (show 0 < bin52 by unfold bin52; omega)
        unfold bin52 at *; omega
      · unfold bin52 infR at *
        omega
    · have h3 : r = infR := by omega
      simp only [h1, if_false, h2, h3, if_true, decide_true]
      have h4 : ¬ infR < bin52 := by omega
      simp [h4, Ieee.Datum.order]

end Go.Proofs.Ytmfochplnchgcaa

/- ROWS OF STRUCTS THAT THE CALL OWNS: append keeps every number's digits, for the rows hold no digits. -/
namespace Go.Proofs.Ytmfochplnchgcaa
open Go.RowKit

/-- A value that is no digit of a number. -/
def noDig (v : Value) : Prop := ∀ x : Int, v ≠ .int .u64 x ∧ v ≠ .int .u32 x
/-- No cell of the block is a digit of a number. -/
def NoDig (w : World) (g : Nat) : Prop := ∀ (j : Nat) (v : Value), w.cell? ⟨g, j, none⟩ = some v → noDig v

theorem noDig_bool (b : Bool) : noDig (.bool b) := fun _ => ⟨by simp, by simp⟩
theorem noDig_slice (a : Option Addr) (l c : Nat) : noDig (.slice a l c) := fun _ => ⟨by simp, by simp⟩
theorem noDig_i64 (x : Int) : noDig (.int .i64 x) := fun _ => ⟨by simp, by simp⟩
theorem noDig_f32 (x : Nat) : noDig (.float .f32 x) := fun _ => ⟨by simp, by simp⟩
theorem noDig_f64 (x : Nat) : noDig (.float .f64 x) := fun _ => ⟨by simp, by simp⟩

theorem NoDig.of_block {w : World} {g : Nat} {cs : Array Value} {t : TypeId} {fr : Nat × Nat} (hg : w.heap[g]? = some (.cells cs t fr)) (h : ∀ v ∈ cs.toList, noDig v) : NoDig w g := by
  intro j v hv
  rw [cell_of_row w g j cs t fr hg] at hv
  exact h v (by simpa using Array.mem_of_getElem? hv)

/-- A row that the call owns, without digits. -/
def LRow (w : World) (base : Nat) (e : TypeId) (size : Nat) (v : Value) (n : Nat) (xs : List Value) : Prop :=
  w.ownsRow base e size v n xs ∧ ∀ g, v.ownBlock = some g → NoDig w g

theorem LRow.nil (w : World) (base : Nat) (e : TypeId) (size : Nat) : LRow w base e size (.slice none 0 0) 0 [] :=
  ⟨World.ownsRow_nil w base e size, fun g h => by simp [Value.ownBlock] at h⟩
theorem LRow.lt {w : World} {base : Nat} {e : TypeId} {size : Nat} {v : Value} {n : Nat} {xs : List Value} (h : LRow w base e size v n xs) {g : Nat} (hg : v.ownBlock = some g) : g < w.heap.size ∧ base ≤ g := by
  rcases h.1.2 with ⟨rfl, _⟩ | ⟨g', cap, cur, rfl, hb, hh, _⟩
  · simp [Value.ownBlock] at hg
  · simp [Value.ownBlock] at hg
    subst hg
    exact ⟨(Array.getElem?_eq_some_iff.1 hh).1, hb⟩
theorem LRow.keep {w w' : World} {base : Nat} {e : TypeId} {size : Nat} {v : Value} {n : Nat} {xs : List Value} (h : LRow w base e size v n xs) (hk : ∀ g, v.ownBlock = some g → w'.heap[g]? = w.heap[g]?) : LRow w' base e size v n xs := by
  refine ⟨⟨h.1.1, ?_⟩, fun g hg j u hu => h.2 g hg j u ?_⟩
  · rcases h.1.2 with h1 | ⟨g, cap, cur, rfl, hb, hh, h2⟩
    · exact .inl h1
    · exact .inr ⟨g, cap, cur, rfl, hb, (hk g rfl).trans hh, h2⟩
  · rw [← hu]
    exact (World.cell?_of_block (a := ⟨g, j, none⟩) (hk g hg)).symm
theorem LRow.below {w w' : World} {base : Nat} {e : TypeId} {size : Nat} {v : Value} {n : Nat} {xs : List Value} (h : LRow w base e size v n xs) (hb : Below w.heap.size w w') : LRow w' base e size v n xs :=
  h.keep fun g hg => hb.block g (h.lt hg).1
theorem LRow.grown {w w' : World} {base : Nat} {e : TypeId} {size : Nat} {v : Value} {n : Nat} {xs : List Value} {row : Option Nat} (h : LRow w base e size v n xs) (hb : w.grownBy w' row) (hne : ∀ g, v.ownBlock = some g → some g ≠ row) : LRow w' base e size v n xs :=
  h.keep fun g hg => hb.block g (h.lt hg).1 (hne g hg)

/-- A number's digits stay where only a row without digits is written. -/
theorem IsRow.grown {k : IntKind} (hk : k = .u64 ∨ k = .u32) {w w' : World} {v : Value} {ds : List Nat} {row : Option Nat} (h : IsRow k w v ds) (hg : w.grownBy w' row) (hr : ∀ g, row = some g → NoDig w g) : IsRow k w' v ds := by
  rcases h with ⟨rfl, ao, cap, rfl, h2, h3⟩ | ⟨h0, b, off, cap, rfl, h1, h2, h3, h4⟩
  · exact .inl ⟨rfl, ao, cap, rfl, h2, h3⟩
  · have hne : some b ≠ row := by
      intro e
      have := hr b e.symm off _ (h4 0 h0)
      rcases hk with rfl | rfl
      · exact (this _).1 rfl
      · exact (this _).2 rfl
    refine .inr ⟨h0, b, off, cap, rfl, h1, h2, Nat.lt_of_lt_of_le h3 hg.size, fun j hj => ?_⟩
    rw [← h4 j hj]
    exact World.cell?_of_block (a := ⟨b, off + j, none⟩) (hg.block b h3 hne)

theorem mem_of_getElem?' {l : List Value} {j : Nat} {v : Value} (h : l[j]? = some v) : v ∈ l := List.mem_of_getElem? h

/-- append onto such a row, at the model's operation. -/
theorem run_append_lrow {P : Program} (w : World) (t ty : TypeId) (base : Nat) (e : TypeId) (i : TypeInfo) (z : Value) (size bytes : Nat) (ht : P.underlying t = some (.slice e)) (hi : P.info? e = some i) (hz : i.zero = some z)
    (hsize : i.size = size) (hby : i.bytes = bytes) (hzs : z.cells.size = size) (hsz : 0 < size) (hzd : ∀ u ∈ z.cells.toList, noDig u)
    (v : Value) (n : Nat) (xs : List Value) (hown : LRow w base e size v n xs)
    (ad : Addr) (m c : Nat) (news : List Value) (hl : news.length = m * size) (hnews : ∀ j u, news[j]? = some u → w.cell? (ad.add j) = some u) (h1 : ∀ u ∈ news, u.oneCell' = true) (hnd : ∀ u ∈ news, noDig u)
    (hm : 0 < m) (h63 : n + m ≤ maxLen) (hbytes : (n + m) * bytes ≤ 140737488355328) (hbase : base ≤ w.heap.size) :
    ∃ g cap w', (Builtin.append_ #[t, t] ty #[v, .slice (some ad) m c]).run P w = .ok (.slice (some ⟨g, 0, none⟩) (n + m) cap) w' ∧
      LRow w' base e size (.slice (some ⟨g, 0, none⟩) (n + m) cap) (n + m) (xs ++ news) ∧ w.grownBy w' v.ownBlock ∧ (v.ownBlock = some g ∨ g = w.heap.size) := by
  obtain ⟨g, cap, w', hr, h2, h3, h4, h5⟩ := run_append_lies (P := P) w t ty base e i z size bytes ht hi hz hsize hby hzs hsz v n xs hown.1 ad m c news hl hnews h1 hm h63 hbytes hbase w.heap.size rfl
  refine ⟨g, cap, w', hr, ⟨h2, ?_⟩, h3, h4⟩
  intro g' hg'
  obtain rfl : g = g' := by simpa [Value.ownBlock] using hg'
  subst hsize
  subst hby
  have h63' : n + m ≤ 9223372036854775807 := by unfold maxLen at h63; omega
  have hzc : ∀ k, ∀ u ∈ (Builtin.zeroCells z.cells k).toList, noDig u := by
    intro k u hu
    refine hzd u ?_
    simp only [Builtin.zeroCells] at hu
    simp at hu
    obtain ⟨j, h1, h2⟩ := hu
    have hp : 0 < z.cells.size := by omega
    have hlt : j % z.cells.size < z.cells.size := Nat.mod_lt _ hp
    rw [← h2, getElem!_pos z.cells _ hlt]
    simp
  rcases hown.1.2 with ⟨rfl, rfl⟩ | ⟨g1, cap1, cur, rfl, hbg, hg, hnc, hcm, hcs, htake⟩
  · have hr2 := run_append_nil (P := P) w t ty e i z ht hi hz ad m c news hl hnews hm (by omega) (by have hb := hbytes; simp only [Nat.zero_add] at hb; omega)
    rw [hr2] at hr
    simp only [Result.ok.injEq, Value.slice.injEq, Option.some.injEq, Addr.mk.injEq] at hr
    obtain ⟨⟨⟨rfl, _⟩, _⟩, rfl⟩ := hr
    refine NoDig.of_block (heap_alloc_new w.drew _) ?_
    intro u hu
    simp only [Array.toList_append, List.mem_append] at hu
    rcases hu with hu | hu
    · exact hnd u (by simpa using hu)
    · exact hzc _ u hu
  · by_cases hroom : n + m ≤ cap1
    · have hfit : n * i.size + news.length ≤ cur.size := by rw [hl, hcs, ← Nat.add_mul]; exact Nat.mul_le_mul_right _ hroom
      have hr2 := run_append_room (P := P) w t ty e i ht hi g1 n cap1 cur hg ad m c news hl hnews h1 hroom hfit
      rw [hr2] at hr
      simp only [Result.ok.injEq, Value.slice.injEq, Option.some.injEq, Addr.mk.injEq] at hr
      obtain ⟨⟨⟨rfl, _⟩, _⟩, rfl⟩ := hr
      have hold : ∀ u ∈ cur.toList, noDig u := by
        intro u hu
        obtain ⟨j, hj, rfl⟩ := List.getElem_of_mem hu
        refine hown.2 g1 rfl j _ ?_
        rw [cell_of_row w g1 j cur e (0, 0) hg]
        simp at hj
        simp [hj]
      refine NoDig.of_block (setRow_heap w g1 cur _ e _ hg) ?_
      intro u hu
      simp only [List.append_assoc, List.mem_append] at hu
      rcases hu with hu | hu | hu
      · exact hold u (List.mem_of_mem_take hu)
      · exact hnd u hu
      · exact hold u (List.mem_of_mem_drop hu)
    · have holds : ∀ j u, xs[j]? = some u → w.cell? ((⟨g1, 0, none⟩ : Addr).add j) = some u := hown.1.cells (g := g1) rfl
      have hr2 := run_append_grow (P := P) w t ty e i z ht hi hz ⟨g1, 0, none⟩ n cap1 xs hown.1.1 holds ad m c news hl hnews (by omega) (by omega) (growslice_fits (by omega) hbytes)
      rw [hr2] at hr
      simp only [Result.ok.injEq, Value.slice.injEq, Option.some.injEq, Addr.mk.injEq] at hr
      obtain ⟨⟨⟨rfl, _⟩, _⟩, rfl⟩ := hr
      have hold : ∀ u ∈ xs, noDig u := by
        intro u hu
        obtain ⟨j, hj, rfl⟩ := List.getElem_of_mem hu
        have hx := holds j xs[j] (by simp [hj])
        have ha : (⟨g1, 0, none⟩ : Addr).add j = ⟨g1, j, none⟩ := by unfold Addr.add; split <;> simp_all
        rw [ha] at hx
        exact hown.2 g1 rfl j _ hx
      refine NoDig.of_block (heap_alloc_new w.drew _) ?_
      intro u hu
      simp only [Array.toList_append, List.mem_append] at hu
      rcases hu with (hu | hu) | hu
      · exact hold u hu
      · exact hnd u hu
      · exact hzc _ u hu

/-- At the operation. -/
theorem wp_append_lrow {P : Program} (w : World) {o : Oper} {a : Act} {K : Act → World → Prop} {Q : Exit → Act → World → Prop} (s x : Operand) (t : TypeId)
    (ho : o.op = .call { callee := .builtin .append, args := #[s, x], argTypes := #[t, t] })
    (base : Nat) (e : TypeId) (i : TypeInfo) (z : Value) (size bytes : Nat) (ht : P.underlying t = some (.slice e)) (hi : P.info? e = some i) (hz : i.zero = some z)
    (hsize : i.size = size) (hby : i.bytes = bytes) (hzs : z.cells.size = size) (hsz : 0 < size) (hzd : ∀ u ∈ z.cells.toList, noDig u)
    (v : Value) (n : Nat) (xs : List Value) (hs : a.eval s = v) (hown : LRow w base e size v n xs)
    (ad : Addr) (m c : Nat) (news : List Value) (hx : a.eval x = .slice (some ad) m c) (hl : news.length = m * size) (hnews : ∀ j u, news[j]? = some u → w.cell? (ad.add j) = some u) (h1 : ∀ u ∈ news, u.oneCell' = true) (hnd : ∀ u ∈ news, noDig u)
    (hm : 0 < m) (h63 : n + m ≤ maxLen) (hbytes : (n + m) * bytes ≤ 140737488355328) (hbase : base ≤ w.heap.size)
    (h : ∀ g cap w', LRow w' base e size (.slice (some ⟨g, 0, none⟩) (n + m) cap) (n + m) (xs ++ news) → w.grownBy w' v.ownBlock → (v.ownBlock = some g ∨ g = w.heap.size) → K (a.put o.dst (.slice (some ⟨g, 0, none⟩) (n + m) cap)) w') : o.wp P a w K Q := by
  obtain ⟨g, cap, w', hr, h2, h3, h4⟩ := run_append_lrow (P := P) w t o.type base e i z size bytes ht hi hz hsize hby hzs hsz hzd v n xs hown ad m c news hl hnews h1 hnd hm h63 hbytes hbase
  unfold Oper.wp execOp
  simp only [ho, resolve, invoke, builtin, Sem.run_bind, Sem.run_pure, Result.andThen_ok, List.map_toArray, List.map_cons, List.map_nil, hs, hx, hr]
  exact h g cap w' h2 h3 h4

/-- At a plain region's list. -/
theorem wpList_append_lrow {P : Program} (w : World) {ops : Array Oper} {rest : List Oper} {o : Oper} {a : Act} {Q : Exit → Act → World → Prop} (hgd : o.guard = none) (s x : Operand) (t : TypeId)
    (ho : o.op = .call { callee := .builtin .append, args := #[s, x], argTypes := #[t, t] })
    (base : Nat) (e : TypeId) (i : TypeInfo) (z : Value) (size bytes : Nat) (ht : P.underlying t = some (.slice e)) (hi : P.info? e = some i) (hz : i.zero = some z)
    (hsize : i.size = size) (hby : i.bytes = bytes) (hzs : z.cells.size = size) (hsz : 0 < size) (hzd : ∀ u ∈ z.cells.toList, noDig u)
    (v : Value) (n : Nat) (xs : List Value) (hs : a.eval s = v) (hown : LRow w base e size v n xs)
    (ad : Addr) (m c : Nat) (news : List Value) (hx : a.eval x = .slice (some ad) m c) (hl : news.length = m * size) (hnews : ∀ j u, news[j]? = some u → w.cell? (ad.add j) = some u) (h1 : ∀ u ∈ news, u.oneCell' = true) (hnd : ∀ u ∈ news, noDig u)
    (hm : 0 < m) (h63 : n + m ≤ maxLen) (hbytes : (n + m) * bytes ≤ 140737488355328) (hbase : base ≤ w.heap.size)
    (h : ∀ g cap w', LRow w' base e size (.slice (some ⟨g, 0, none⟩) (n + m) cap) (n + m) (xs ++ news) → w.grownBy w' v.ownBlock → (v.ownBlock = some g ∨ g = w.heap.size) → wpList P ops Q rest (a.put o.dst (.slice (some ⟨g, 0, none⟩) (n + m) cap)) w') : wpList P ops Q (o :: rest) a w :=
  wpList_plain hgd fun _ hK => wp_append_lrow w s x t ho base e i z size bytes ht hi hz hsize hby hzs hsz hzd v n xs hs hown ad m c news hx hl hnews h1 hnd hm h63 hbytes hbase fun g cap w' h2 h3 h4 => hK _ _ (h g cap w' h2 h3 h4)

/-- At a step of a region that draws its order. -/
theorem step_append_lrow {P : Program} (w : World) {ops : Array Oper} {o : Oper} {a : Act} {K : Act → World → Prop} {Q : Exit → Act → World → Prop} {E : Prop} (hgd : o.guard = none) (s x : Operand) (t : TypeId)
    (ho : o.op = .call { callee := .builtin .append, args := #[s, x], argTypes := #[t, t] })
    (base : Nat) (e : TypeId) (i : TypeInfo) (z : Value) (size bytes : Nat) (ht : P.underlying t = some (.slice e)) (hi : P.info? e = some i) (hz : i.zero = some z)
    (hsize : i.size = size) (hby : i.bytes = bytes) (hzs : z.cells.size = size) (hsz : 0 < size) (hzd : ∀ u ∈ z.cells.toList, noDig u)
    (v : Value) (n : Nat) (xs : List Value) (hs : a.eval s = v) (hown : LRow w base e size v n xs)
    (ad : Addr) (m c : Nat) (news : List Value) (hx : a.eval x = .slice (some ad) m c) (hl : news.length = m * size) (hnews : ∀ j u, news[j]? = some u → w.cell? (ad.add j) = some u) (h1 : ∀ u ∈ news, u.oneCell' = true) (hnd : ∀ u ∈ news, noDig u)
    (hm : 0 < m) (h63 : n + m ≤ maxLen) (hbytes : (n + m) * bytes ≤ 140737488355328) (hbase : base ≤ w.heap.size)
    (h : ∀ g cap w', LRow w' base e size (.slice (some ⟨g, 0, none⟩) (n + m) cap) (n + m) (xs ++ news) → w.grownBy w' v.ownBlock → (v.ownBlock = some g ∨ g = w.heap.size) → K (a.put o.dst (.slice (some ⟨g, 0, none⟩) (n + m) cap)) w') :
    if Region.wanted o (yielded ops a.tmps) = true then Oper.wp P o a w K Q else E := by
  have hw : Region.wanted o (yielded ops a.tmps) = true := by simp [Region.wanted, hgd]
  rw [if_pos hw]
  exact wp_append_lrow w s x t ho base e i z size bytes ht hi hz hsize hby hzs hsz hzd v n xs hs hown ad m c news hx hl hnews h1 hnd hm h63 hbytes hbase h

end Go.Proofs.Ytmfochplnchgcaa

/- THE WALKS OF ratio's NATURAL NUMBERS, part A: cut, word, isOne, cmp. -/
namespace Go.Proofs.Ytmfochplnchgcaa
open Go.RowKit

theorem lv_cut_step (B : Nat) (ds : List Nat) (m : Nat) (hm : m + 1 ≤ ds.length) (h0 : ds.getD m 0 = 0) (h : lv B (ds.take (m + 1)) = lv B ds) : lv B (ds.take m) = lv B ds := by
  rw [lv_take_succ B ds m (by omega), h0] at h; omega

/-- The first m cells, the last of which is not 0, are the number. -/
theorem isNat_take {k : IntKind} {B : Nat} (hB : 2 ≤ B) {w : World} {ds : List Nat} {b off cap : Nat} (hd : Dgs B ds) (h1 : ds.length ≤ cap) (h2 : cap ≤ maxLen) (h3 : b < w.heap.size)
    (h4 : ∀ j, j < ds.length → w.cell? ⟨b, off + j, none⟩ = some (.int k (ds.getD j 0 : Nat))) (m : Nat) (hm : m ≤ ds.length)
    (hl : m = 0 ∨ ds.getD (m - 1) 0 ≠ 0) (hv : lv B (ds.take m) = lv B ds) : IsNat k B w (.slice (some ⟨b, off, none⟩) m cap) (lv B ds) := by
  have hlen : (ds.take m).length = m := by simp; omega
  have hdig : dig B (lv B ds) = ds.take m := by
    rw [← hv]
    refine dig_of hB _ (hd.take m) fun hne => ?_
    have hm0 : m ≠ 0 := by rintro rfl; simp at hne
    have e : (ds.take m).getLast hne = ds.getD (m - 1) 0 := by
      rw [List.getLast_eq_getElem]
      simp [hlen]
      rw [List.getElem?_eq_getElem (by omega)]; rfl
    rw [e]; exact hl.resolve_left hm0
  unfold IsNat
  rw [hdig]
  rcases Nat.eq_zero_or_pos m with rfl | hp
  · exact .inl ⟨by simp, _, _, rfl, h2, by simp⟩
  · refine .inr ⟨by omega, b, off, cap, by rw [hlen], by omega, h2, h3, fun j hj => ?_⟩
    rw [hlen] at hj
    rw [h4 j (by omega)]
    simp [List.getElem?_take, hj]

set_option maxHeartbeats 400000 in
theorem cut_any (ds : List Nat) (v : Value) (w : World) (h : IsRow .u64 w v ds) (hd : Dgs b64 ds) :
    Calls Try.prog 67 #[v] w (RetNatSame .u64 b64 (lv b64 ds) w) := by
  rcases h with ⟨rfl, ao, cap, rfl, h2, h3⟩ | ⟨h0, b, off, cap, rfl, h1, h2, h3, h4⟩
  · go_enter Try.func67, Try.ntmps67
    go_wp2
    refine wp_loop_rounds 1 ?_
    rw [rounds_succ]
    go_wp2
    go_ret
    exact ⟨_, rfl, .inl ⟨rfl, ao, cap, rfl, h2, h3⟩, rfl⟩
  · have H2 := Lib.hid h2
    unfold maxLen at h2
    go_enter Try.func67, Try.ntmps67
    go_wp2
    go_loop [0] (fun s => ∃ m : Nat, m ≤ ds.length ∧ Hid (lv b64 (ds.take m) = lv b64 ds) ∧ s = .slice (some ⟨b, off, none⟩) m cap) (fun s => match s with | .slice _ n _ => n | _ => 0)
    case atStart => exact ⟨ds.length, Nat.le_refl _, by show _ = _; simp, rfl⟩
    case round =>
      obtain ⟨m, hm, hv, rfl⟩ := hrel
      rcases Nat.eq_zero_or_pos m with rfl | hpos
      · go_wp2
        go_ret
        exact ⟨_, rfl, isNat_take b64_two hd h1 H2.out h3 h4 0 (by omega) (.inl rfl) hv.out, rfl⟩
      · obtain ⟨m, rfl⟩ : ∃ m', m = m' + 1 := ⟨m - 1, by omega⟩
        have hc := h4 m (by omega)
        go_wp2
        · have hz : (((ds[m]?.getD 0 : Nat) : Int) == 0) = true := by assumption
          have hz' : ds.getD m 0 = 0 := by simpa using hz
          exact ⟨⟨m, by omega, lv_cut_step _ _ _ hm hz' hv.out, rfl⟩, by simp⟩
        · have hz : (((ds[m]?.getD 0 : Nat) : Int) == 0) = false := by assumption
          have hz' : ds.getD m 0 ≠ 0 := by intro e; simp at e; rw [e] at hz; simp at hz
          go_ret
          exact ⟨_, rfl, isNat_take b64_two hd h1 H2.out h3 h4 (m + 1) (by omega) (.inr hz') hv.out, rfl⟩


theorem dig_isOne {B : Nat} (hB : 2 ≤ B) (n : Nat) : n = 1 ↔ dig B n = [1] := by
  constructor
  · rintro rfl; exact dig_one hB (by omega) (by omega)
  · intro h
    have := lv_dig hB n
    rw [h] at this
    simpa [lv] using this.symm

set_option maxHeartbeats 400000 in
theorem word_any (n : Nat) (w : World) (h : n < b64) : Calls Try.prog 52 #[.int .u64 n] w (RetNat .u64 b64 n w) := by
  go_enter Try.func52, Try.ntmps52
  go_wp2_with fail
  refine (cut_any [n] _ _ (.inr ⟨by simp, w.heap.size, 0, 1, rfl, by simp, by unfold maxLen; omega, by simp, ?_⟩) ?_).mono ?_
  · intro j hj
    obtain rfl : j = 0 := by simpa using hj
    simp
  · exact Dgs.cons h (Dgs.nil _)
  · rintro e w' ⟨v, rfl, hv, rfl⟩
    go_wp2
    go_ret
    exact ⟨_, rfl, by simpa [lv] using hv, (Below.refl _ _).alloc (Nat.le_refl _) _⟩

set_option maxHeartbeats 400000 in
theorem isOne_any (n : Nat) (v : Value) (w : World) (h : IsNat .u64 b64 w v n) :
    Calls Try.prog 64 #[v] w (fun e w' => e = .returned (.bool (decide (n = 1))) ∧ w = w') := by
  have hd := dig_isOne b64_two n
  have hdg := dgs_dig b64_two n
  unfold IsNat at h
  have hn : decide (n = 1) = decide (dig b64 n = [1]) := by simp [hd]
  rw [hn]
  clear hn hd
  generalize dig b64 n = ds at *
  rcases h with ⟨rfl, ao, cap, rfl, h2, h3⟩ | ⟨h0, b, off, cap, rfl, h1, h2, h3, h4⟩
  · go_enter Try.func64, Try.ntmps64
    go_wp2
    go_ret
    exact ⟨by simp, rfl⟩
  · by_cases hl : ds.length = 1
    · obtain ⟨d, rfl⟩ : ∃ d, ds = [d] := by
        match ds, hl with
        | [d], _ => exact ⟨d, rfl⟩
      have hc := h4 0 (by simp)
      simp at hc
      clear h4 h0 h1 hl
      go_enter Try.func64, Try.ntmps64
      go_wp2
      go_ret
      exact ⟨by have : ((d : Int) == 1) = decide (d = 1) := by rw [Bool.eq_iff_iff]; simp; omega
                rw [this]; simp, rfl⟩
    · have hb : ((ds.length : Int) == 1) = false := by simp; omega
      have hne : decide (ds = [1]) = false := by
        simp; rintro rfl; simp at hl
      go_enter Try.func64, Try.ntmps64
      go_wp2
      go_ret
      rw [hne]
      exact ⟨rfl, rfl⟩


/-- The order of two numbers, as the program tells it. -/
def cmpN (a b : Nat) : Int := if a < b then -1 else if b < a then 1 else 0

/-- Two lists of digits of one length: all digits from i on are equal. -/
theorem cmp_all {B : Nat} {a b : List Nat} (hlen : a.length = b.length) (h : a.drop 0 = b.drop 0) : cmpN (lv B a) (lv B b) = 0 := by
  simp at h; subst h; simp [cmpN]
theorem cmp_lss {B : Nat} {a b : List Nat} (ha : Dgs B a) (i : Nat) (hi : i < a.length) (hlen : a.length = b.length)
    (heq : a.drop (i + 1) = b.drop (i + 1)) (hlt : a.getD i 0 < b.getD i 0) : cmpN (lv B a) (lv B b) = -1 := by
  have := lv_lt_of_digit ha i hi hlen heq hlt
  simp [cmpN, this]
theorem cmp_gtr {B : Nat} {a b : List Nat} (hb : Dgs B b) (i : Nat) (hi : i < a.length) (hlen : a.length = b.length)
    (heq : a.drop (i + 1) = b.drop (i + 1)) (hlt : b.getD i 0 < a.getD i 0) : cmpN (lv B a) (lv B b) = 1 := by
  have := lv_lt_of_digit hb i (by omega) hlen.symm heq.symm hlt
  have h2 : ¬ lv B a < lv B b := by omega
  simp [cmpN, this, h2]
theorem drop_step {a b : List Nat} (i : Nat) (hi : i < a.length) (hlen : a.length = b.length) (heq : a.drop (i + 1) = b.drop (i + 1)) (h1 : ¬ a.getD i 0 < b.getD i 0) (h2 : ¬ b.getD i 0 < a.getD i 0) : a.drop i = b.drop i := by
  have e : a.getD i 0 = b.getD i 0 := by omega
  rw [List.drop_eq_getElem_cons hi, List.drop_eq_getElem_cons (by omega : i < b.length), heq]
  simp [hi, (by omega : i < b.length)] at e
  rw [e]
theorem cmpN_len_lt {B : Nat} (hB : 2 ≤ B) {m n : Nat} (h : (dig B m).length < (dig B n).length) : cmpN m n = -1 := by
  simp [cmpN, lt_of_dig_length hB h]
theorem cmpN_len_gt {B : Nat} (hB : 2 ≤ B) {m n : Nat} (h : (dig B n).length < (dig B m).length) : cmpN m n = 1 := by
  have := lt_of_dig_length hB h
  have h2 : ¬ m < n := by omega
  simp [cmpN, this, h2]

/-- The world but for draws. -/
def Quiet (w w' : World) : Prop := ∃ n, w' = w.drewN n
theorem Quiet.refl (w : World) : Quiet w w := ⟨0, rfl⟩
theorem Quiet.step {w w' : World} (h : Quiet w w') (n : Nat) : Quiet w (w'.drewN n) := by
  obtain ⟨m, rfl⟩ := h; exact ⟨m + n, by simp⟩
theorem Quiet.below {w w' : World} (h : Quiet w w') : Below w.heap.size w w' := by
  obtain ⟨m, rfl⟩ := h; exact ⟨rfl, rfl, rfl, Nat.le_refl _, fun _ _ => rfl⟩

theorem quiet_at {P : Program} {f : FuncId} {args : Array Value} {w : World} {n a : Nat} {v : Value}
    (h : Calls P f args (w.drewN (n + a)) fun e w' => e = .returned v ∧ Quiet (w.drewN (n + a)) w') : Calls P f args (w.drewN (n + a)) fun e w'' => e = .returned v ∧ ∃ m, w'' = w.drewN (n + m) :=
  h.mono fun _ _ ⟨he, m, hm⟩ => ⟨he, a + m, by rw [hm, World.drewN_drewN, Nat.add_assoc]⟩
theorem quiet_at0 {P : Program} {f : FuncId} {args : Array Value} {w : World} {a : Nat} {v : Value}
    (h : Calls P f args (w.drewN a) fun e w' => e = .returned v ∧ Quiet (w.drewN a) w') : Calls P f args (w.drewN a) fun e w'' => e = .returned v ∧ ∃ m, w'' = w.drewN m :=
  h.mono fun _ _ ⟨he, m, hm⟩ => ⟨he, a + m, by rw [hm, World.drewN_drewN]⟩

def RetIntQ (n : Int) (w : World) (e : Ending) (w' : World) : Prop := e = .returned (.int .i64 n) ∧ Quiet w w'


set_option maxHeartbeats 1000000 in
theorem cmp_row (da db : List Nat) (va vb : Value) (w : World) (r : Int) (ha : IsRow .u64 w va da) (hb : IsRow .u64 w vb db) (hda : Dgs b64 da) (hdb : Dgs b64 db)
    (h1 : da.length < db.length → r = -1) (h2 : db.length < da.length → r = 1) (h3 : da.length = db.length → cmpN (lv b64 da) (lv b64 db) = r) :
    Calls Try.prog 43 #[va, vb] w (RetIntQ r w) := by
  have hla := ha.len
  have hlb := hb.len
  unfold maxLen at hla hlb
  obtain ⟨aa, ca, rfl⟩ : ∃ aa ca, va = .slice aa da.length ca := by
    rcases ha with ⟨rfl, ao, cap, rfl, _⟩ | ⟨_, b, off, cap, rfl, _⟩ <;> exact ⟨_, _, rfl⟩
  obtain ⟨ab, cb, rfl⟩ : ∃ ab cb, vb = .slice ab db.length cb := by
    rcases hb with ⟨rfl, ao, cap, rfl, _⟩ | ⟨_, b, off, cap, rfl, _⟩ <;> exact ⟨_, _, rfl⟩
  rcases Nat.lt_trichotomy da.length db.length with hlt | heq | hgt
  · have hr := h1 hlt
    subst hr
    have hne : ((da.length : Int) != db.length) = true := by rw [bne_iff_ne]; omega
    clear h1 h2 h3 ha hb
    go_enter Try.func43, Try.ntmps43
    go_wp2
    go_ret
    exact ⟨rfl, .refl _⟩
  · have H3 := Lib.hid (h3 heq)
    clear h1 h2 h3
    have Heq := Lib.hid heq
    have hne : ((da.length : Int) != db.length) = false := by simp; omega
    have hle : da.length ≤ db.length := by omega
    have hge : db.length ≤ da.length := by omega
    clear heq
    rcases Nat.eq_zero_or_pos da.length with h0 | hpos
    · have hr : r = 0 := by
        rw [← H3.out]
        exact cmp_all Heq.out (by rw [List.eq_nil_of_length_eq_zero h0, List.eq_nil_of_length_eq_zero (by omega : db.length = 0)])
      have h0' : db.length = 0 := by omega
      clear H3 Heq ha hb
      subst hr
      have e0 : da.length = 0 := h0
      rw [e0, h0'] 
      rw [e0, h0'] at hne
      clear h0 h0' e0 hle hge hla hlb hda hdb
      go_enter Try.func43, Try.ntmps43
      go_wp2
      refine wp_loop_rounds 1 ?_
      rw [rounds_succ]
      go_wp2
      go_ret
      exact ⟨rfl, .refl _⟩
    · rcases ha with ⟨rfl, _⟩ | ⟨_, b, off, cap, hv, _, _, hba, hca⟩
      · simp at hpos
      rcases hb with ⟨rfl, _⟩ | ⟨_, b', off', cap', hv', _, _, hbb, hcb⟩
      · simp only [List.length_nil] at hle; omega
      simp only [Value.slice.injEq] at hv hv'
      obtain ⟨rfl, _, rfl⟩ := hv
      obtain ⟨rfl, _, rfl⟩ := hv'
      go_enter Try.func43, Try.ntmps43
      go_wp2
      go_loopw [5] (fun s wr => ∃ i : Nat, i ≤ da.length ∧ Hid (da.drop i = db.drop i) ∧ s = .int .i64 ((i : Int) - 1) ∧ Quiet w wr) (fun s _ => ((intOf s) + 1).toNat)
      case atStart => exact ⟨da.length, Nat.le_refl _, by show _ = _; simp; omega, by go_num, .refl _⟩
      case round =>
        obtain ⟨i, hi, hdr, rfl, nq, rfl⟩ := hrel
        rcases Nat.eq_zero_or_pos i with rfl | hip
        · go_wp2
          go_ret
          have := cmp_all (B := b64) Heq.out hdr.out
          rw [H3.out] at this
          subst this
          exact ⟨rfl, nq, rfl⟩
        · obtain ⟨j, rfl⟩ : ∃ j, i = j + 1 := ⟨i - 1, by omega⟩
          have hc1 := hca j (by omega)
          have hc2 := hcb j (by omega)
          have e1 : ((j + 1 : Nat) : Int) - 1 = (j : Int) := by omega
          rw [e1]
          have hj1 : (j : Int) < da.length := by omega
          have hj2 : (j : Int) < db.length := by omega
          go_wp2
          go_quiet (fail)
          go_wp2
          · have hlt : da[j]?.getD 0 < db[j]?.getD 0 := by assumption
            have := cmp_lss hda j (by omega) Heq.out hdr.out (by simpa using hlt)
            rw [H3.out] at this
            subst this
            go_ret
            exact ⟨rfl, Quiet.step ⟨_, rfl⟩ _⟩
          · have hlt : ¬ da[j]?.getD 0 < db[j]?.getD 0 := by assumption
            go_quiet (fail)
            go_wp2
            · have hgt : db[j]?.getD 0 < da[j]?.getD 0 := by assumption
              have := cmp_gtr hdb j (by omega) Heq.out hdr.out (by simpa using hgt)
              rw [H3.out] at this
              subst this
              go_ret
              exact ⟨rfl, Quiet.step (Quiet.step ⟨_, rfl⟩ _) _⟩
            · have hgt : ¬ db[j]?.getD 0 < da[j]?.getD 0 := by assumption
              go_roundw
              case rel => exact ⟨j, by omega, drop_step j (by omega) Heq.out hdr.out (by simpa using hlt) (by simpa using hgt), by go_num, _, rfl⟩
              case measure => simp [intOf]
  · have hr := h2 hgt
    subst hr
    have hne : ((da.length : Int) != db.length) = true := by rw [bne_iff_ne]; omega
    clear h1 h2 h3 ha hb
    go_enter Try.func43, Try.ntmps43
    go_wp2
    go_ret
    exact ⟨rfl, .refl _⟩


theorem cmp_any (m n : Nat) (va vb : Value) (w : World) (ha : IsNat .u64 b64 w va m) (hb : IsNat .u64 b64 w vb n) :
    Calls Try.prog 43 #[va, vb] w (RetIntQ (cmpN m n) w) := by
  refine cmp_row _ _ va vb w (cmpN m n) ha hb (dgs_dig b64_two m) (dgs_dig b64_two n) (cmpN_len_lt b64_two) (cmpN_len_gt b64_two) ?_
  rw [lv_dig b64_two, lv_dig b64_two]
  exact fun _ => rfl

end Go.Proofs.Ytmfochplnchgcaa

/- THE WALKS OF THE REFERENCE's NATURAL NUMBERS (base 2^32), part A: Order, cut, Nat. -/
namespace Go.Proofs.Ytmfochplnchgcaa
open Go.RowKit

theorem info_u32 : (Try.prog.info? 138).map (fun i => (i.zero, i.size, i.bytes)) = some (some (.int .u32 0), 1, 4) := by kernel_rfl

/-- A number that the call made: its row is no older than the call. -/
def RetNatNew (k : IntKind) (B n : Nat) (w : World) (e : Ending) (w' : World) : Prop :=
  ∃ v, e = .returned v ∧ IsNat k B w' v n ∧ Below w.heap.size w w' ∧ ∀ g, v.ownBlock = some g → w.heap.size ≤ g
def RetNatOwn (k : IntKind) (B n : Nat) (v0 : Value) (w : World) (e : Ending) (w' : World) : Prop :=
  ∃ v, e = .returned v ∧ IsNat k B w v n ∧ w = w' ∧ v.ownBlock = v0.ownBlock
theorem RetNatNew.old {k : IntKind} {B n : Nat} {w : World} {e : Ending} {w' : World} (h : RetNatNew k B n w e w') : RetNat k B n w e w' := by
  obtain ⟨v, h1, h2, h3, _⟩ := h
  exact ⟨v, h1, h2, h3⟩
theorem IsRow.other {k : IntKind} {w : World} {v : Value} {ds : List Nat} (h : IsRow k w v ds) (a : Addr) (ha : v.ownBlock ≠ some a.block) (u : Value) : IsRow k (w.setCell a u) v ds := by
  rcases h with ⟨rfl, ao, cap, rfl, h2, h3⟩ | ⟨h0, b, off, cap, rfl, h1, h2, h3, h4⟩
  · exact .inl ⟨rfl, ao, cap, rfl, h2, h3⟩
  · refine .inr ⟨h0, b, off, cap, rfl, h1, h2, by simpa using h3, fun j hj => ?_⟩
    rw [← h4 j hj]
    exact World.cell?_setCell_other _ _ _ _ (fun e => ha (by rw [e]; rfl))

end Go.Proofs.Ytmfochplnchgcaa

/- THE WALKS OF ratio's NATURAL NUMBERS, part B: times. -/
namespace Go.Proofs.Ytmfochplnchgcaa
open Go.RowKit

theorem info_u64 : (Try.prog.info? 95).map (fun i => (i.zero, i.size, i.bytes)) = some (some (.int .u64 0), 1, 8) := by kernel_rfl

/-- math/bits.Mul64, Add64, Sub64, their base behind the name. -/
theorem mul64_any (x y : Nat) (w : World) (hx : x < b64) (hy : y < b64) :
    Calls Try.prog 65 #[.int .u64 x, .int .u64 y] w fun e w' => e = .returned (.tuple #[.int .u64 (mulHi x y : Nat), .int .u64 (mulLo x y : Nat)]) ∧ w = w' := by
  unfold mulHi mulLo
  unfold b64 at *
  exact (Try.bits_Mul64 x y hx hy w).mono fun e w' ⟨h1, h2⟩ => ⟨h1, h2.symm⟩

theorem run_Add64 (x y c : Nat) (hc : c ≤ 1) (w : World) :
    (callFunc 66 #[.int .u64 x, .int .u64 y, .int .u64 c]).run Try.prog w = .ok (.value (.tuple #[.int .u64 (addLo x y c : Nat), .int .u64 (addHi x y c : Nat)])) w := by
  unfold addLo addHi b64
  rw [run_callFunc_extern Try.func66 (by kernel_rfl) (by kernel_rfl) (by kernel_rfl) (e := add64Entry) (by kernel_rfl), run_add64 x y c (by omega) (by omega) (by omega) (by omega)]
  simp only [Result.andThen]
  congr 5 <;> omega
theorem run_Add64_0 (x y : Nat) (w : World) :
    (callFunc 66 #[.int .u64 x, .int .u64 y, .int .u64 0]).run Try.prog w = .ok (.value (.tuple #[.int .u64 (addLo x y 0 : Nat), .int .u64 (addHi x y 0 : Nat)])) w :=
  run_Add64 x y 0 (by omega) w
theorem run_Sub64 (x y c : Nat) (hc : c ≤ 1) (w : World) :
    (callFunc 69 #[.int .u64 x, .int .u64 y, .int .u64 c]).run Try.prog w = .ok (.value (.tuple #[.int .u64 (subLo x y c : Nat), .int .u64 (subHi x y c : Nat)])) w := by
  have e : subLo x y c = (x + 18446744073709551616 - y - c) % 18446744073709551616 := by unfold subLo b64; rw [Nat.add_comm]
  rw [e]
  unfold subHi
  rw [run_callFunc_extern Try.func69 (by kernel_rfl) (by kernel_rfl) (by kernel_rfl) (e := sub64Entry) (by kernel_rfl), run_sub64 x y c hc]
  rfl

/-- One digit of a product: what is stored, and what is carried. -/
theorem mul_step (o c x y : Nat) (ho : o < b64) (hc : c < b64) (hx : x < b64) (hy : y < b64) :
    addLo (addLo (mulLo x y) o 0) c 0 + b64 * (mulHi x y + addHi (mulLo x y) o 0 + addHi (addLo (mulLo x y) o 0) c 0) = x * y + o + c ∧
    mulHi x y + addHi (mulLo x y) o 0 + addHi (addLo (mulLo x y) o 0) c 0 < b64 ∧ mulHi x y + addHi (mulLo x y) o 0 < b64 := by
  have e : addLo (addLo (mulLo x y) o 0) c 0 + b64 * (mulHi x y + addHi (mulLo x y) o 0 + addHi (addLo (mulLo x y) o 0) c 0) = x * y + o + c := by
    have h1 := mul_eq x y
    have h2 := add_eq (mulLo x y) o 0
    have h3 := add_eq (addLo (mulLo x y) o 0) c 0
    rw [Nat.mul_add, Nat.mul_add]
    omega
  have hm : x * y + o + c < b64 * b64 := by
    have h1 : x ≤ b64 - 1 := by omega
    have h2 : y ≤ b64 - 1 := by omega
    have h3 : x * y ≤ (b64 - 1) * (b64 - 1) := Nat.mul_le_mul h1 h2
    have hp := b64_pos
    generalize b64 = B at *
    obtain ⟨b, rfl⟩ : ∃ b, B = b + 1 := ⟨B - 1, by omega⟩
    simp only [Nat.add_sub_cancel] at h3
    have e2 : (b + 1) * (b + 1) = b * b + b + b + 1 := by rw [Nat.add_mul, Nat.mul_add]; omega
    omega
  have hq : mulHi x y + addHi (mulLo x y) o 0 + addHi (addLo (mulLo x y) o 0) c 0 < b64 := by
    rcases Nat.lt_or_ge (mulHi x y + addHi (mulLo x y) o 0 + addHi (addLo (mulLo x y) o 0) c 0) b64 with h | h
    · exact h
    · have := Nat.mul_le_mul_left b64 h
      omega
  exact ⟨e, hq, Nat.lt_of_le_of_lt (Nat.le_add_right _ _) hq⟩

/-- The inner loop's law: after k digits of b. -/
structure MulIn (a b : List Nat) (i k : Nat) (o : List Nat) (c : Nat) : Prop where
  len : o.length = a.length + b.length
  dgs : Dgs b64 o
  car : c < b64
  val : lv b64 o + c * b64 ^ (i + k) = lv b64 (a.take i) * lv b64 b + a.getD i 0 * b64 ^ i * lv b64 (b.take k)
  top : ∀ j, i + b.length ≤ j → o.getD j 0 = 0

structure MulOut (a b : List Nat) (i : Nat) (o : List Nat) : Prop where
  len : o.length = a.length + b.length
  dgs : Dgs b64 o
  val : lv b64 o = lv b64 (a.take i) * lv b64 b
  top : ∀ j, i + b.length ≤ j → o.getD j 0 = 0

theorem MulOut.start (a b : List Nat) : MulOut a b 0 (List.replicate (a.length + b.length) 0) :=
  ⟨by simp, Dgs.replicate b64_pos _, by simp [lv_replicate, lv], fun j _ => by simp [List.getElem?_replicate]; split <;> rfl⟩

theorem MulOut.inner {a b : List Nat} {i : Nat} {o : List Nat} (h : MulOut a b i o) : MulIn a b i 0 o 0 :=
  ⟨h.len, h.dgs, b64_pos, by simp [h.val, lv], h.top⟩

theorem MulIn.step {a b : List Nat} {i k : Nat} {o : List Nat} {c : Nat} (h : MulIn a b i k o c) (_ha : Dgs b64 a) (_hb : Dgs b64 b) (hi : i < a.length) (hk : k < b.length) (lo hi' : Nat)
    (e : lo + b64 * hi' = a.getD i 0 * b.getD k 0 + o.getD (i + k) 0 + c) (hlo : lo < b64) (hhi : hi' < b64) : MulIn a b i (k + 1) (o.set (i + k) lo) hi' := by
  refine ⟨by simpa using h.len, h.dgs.set _ _ hlo, hhi, ?_, fun j hj => ?_⟩
  · have h1 := lv_set b64 o (i + k) lo (by rw [h.len]; omega)
    have h2 := h.val
    rw [lv_take_succ b64 b k hk]
    have h3 : b64 ^ (i + (k + 1)) = b64 * b64 ^ (i + k) := by rw [← Nat.add_assoc, Nat.pow_succ, Nat.mul_comm]
    rw [h3, Nat.mul_add, ← Nat.add_assoc, ← h2]
    have h4 : hi' * (b64 * b64 ^ (i + k)) = b64 ^ (i + k) * (b64 * hi') := by ac_rfl
    have h5 : a.getD i 0 * b64 ^ i * (b64 ^ k * b.getD k 0) = b64 ^ (i + k) * (a.getD i 0 * b.getD k 0) := by
      rw [Nat.pow_add]
      ac_rfl
    have h6 : c * b64 ^ (i + k) = b64 ^ (i + k) * c := Nat.mul_comm _ _
    rw [h4, h5, h6]
    have h7 : b64 ^ (i + k) * (lo + b64 * hi') = b64 ^ (i + k) * (a.getD i 0 * b.getD k 0 + o.getD (i + k) 0 + c) := by rw [e]
    simp only [Nat.mul_add] at h7
    omega
  · have := h.top j hj
    rw [List.getD_eq_getElem?_getD] at *
    rw [List.getElem?_set_ne (by omega)]
    exact this

theorem MulIn.done {a b : List Nat} {i : Nat} {o : List Nat} {c : Nat} (h : MulIn a b i b.length o c) (hi : i < a.length) : MulOut a b (i + 1) (o.set (i + b.length) c) := by
  refine ⟨by simpa using h.len, h.dgs.set _ _ h.car, ?_, fun j hj => ?_⟩
  · have h1 := lv_set b64 o (i + b.length) c (by rw [h.len]; omega)
    rw [h.top _ (Nat.le_refl _)] at h1
    have h2 := h.val
    rw [List.take_length] at h2
    rw [lv_take_succ b64 a i hi, Nat.add_mul]
    have h3 : c * b64 ^ (i + b.length) = b64 ^ (i + b.length) * c := Nat.mul_comm _ _
    have h4 : a.getD i 0 * b64 ^ i * lv b64 b = b64 ^ i * a.getD i 0 * lv b64 b := by rw [Nat.mul_comm (a.getD i 0)]
    omega
  · have := h.top j (by omega)
    rw [List.getD_eq_getElem?_getD] at *
    rw [List.getElem?_set_ne (by omega)]
    exact this


set_option maxRecDepth 100000 in
set_option maxHeartbeats 1000000 in
theorem times_any (m n : Nat) (va vb : Value) (w : World) (ha : IsNat .u64 b64 w va m) (hb : IsNat .u64 b64 w vb n) (hsz : (dig b64 m).length + (dig b64 n).length ≤ 1099511627776) :
    Calls Try.prog 40 #[va, vb] w (RetNat .u64 b64 (m * n) w) := by
  by_cases hm : m = 1
  · have hd : decide (m = 1) = true := by simp [hm]
    have Hm := Lib.hid hm
    clear hm
    go_enter Try.func40, Try.ntmps40
    go_wp2_with fail
    refine (isOne_any m va _ ha).mono ?_
    rw [hd]
    rintro e w' ⟨rfl, rfl⟩
    go_wp2_with fail
    go_ret
    exact ⟨_, rfl, by rw [Hm.out, Nat.one_mul]; exact hb, Below.refl _ _⟩
  · have hd : decide (m = 1) = false := by simp [hm]
    clear hm
    by_cases hn : n = 1
    · have hd2 : decide (n = 1) = true := by simp [hn]
      have Hn := Lib.hid hn
      clear hn
      go_enter Try.func40, Try.ntmps40
      go_wp2_with fail
      refine (isOne_any m va _ ha).mono ?_
      rw [hd]
      rintro e w' ⟨rfl, rfl⟩
      go_wp2_with fail
      refine (isOne_any n vb _ hb).mono ?_
      rw [hd2]
      rintro e w' ⟨rfl, rfl⟩
      go_wp2_with fail
      go_ret
      exact ⟨_, rfl, by rw [Hn.out, Nat.mul_one]; exact ha, Below.refl _ _⟩
    · have hd2 : decide (n = 1) = false := by simp [hn]
      clear hn
      obtain ⟨aa, ca, rfl, hA⟩ := IsRow.opened ha
      obtain ⟨ab, cb, rfl, hB⟩ := IsRow.opened hb
      have hda := dgs_dig b64_two m
      have hdb := dgs_dig b64_two n
      have hva := lv_dig b64_two m
      have hvb := lv_dig b64_two n
      have Hva := Lib.hid hva
      have Hvb := Lib.hid hvb
      have Ha := Lib.hid ha
      have Hb := Lib.hid hb
      clear hva hvb ha hb
      generalize dig b64 m = da at *
      generalize dig b64 n = db at *
      obtain ⟨i0, hi, hz0, hz1, hz2⟩ := info_parts info_u64
      go_enter Try.func40, Try.ntmps40
      go_wp2_with fail
      refine (isOne_any m _ _ Ha.out).mono ?_
      rw [hd]
      rintro e w' ⟨rfl, rfl⟩
      go_wp2_with fail
      refine (isOne_any n _ _ Hb.out).mono ?_
      rw [hd2]
      rintro e w' ⟨rfl, rfl⟩
      go_wp2_with (at_make; refine wpList_make_full _ rfl _ _ 54 rfl w.heap.size 95 i0 (.int .u64 0) 1 Try.underlying54 hi hz0 hz1 _ _ _ _ (da.length + db.length) rfl rfl (by omega) (by omega) (by rw [hz2]; omega) (by unfold maxLen; omega) (by omega) ?_)
      intro w1 hown hgrow
      have ho := Own.of_made hown
      have hbel := (Below.refl w.heap.size w).grown hgrow (Nat.le_refl _) (by simp)
      clear hown hgrow
      clear hi hz0 hz1 hz2
      go_wp2_with fail
      go_loopw [28] (fun c wr => ∃ (i : Nat) (o : List Nat), i ≤ da.length ∧ c = .int .i64 i ∧ Own wr w.heap.size .u64 95 o ∧ Hid (MulOut da db i o) ∧ Below w.heap.size w wr)
        (fun c _ => da.length - (intOf c).toNat)
      case atStart => exact ⟨0, _, Nat.zero_le _, rfl, ho, MulOut.start da db, hbel⟩
      case round =>
        clear ho hbel
        obtain ⟨i, o, hile, rfl, ho, hM, hbel⟩ := hrel
        by_cases hlt : i < da.length
        · obtain ⟨b, off, rfl, hbA, hcA⟩ := hA (by omega)
          have hca : wr.cell? ⟨b, off + i, none⟩ = some (.int .u64 (da.getD i 0 : Nat)) := (hbel.cell (p := ⟨b, off + i, none⟩) hbA).trans (hcA i hlt)
          obtain ⟨x, hx⟩ : ∃ x, x = da.getD i 0 := ⟨_, rfl⟩
          rw [← hx] at hca
          have Hx := Lib.hid hx
          have Hxlt : Hid (x < b64) := by show x < b64; rw [hx]; exact hda.getD b64_pos i
          clear hx
          go_wp2_with fail
          obtain ⟨wo, hwo⟩ : ∃ wo : World, wo = wr := ⟨_, rfl⟩
          subst hwo
          go_loopw [8, 35] (fun cv kv wr => ∃ (k : Nat) (o : List Nat) (c : Nat), k ≤ db.length ∧ kv = .int .i64 k ∧ cv = .int .u64 c ∧ Own wr w.heap.size .u64 95 o ∧ Hid (MulIn da db i k o c) ∧ Below w.heap.size w wr)
            (fun _ kv _ => db.length - (intOf kv).toNat)
          case atStart => exact ⟨0, o, 0, Nat.zero_le _, rfl, rfl, ho, hM.out.inner, hbel⟩
          case round =>
            clear hca hM ho hbel
            obtain ⟨k, o, c, hkl, rfl, rfl, ho, hM, hbel⟩ := hrel
            by_cases hlk : k < db.length
            · obtain ⟨b', off', rfl, hbB, hcB⟩ := hB (by omega)
              have hcb : wr.cell? ⟨b', off' + k, none⟩ = some (.int .u64 (db.getD k 0 : Nat)) := (hbel.cell (p := ⟨b', off' + k, none⟩) hbB).trans (hcB k hlk)
              obtain ⟨y, hy⟩ : ∃ y, y = db.getD k 0 := ⟨_, rfl⟩
              rw [← hy] at hcb
              have Hy := Lib.hid hy
              have Hylt : Hid (y < b64) := by show y < b64; rw [hy]; exact hdb.getD b64_pos k
              clear hy
              have hco := ho.cell (i + k) (by rw [hM.out.len]; omega)
              have hfo := ho.frozen (i + k)
              obtain ⟨z, hz⟩ : ∃ z, z = o.getD (i + k) 0 := ⟨_, rfl⟩
              rw [← hz] at hco
              have Hz := Lib.hid hz
              have Hzlt : Hid (z < b64) := by show z < b64; rw [hz]; exact hM.out.dgs.getD b64_pos _
              clear hz
              go_wp2_with fail
              refine (mul64_any x y _ Hxlt.out Hylt.out).mono ?_
              have hadd := run_Add64_0
              have hstep := mul_step z c x y Hzlt.out hM.out.car Hxlt.out Hylt.out
              unfold b64 at hstep
              have hb1 := hstep.2.1
              have hb2 := hstep.2.2
              clear hstep
              rintro e w' ⟨rfl, rfl⟩
              go_wp2_with fail
              have hstep := mul_step z c x y Hzlt.out hM.out.car Hxlt.out Hylt.out
              refine ⟨⟨k + 1, _, mulHi x y + addHi (mulLo x y) z 0 + addHi (addLo (mulLo x y) z 0) c 0, by omega, by go_num, by go_num, ho.store _ _, ?_, hbel.setCell (p := ⟨w.heap.size, i + k, none⟩) (Nat.le_refl _) _⟩, by simp [intOf]; omega⟩
              refine hM.out.step hda hdb hlt hlk _ _ ?_ (addLo_lt _ _ _) hstep.2.1
              rw [hstep.1, Hx.out, Hy.out, Hz.out]
            · obtain rfl : k = db.length := by omega
              have hco := ho.cell (i + db.length) (by rw [hM.out.len]; omega)
              have hfo := ho.frozen (i + db.length)
              go_wp2_with fail
              refine ⟨⟨i + 1, _, by omega, by go_num, ho.store _ _, hM.out.done hlt, hbel.setCell (p := ⟨w.heap.size, i + db.length, none⟩) (Nat.le_refl _) _⟩, by simp [intOf]; omega⟩
        · obtain rfl : i = da.length := by omega
          have hlen := Lib.hid hM.out.len
          go_wp2_with fail
          have hrow := ho.isRow (by unfold maxLen; rw [hlen.out]; omega)
          rw [hlen.out] at hrow
          refine (cut_any o _ _ hrow hM.out.dgs).mono ?_
          rintro e w' ⟨v, rfl, hv, rfl⟩
          go_wp2_with fail
          go_ret
          refine ⟨v, rfl, ?_, hbel⟩
          have := hM.out.val
          rw [List.take_length, Hva.out, Hvb.out] at this
          rw [← this]
          exact hv

end Go.Proofs.Ytmfochplnchgcaa
