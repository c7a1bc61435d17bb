/- Part f of the lemmas and walks. -/
import Derived.Laws.OwnMore
import Derived.Test.YtkdcgkafjkklcaaGa
import Derived.Test.YtkdcgkafjkklcaaGc
import Derived.Test.YtkdcgkafjkklcaaGd

/- DECIMAL DIGITS: the plain part. -/
namespace Go.Proofs.Ytkdcgkafjkklcaa

theorem ten_two : 2 ≤ 10 := by omega
/-- The byte of a decimal digit. -/
def chD (d : Nat) : UInt8 := UInt8.ofNat (48 + d)
/-- The last m decimal digits, and all of them; none of 0. -/
def decP (n m : Nat) : List UInt8 := ((dig 10 n).take m).reverse.map chD
def decL (n : Nat) : List UInt8 := (dig 10 n).reverse.map chD
/-- The decimal text of a natural number. -/
def decT (n : Nat) : List UInt8 := if n = 0 then [48] else decL n

theorem dig_drop {B : Nat} (hB : 2 ≤ B) : ∀ (k n : Nat), (dig B n).drop k = dig B (n / B ^ k)
  | 0, n => by simp
  | k + 1, n => by
    by_cases h : n = 0
    · subst h; simp [dig_zero]
    · rw [dig_pos hB h, List.drop_succ_cons, dig_drop hB k, Nat.div_div_eq_div_mul, Nat.pow_succ, Nat.mul_comm B]
theorem dig_length_gt {B : Nat} (hB : 2 ≤ B) (k n : Nat) : k < (dig B n).length ↔ n / B ^ k ≠ 0 := by
  rw [Ne, ← dig_nil_iff hB, ← dig_drop hB, List.drop_eq_nil_iff]
  omega
theorem dig_getD {B : Nat} (hB : 2 ≤ B) (k n : Nat) : (dig B n).getD k 0 = n / B ^ k % B := by
  by_cases h : n / B ^ k = 0
  · have := (not_congr (dig_length_gt hB k n)).2 (fun hne => hne h)
    rw [h, List.getD_eq_getElem?_getD, List.getElem?_eq_none (by omega)]
    simp
  · have hl := (dig_length_gt hB k n).2 h
    have e := dig_drop hB k n
    rw [dig_pos hB h, List.drop_eq_getElem_cons hl] at e
    rw [List.getD_eq_getElem?_getD, List.getElem?_eq_getElem hl]
    exact (List.cons.inj e).1
theorem decP_zero (n : Nat) : decP n 0 = [] := by simp [decP]
theorem decP_step (n m : Nat) (h : n / 10 ^ m ≠ 0) : decP n (m + 1) = chD (n / 10 ^ m % 10) :: decP n m := by
  have hl := (dig_length_gt ten_two m n).2 h
  have e := dig_getD ten_two m n
  rw [List.getD_eq_getElem?_getD, List.getElem?_eq_getElem hl] at e
  unfold decP
  rw [List.take_succ_eq_append_getElem hl, List.reverse_append]
  simp at e ⊢
  rw [e]
theorem decP_all (n m : Nat) (h : n / 10 ^ m = 0) : decP n m = decL n := by
  have := (not_congr (dig_length_gt ten_two m n)).2 (fun hne => hne h)
  unfold decP decL
  rw [List.take_of_length_le (by omega)]
theorem decP_length (n m : Nat) (h : m = 0 ∨ n / 10 ^ (m - 1) ≠ 0) : (decP n m).length = m := by
  rcases h with rfl | h
  · simp [decP]
  · rcases Nat.eq_zero_or_pos m with rfl | hp
    · simp [decP]
    · have := (dig_length_gt ten_two (m - 1) n).2 h
      simp [decP]
      omega
theorem decL_zero : decL 0 = [] := rfl
theorem decL_length (n : Nat) : (decL n).length = (dig 10 n).length := by simp [decL]
theorem decL_nil (n : Nat) : decL n = [] ↔ n = 0 := by
  rw [← dig_nil_iff ten_two n]
  unfold decL
  simp
theorem lv_inj {B : Nat} : ∀ {a b : List Nat}, Dgs B a → Dgs B b → a.length = b.length → lv B a = lv B b → a = b
  | [], [], _, _, _, _ => rfl
  | x :: a, y :: b, ha, hb, hl, hv => by
    rw [lv_cons, lv_cons] at hv
    have hx := ha.head
    have hy := hb.head
    have e1 : x = y := by
      have h1 : (x + B * lv B a) % B = x := by rw [Nat.add_mul_mod_self_left, Nat.mod_eq_of_lt hx]
      have h2 : (y + B * lv B b) % B = y := by rw [Nat.add_mul_mod_self_left, Nat.mod_eq_of_lt hy]
      rw [← h1, ← h2, hv]
    subst e1
    have e2 : lv B a = lv B b := Nat.eq_of_mul_eq_mul_left (show 0 < B by omega) (Nat.add_left_cancel hv)
    rw [lv_inj ha.tail hb.tail (by simpa using hl) e2]
theorem dig_take {B : Nat} (hB : 2 ≤ B) (k n : Nat) (h : n / B ^ k ≠ 0) : (dig B n).take k = dig B (n % B ^ k) ++ List.replicate (k - (dig B (n % B ^ k)).length) 0 := by
  have hl := (dig_length_gt hB k n).2 h
  have hp : 0 < B ^ k := Nat.pow_pos (by omega)
  have hm := dig_length_le hB k (n % B ^ k) (Nat.mod_lt _ hp)
  have htk : ((dig B n).take k).length = k := by simp; omega
  refine lv_inj ((dgs_dig hB n).take k) ((dgs_dig hB _).append (Dgs.replicate (by omega) _)) (by simp; omega) ?_
  have hv := lv_take_drop B (dig B n) k (by omega)
  have ht := lv_lt ((dgs_dig hB n).take k)
  rw [lv_dig hB, dig_drop hB, lv_dig hB] at hv
  rw [htk] at ht
  have e : n % B ^ k = lv B ((dig B n).take k) := by
    have h1 : n % B ^ k = (lv B ((dig B n).take k) + B ^ k * (n / B ^ k)) % B ^ k := by rw [← hv]
    rw [h1, Nat.add_mul_mod_self_left, Nat.mod_eq_of_lt ht]
  rw [lv_append, lv_replicate, lv_dig hB, Nat.mul_zero, Nat.add_zero, e]
/-- The digits of a number below 10^k, with zeros ahead. -/
def decZ (k n : Nat) : List UInt8 := List.replicate (k - (decL n).length) 48 ++ decL n
theorem decL_split (k n : Nat) (h : n / 10 ^ k ≠ 0) : decL n = decL (n / 10 ^ k) ++ decZ k (n % 10 ^ k) := by
  have e : dig 10 n = (dig 10 n).take k ++ dig 10 (n / 10 ^ k) := by
    rw [← dig_drop ten_two, List.take_append_drop]
  unfold decL decZ
  rw [e, dig_take ten_two k n h, decL_length]
  simp [decL, chD, List.map_reverse]
/-- The parts of 19 digits, the least one first. -/
def decParts : Nat → Nat → List (List UInt8)
  | 0, _ => []
  | f + 1, n => if n = 0 then [] else (if n / 10 ^ 19 = 0 then decL n else decZ 19 (n % 10 ^ 19)) :: decParts f (n / 10 ^ 19)
theorem decParts_flat : ∀ (f n : Nat), n < 10 ^ (19 * f) → (decParts f n).reverse.flatten = decL n
  | 0, n, h => by
    have : n = 0 := by simpa using h
    subst this
    rfl
  | f + 1, n, h => by
    unfold decParts
    by_cases h0 : n = 0
    · subst h0; rfl
    · rw [if_neg h0]
      have hlt : n / 10 ^ 19 < 10 ^ (19 * f) := by
        rw [Nat.div_lt_iff_lt_mul (Nat.pow_pos (by omega)), ← Nat.pow_add]
        rw [show 19 * f + 19 = 19 * (f + 1) by omega]
        exact h
      have ih := decParts_flat f _ hlt
      rw [List.reverse_cons, List.flatten_append, ih]
      by_cases h1 : n / 10 ^ 19 = 0
      · rw [if_pos h1, h1]; simp [decL_zero]
      · rw [if_neg h1, decL_split 19 n h1]; simp
theorem chD_toNat (d : Nat) (h : d < 10) : (chD d).toNat = 48 + d := by
  unfold chD
  rw [UInt8.toNat_ofNat', Nat.mod_eq_of_lt (by omega)]

/-- The text of a fraction. -/
def txtQ (q : Rat) : List UInt8 := (if q.num < 0 then [45] else []) ++ (decT q.num.natAbs ++ (if q.den = 1 then [] else 47 :: decT q.den))

end Go.Proofs.Ytkdcgkafjkklcaa

/- THE WALKS OF ratio's NATURAL NUMBERS: plus, minus. -/
namespace Go.Proofs.Ytkdcgkafjkklcaa
open Go.RowKit

/-- make([]T, n, c): n zero elements are owned, and there is room for c. -/
theorem wpList_make_room {P : Program} (w : World) {ops : Array Oper} {rest : List Oper} {o : Oper} {a : Act} {Q : Exit → Act → World → Prop}
    (hg : o.guard = none) (l c : Operand) (t : TypeId) (hop : o.op = Op.makeSlice t l c)
    (base : Nat) (e : TypeId) (i : TypeInfo) (z : Value) (size : Nat) (h1 : P.underlying t = some (.slice e)) (h2 : P.info? e = some i) (h3 : i.zero = some z) (h4 : i.size = size)
    (kl kc : IntKind) (L C : Int) (n m : Nat) (hl : a.eval l = .int kl L) (hc : a.eval c = .int kc C) (hL : L = (n : Int)) (hC : C = (m : Int)) (hnm : n ≤ m) (b2 : i.bytes * m ≤ 281474976710656) (b3 : m ≤ maxLen) (_b4 : base ≤ w.heap.size)
    (hK : ∀ w', w'.heap[w.heap.size]? = some (.cells (madeCells z.cells (m * size)) e (0, 0)) → w.grownBy w' none → wpList P ops Q rest (a.put o.dst (.slice (some ⟨w.heap.size, 0, none⟩) n m)) w') :
    wpList P ops Q (o :: rest) a w := by
  subst h4
  subst hL
  subst hC
  refine wpList_plain hg fun K hK' => ?_
  have b3' : (m : Int) ≤ 9223372036854775807 := by
    have h := b3
    simp [maxLen] at h
    omega
  have hb' : (i.bytes : Int) * (m : Int) ≤ 281474976710656 := by
    have h : ((i.bytes * m : Nat) : Int) ≤ 281474976710656 := by omega
    rwa [Int.natCast_mul] at h
  have hr := run_make (P := P) w t e i z h1 h2 h3 kl kc n m (by omega) (by omega) hb' b3'
  simp only [Int.toNat_natCast] at hr
  unfold Oper.wp
  simp [execOp, hop, hl, hc, hr, Result.andThen]
  exact hK' _ _ (hK _ (heap_alloc_new w _) (World.grownBy_alloc w _ none))

/-- Digits added, one by one. -/
structure PlIn (a b : List Nat) (n i : Nat) (o : List Nat) (c : Nat) : Prop where
  len : o.length = n
  dgs : Dgs b64 o
  car : c ≤ 1
  val : lv b64 o + b64 ^ i * c = lv b64 (a.take i) + lv b64 (b.take i)
  top : ∀ j, i ≤ j → o.getD j 0 = 0
theorem take_step64 (a : List Nat) (i : Nat) : lv b64 (a.take (i + 1)) = lv b64 (a.take i) + b64 ^ i * a.getD i 0 := by
  by_cases h : i < a.length
  · exact lv_take_succ b64 a i h
  · rw [List.take_of_length_le (by omega), List.take_of_length_le (by omega)]
    simp [List.getElem?_eq_none (Nat.le_of_not_lt h)]
theorem PlIn.start (a b : List Nat) (n : Nat) : PlIn a b n 0 (List.replicate n 0) 0 :=
  ⟨by simp, Dgs.replicate b64_pos _, by omega, by simp [lv_replicate, lv], fun j _ => by simp [List.getElem?_replicate]; split <;> rfl⟩
theorem PlIn.step {a b : List Nat} {n i : Nat} {o : List Nat} {c : Nat} (h : PlIn a b n i o c) (ha : Dgs b64 a) (hb : Dgs b64 b) (hi : i < n) (x y : Nat) (hx : x = a.getD i 0) (hy : y = b.getD i 0) :
    PlIn a b n (i + 1) (o.set i (addLo x y c)) (addHi x y c) := by
  have hxl := ha.getD b64_pos i
  have hyl := hb.getD b64_pos i
  rw [← hx] at hxl
  rw [← hy] at hyl
  refine ⟨by simpa using h.len, h.dgs.set _ _ (addLo_lt _ _ _), addHi_le _ _ _ hxl hyl h.car, ?_, fun j hj => ?_⟩
  · have h1 := lv_set b64 o i (addLo x y c) (by rw [h.len]; exact hi)
    rw [h.top i (Nat.le_refl _)] at h1
    have h2 := h.val
    rw [take_step64, take_step64, Nat.pow_succ, ← hx, ← hy]
    have e4 := add_eq x y c
    have e5 : b64 ^ i * (addLo x y c + b64 * addHi x y c) = b64 ^ i * (x + y + c) := by rw [e4]
    rw [Nat.mul_assoc]
    simp only [Nat.mul_add] at e5
    omega
  · have := h.top j (by omega)
    rw [List.getD_eq_getElem?_getD] at *
    rw [List.getElem?_set_ne (by omega)]
    exact this
theorem PlIn.done {a b : List Nat} {o : List Nat} {c : Nat} (h : PlIn a b a.length a.length o c) (hl : b.length ≤ a.length) : lv b64 o + b64 ^ a.length * c = lv b64 a + lv b64 b := by
  have hv := h.val
  rw [List.take_of_length_le (Nat.le_refl _), List.take_of_length_le hl] at hv
  exact hv
/-- The digits of a sum, by the carry. -/
theorem plus_dig {a b o : List Nat} {c : Nat} (h : PlIn a b a.length a.length o c) (hl : b.length ≤ a.length) (hla : ∀ h : a ≠ [], a.getLast h ≠ 0) :
    (c = 0 → dig b64 (lv b64 a + lv b64 b) = o) ∧ (0 < c → dig b64 (lv b64 a + lv b64 b) = o ++ [c]) := by
  have hd := h.done hl
  constructor
  · intro h0
    subst h0
    rw [← hd, Nat.mul_zero, Nat.add_zero]
    refine dig_of b64_two o h.dgs fun hne => ?_
    -- the greatest digit of o is not 0: o is at least a
    have hpos : 0 < a.length := by
      rcases Nat.eq_zero_or_pos a.length with h1 | h1
      · exact absurd (List.eq_nil_of_length_eq_zero (h.len.trans h1)) hne
      · exact h1
    have hane : a ≠ [] := fun e => by rw [e] at hpos; simp at hpos
    intro hz
    have h2 : lv b64 o < b64 ^ (a.length - 1) := by
      have e1 : o = o.take (o.length - 1) ++ [0] := by
        conv => lhs; rw [← List.dropLast_concat_getLast hne, hz, List.dropLast_eq_take]
      have e2 : Dgs b64 (o.take (o.length - 1)) := h.dgs.take _
      rw [e1, dig_lv_snoc_zero]
      have := lv_lt e2
      rw [List.length_take, Nat.min_eq_left (by omega)] at this
      rw [h.len] at this ⊢
      exact this
    have h3 : b64 ^ (a.length - 1) ≤ lv b64 a := by
      have e1 : a = a.dropLast ++ [a.getLast hane] := (List.dropLast_concat_getLast hane).symm
      have h4 := hla hane
      generalize a.getLast hane = q at *
      rw [e1, lv_append]
      have : a.dropLast.length = a.length - 1 := by simp
      rw [this]
      have e3 : lv b64 [q] = q := by simp [lv]
      rw [e3]
      have := Nat.le_mul_of_pos_right (b64 ^ (a.length - 1)) (show 0 < q by omega)
      simp only [List.length_append, List.length_dropLast, List.length_cons, List.length_nil]
      have e4 : a.length - 1 + (0 + 1) - 1 = a.length - 1 := by omega
      rw [e4]
      omega
    omega
  · intro h0
    have hc : c = 1 := by have := h.car; omega
    subst hc
    have e : lv b64 a + lv b64 b = lv b64 (o ++ [1]) := by rw [lv_append, h.len, ← hd]; simp [lv]
    rw [e]
    exact dig_of b64_two _ (h.dgs.append (by intro d hd; simp at hd; rw [hd]; exact b64_two)) fun hne => by simp

/-- Block g is just the digits ds. -/
def OwnAll (w : World) (g : Nat) (k : IntKind) (e : TypeId) (ds : List Nat) : Prop := w.heap[g]? = some (.cells (ds.map (fun d : Nat => Value.int k (d : Int))).toArray e (0, 0))
theorem OwnAll.own {w : World} {g : Nat} {k : IntKind} {e : TypeId} {ds : List Nat} (h : OwnAll w g k e ds) : Own w g k e ds := ⟨[], by rw [List.append_nil]; exact h⟩
theorem OwnAll.frozen {w : World} {g : Nat} {k : IntKind} {e : TypeId} {ds : List Nat} (h : OwnAll w g k e ds) (j : Nat) : w.frozen? ⟨g, j, none⟩ = false := h.own.frozen j
theorem OwnAll.cell {w : World} {g : Nat} {k : IntKind} {e : TypeId} {ds : List Nat} (h : OwnAll w g k e ds) (j : Nat) (hj : j < ds.length) : ∃ q, w.cell? ⟨g, j, none⟩ = some (.int k q) := ⟨_, h.own.cell j hj⟩
theorem OwnAll.store {w : World} {g : Nat} {k : IntKind} {e : TypeId} {ds : List Nat} (h : OwnAll w g k e ds) (j x : Nat) : OwnAll (w.setCell ⟨g, j, none⟩ (.int k x)) g k e (ds.set j x) := by
  unfold OwnAll at *
  rw [heap_setCell_same w g j _ e _ h]
  simp [List.map_set]
theorem OwnAll.of_room {w : World} {g : Nat} {e : TypeId} {n : Nat} (h : w.heap[g]? = some (.cells (madeCells #[Value.int .u64 0] (n + 1)) e (0, 0))) : OwnAll w g .u64 e (List.replicate n 0 ++ [0]) := by
  unfold OwnAll
  rw [h]
  have e1 : (madeCells #[Value.int .u64 0] (n + 1)).toList = List.replicate (n + 1) (Value.int .u64 0) := toList_madeCells_one _ _
  have e2 : (List.replicate n 0 ++ [0]).map (fun d : Nat => Value.int .u64 (d : Int)) = List.replicate (n + 1) (Value.int .u64 0) := by
    rw [List.replicate_succ']
    simp
  rw [e2, ← e1]
theorem Own.init {w : World} {g : Nat} {k : IntKind} {e : TypeId} {a b : List Nat} (h : Own w g k e (a ++ b)) : Own w g k e a := by
  obtain ⟨tl, h⟩ := h
  refine ⟨b.map (fun d : Nat => Value.int k (d : Int)) ++ tl, ?_⟩
  rw [h]
  simp
theorem OwnAll.ownsRow {w : World} {g : Nat} {k : IntKind} {e : TypeId} {o : List Nat} (h : OwnAll w g k e (o ++ [0])) (n base : Nat) (hb : base ≤ g) (hn : o.length = n) (hm : n + 1 ≤ maxLen) :
    w.ownsRow base e 1 (.slice (some ⟨g, 0, none⟩) n (n + 1)) n (o.map (fun d : Nat => Value.int k (d : Int))) := by
  refine ⟨by simp [hn], .inr ⟨g, n + 1, _, rfl, hb, h, by omega, hm, by simp [hn], ?_⟩⟩
  simp [← hn]
theorem World.ownsRow.alloc' {w : World} {base : Nat} {e : TypeId} {size : Nat} {v : Value} {n : Nat} {xs : List Value} (h : w.ownsRow base e size v n xs) (o : Obj) : (w.alloc o).ownsRow base e size v n xs := h.alloc o
theorem digits_row {w : World} {base g n : Nat} {e : TypeId} {o : List Nat} {c : Nat} (hn : o.length = n) (h : w.ownsRow base e 1 (.slice (some ⟨g, 0, none⟩) (n + 1) (n + 1)) (n + 1) (o.map (fun d : Nat => Value.int .u64 (d : Int)) ++ [.int .u64 (c : Int)])) :
    IsRow .u64 w (.slice (some ⟨g, 0, none⟩) (n + 1) (n + 1)) (o ++ [c]) := by
  have hl : (o ++ [c]).length = n + 1 := by simp [hn]
  obtain ⟨ho, h1, h2, _⟩ := Own.of_ownsRow (k := .u64) (ds := o ++ [c]) hl (by simpa using h)
  have := ho.isRowCap (n + 1) (by omega) h2
  rw [hl] at this
  exact this

theorem run_Add64_y0 (x c : Nat) (hc : c ≤ 1) (w : World) :
    (callFunc 91 #[.int .u64 x, .int .u64 0, .int .u64 c]).run Try.prog w = .ok (.value (.tuple #[.int .u64 (addLo x 0 c : Nat), .int .u64 (addHi x 0 c : Nat)])) w :=
  run_Add64 x 0 c hc w
theorem run_Sub64_y0 (x c : Nat) (hc : c ≤ 1) (w : World) :
    (callFunc 94 #[.int .u64 x, .int .u64 0, .int .u64 c]).run Try.prog w = .ok (.value (.tuple #[.int .u64 (subLo x 0 c : Nat), .int .u64 (subHi x 0 c : Nat)])) w :=
  run_Sub64 x 0 c hc w

set_option maxRecDepth 100000 in
set_option maxHeartbeats 2000000 in
theorem plus_any (m n : Nat) (va vb : Value) (w : World) (ha : IsNat .u64 b64 w va m) (hb : IsNat .u64 b64 w vb n) (hla : (dig b64 m).length ≤ 1099511627776) (hlb : (dig b64 n).length ≤ 1099511627776) :
    Calls Try.prog 53 #[va, vb] w (RetNat .u64 b64 (m + n) w) := by
  obtain ⟨aa, ca, rfl, hA⟩ := IsRow.opened ha
  obtain ⟨ab, cb, rfl, hB⟩ := IsRow.opened hb
  have hdA := dgs_dig b64_two m
  have hdB := dgs_dig b64_two n
  have HLA := Lib.hid (dig_last b64_two m)
  have HLB := Lib.hid (dig_last b64_two n)
  have HVA : Hid (lv b64 (dig b64 m) + lv b64 (dig b64 n) = m + n) := by show _ = _; rw [lv_dig b64_two, lv_dig b64_two]
  have HVB : Hid (lv b64 (dig b64 n) + lv b64 (dig b64 m) = m + n) := by show _ = _; rw [lv_dig b64_two, lv_dig b64_two, Nat.add_comm]
  clear ha hb
  generalize dig b64 m = dA at *
  generalize dig b64 n = dB at *
  obtain ⟨i0, hi, hz0, hz1, hz2⟩ := info_parts info_u64
  by_cases hsw : dA.length < dB.length
  · have tsw : decide (dA.length < dB.length) = true := decide_eq_true hsw
    go_enter Try.func53, Try.ntmps53
    go_wp2_with (at_make; refine wpList_make_room _ rfl _ _ 48 rfl w.heap.size 175 i0 (.int .u64 0) 1 Try.underlying48 hi hz0 hz1 _ _ _ _ dB.length (dB.length + 1) rfl rfl (by omega) (by omega) (by omega) (by rw [hz2]; omega) (by unfold maxLen; omega) (by omega) ?_)
    intro w1 hown hgrow
    have ho := OwnAll.of_room hown
    have hbel := (Below.refl w.heap.size w).grown hgrow (Nat.le_refl _) (by simp)
    clear hown hgrow
    go_wp2_with fail
    go_loopw [6, 25] (fun cv iv wr => ∃ (i : Nat) (o : List Nat) (c : Nat), i ≤ dB.length ∧ iv = .int .i64 i ∧ cv = .int .u64 c ∧ OwnAll wr w.heap.size .u64 175 (o ++ [0]) ∧ Hid (PlIn dB dA dB.length i o c) ∧ Below w.heap.size w wr)
      (fun _ iv _ => dB.length - (intOf iv).toNat)
    case atStart => exact ⟨0, _, 0, Nat.zero_le _, rfl, rfl, ho, PlIn.start _ _ _, hbel⟩
    case round =>
      clear ho hbel
      obtain ⟨i, o, c, hil, rfl, rfl, ho, hM, hbel⟩ := hrel
      by_cases hlt : i < dB.length
      · obtain ⟨b, off, rfl, hbA, hcA⟩ := hB (by omega)
        have hca := (hbel.cell (p := ⟨b, off + i, none⟩) hbA).trans (hcA i hlt)
        have hfo := ho.frozen i
        have hlo := hM.out.len
        obtain ⟨q0, hco⟩ := ho.cell i (by rw [List.length_append]; omega)
        have hst := Lib.hid (fun x y hx hy => hM.out.step hdB hdA hlt x y hx hy)
        have hlt' : (i : Int) < dB.length := by omega
        have hge' : (0 : Int) ≤ i := by omega
        have hset : ∀ v, (o ++ [0]).set i v = o.set i v ++ [0] := fun v => by rw [List.set_append_left _ _ (by omega)]
        have HSET := Lib.hid hset
        have hcar := hM.out.car
        clear hset hlo
        by_cases hlb : i < dA.length
        · obtain ⟨b', off', rfl, hbB, hcB⟩ := hA (by omega)
          have hcb := (hbel.cell (p := ⟨b', off' + i, none⟩) hbB).trans (hcB i hlb)
          have hlb' : (i : Int) < dA.length := by omega
          have tb : decide (i < dA.length) = true := decide_eq_true hlb
          have HST := Lib.hid (hst.out _ _ rfl rfl)
          clear hst
          generalize dB.getD i 0 = x at *
          generalize dA.getD i 0 = y at *
          have hadd := run_Add64 x y c hcar
          clear hcar
          go_wp2_with fail
          exact ⟨⟨i + 1, _, _, by omega, by go_num, rfl, by rw [← HSET.out]; exact ho.store i _, HST.out, hbel.setCell (p := ⟨w.heap.size, i, none⟩) (Nat.le_refl _) _⟩, meas_up hlt⟩
        · have tb : decide (i < dA.length) = false := decide_eq_false hlb
          have HST := Lib.hid (hst.out _ 0 rfl (by simp [List.getElem?_eq_none (Nat.le_of_not_lt hlb)]))
          clear hst
          generalize dB.getD i 0 = x at *
          have hadd := run_Add64_y0 x c hcar
          clear hcar
          go_wp2_with fail
          exact ⟨⟨i + 1, _, _, by omega, by go_num, rfl, by rw [← HSET.out]; exact ho.store i _, HST.out, hbel.setCell (p := ⟨w.heap.size, i, none⟩) (Nat.le_refl _) _⟩, meas_up hlt⟩
      · obtain rfl : i = dB.length := by omega
        have hlen := Lib.hid hM.out.len
        have hpd := plus_dig hM.out (by omega) HLB.out
        have hv : lv b64 dB + lv b64 dA = m + n := HVB.out
        rw [hv] at hpd
        have HP0 := Lib.hid hpd.1
        have HP1 := Lib.hid hpd.2
        clear hpd hv
        rcases Nat.eq_zero_or_pos c with hc | hc
        · subst hc
          have HP := Lib.hid (HP0.out rfl)
          have hrow := (Own.init ho.own).isRowCap (dB.length + 1) (by rw [hlen.out]; omega) (by unfold maxLen; omega)
          rw [hlen.out] at hrow
          have HR := Lib.hid hrow
          clear hrow
          go_wp2_with fail
          go_ret
          exact ⟨_, rfl, by show IsRow _ _ _ _; rw [HP.out]; exact HR.out, hbel⟩
        · have tc : decide (0 < c) = true := decide_eq_true hc
          have HP := Lib.hid (HP1.out hc)
          have how := ho.ownsRow dB.length w.heap.size (Nat.le_refl _) hlen.out (by unfold maxLen; omega)
          have hx1 := hbel.alloc hbel.size (.cells #[.int .u64 (c : Int)] 175)
          have hcn := cell_one_new wr (.int .u64 (c : Int)) 175
          have HCN := Lib.hid hcn
          have HOW := Lib.hid (how.alloc (.cells #[.int .u64 (c : Int)] 175))
          clear how hcn hc ho
          go_wp2_with (at_builtin; refine wpList_append_fits _ rfl (.tmp 51) (.tmp 53) 48 rfl w.heap.size 175 i0 1 Try.underlying48 hi hz1 _ _ _ _ rfl HOW.out ⟨wr.heap.size, 0, none⟩ 1 1 [.int .u64 (c : Int)] rfl rfl HCN.out (by simp [Value.oneCell']) (by omega) ?_)
          intro w2 hown2 hgr2
          have hb2 : Below w.heap.size w w2 := hx1.grown hgr2 hx1.size (by simp)
          have HR := Lib.hid (digits_row hlen.out hown2)
          clear hown2 hgr2 hx1
          go_wp2_with fail
          go_ret
          exact ⟨_, rfl, by show IsRow _ _ _ _; rw [HP.out]; exact HR.out, hb2⟩
  · have tsw : decide (dA.length < dB.length) = false := decide_eq_false hsw
    go_enter Try.func53, Try.ntmps53
    go_wp2_with (at_make; refine wpList_make_room _ rfl _ _ 48 rfl w.heap.size 175 i0 (.int .u64 0) 1 Try.underlying48 hi hz0 hz1 _ _ _ _ dA.length (dA.length + 1) rfl rfl (by omega) (by omega) (by omega) (by rw [hz2]; omega) (by unfold maxLen; omega) (by omega) ?_)
    intro w1 hown hgrow
    have ho := OwnAll.of_room hown
    have hbel := (Below.refl w.heap.size w).grown hgrow (Nat.le_refl _) (by simp)
    clear hown hgrow
    go_wp2_with fail
    go_loopw [6, 25] (fun cv iv wr => ∃ (i : Nat) (o : List Nat) (c : Nat), i ≤ dA.length ∧ iv = .int .i64 i ∧ cv = .int .u64 c ∧ OwnAll wr w.heap.size .u64 175 (o ++ [0]) ∧ Hid (PlIn dA dB dA.length i o c) ∧ Below w.heap.size w wr)
      (fun _ iv _ => dA.length - (intOf iv).toNat)
    case atStart => exact ⟨0, _, 0, Nat.zero_le _, rfl, rfl, ho, PlIn.start _ _ _, hbel⟩
    case round =>
      clear ho hbel
      obtain ⟨i, o, c, hil, rfl, rfl, ho, hM, hbel⟩ := hrel
      by_cases hlt : i < dA.length
      · obtain ⟨b, off, rfl, hbA, hcA⟩ := hA (by omega)
        have hca := (hbel.cell (p := ⟨b, off + i, none⟩) hbA).trans (hcA i hlt)
        have hfo := ho.frozen i
        have hlo := hM.out.len
        obtain ⟨q0, hco⟩ := ho.cell i (by rw [List.length_append]; omega)
        have hst := Lib.hid (fun x y hx hy => hM.out.step hdA hdB hlt x y hx hy)
        have hlt' : (i : Int) < dA.length := by omega
        have hge' : (0 : Int) ≤ i := by omega
        have hset : ∀ v, (o ++ [0]).set i v = o.set i v ++ [0] := fun v => by rw [List.set_append_left _ _ (by omega)]
        have HSET := Lib.hid hset
        have hcar := hM.out.car
        clear hset hlo
        by_cases hlb : i < dB.length
        · obtain ⟨b', off', rfl, hbB, hcB⟩ := hB (by omega)
          have hcb := (hbel.cell (p := ⟨b', off' + i, none⟩) hbB).trans (hcB i hlb)
          have hlb' : (i : Int) < dB.length := by omega
          have tb : decide (i < dB.length) = true := decide_eq_true hlb
          have HST := Lib.hid (hst.out _ _ rfl rfl)
          clear hst
          generalize dA.getD i 0 = x at *
          generalize dB.getD i 0 = y at *
          have hadd := run_Add64 x y c hcar
          clear hcar
          go_wp2_with fail
          exact ⟨⟨i + 1, _, _, by omega, by go_num, rfl, by rw [← HSET.out]; exact ho.store i _, HST.out, hbel.setCell (p := ⟨w.heap.size, i, none⟩) (Nat.le_refl _) _⟩, meas_up hlt⟩
        · have tb : decide (i < dB.length) = false := decide_eq_false hlb
          have HST := Lib.hid (hst.out _ 0 rfl (by simp [List.getElem?_eq_none (Nat.le_of_not_lt hlb)]))
          clear hst
          generalize dA.getD i 0 = x at *
          have hadd := run_Add64_y0 x c hcar
          clear hcar
          go_wp2_with fail
          exact ⟨⟨i + 1, _, _, by omega, by go_num, rfl, by rw [← HSET.out]; exact ho.store i _, HST.out, hbel.setCell (p := ⟨w.heap.size, i, none⟩) (Nat.le_refl _) _⟩, meas_up hlt⟩
      · obtain rfl : i = dA.length := by omega
        have hlen := Lib.hid hM.out.len
        have hpd := plus_dig hM.out (by omega) HLA.out
        have hv : lv b64 dA + lv b64 dB = m + n := HVA.out
        rw [hv] at hpd
        have HP0 := Lib.hid hpd.1
        have HP1 := Lib.hid hpd.2
        clear hpd hv
        rcases Nat.eq_zero_or_pos c with hc | hc
        · subst hc
          have HP := Lib.hid (HP0.out rfl)
          have hrow := (Own.init ho.own).isRowCap (dA.length + 1) (by rw [hlen.out]; omega) (by unfold maxLen; omega)
          rw [hlen.out] at hrow
          have HR := Lib.hid hrow
          clear hrow
          go_wp2_with fail
          go_ret
          exact ⟨_, rfl, by show IsRow _ _ _ _; rw [HP.out]; exact HR.out, hbel⟩
        · have tc : decide (0 < c) = true := decide_eq_true hc
          have HP := Lib.hid (HP1.out hc)
          have how := ho.ownsRow dA.length w.heap.size (Nat.le_refl _) hlen.out (by unfold maxLen; omega)
          have hx1 := hbel.alloc hbel.size (.cells #[.int .u64 (c : Int)] 175)
          have hcn := cell_one_new wr (.int .u64 (c : Int)) 175
          have HCN := Lib.hid hcn
          have HOW := Lib.hid (how.alloc (.cells #[.int .u64 (c : Int)] 175))
          clear how hcn hc ho
          go_wp2_with (at_builtin; refine wpList_append_fits _ rfl (.tmp 51) (.tmp 53) 48 rfl w.heap.size 175 i0 1 Try.underlying48 hi hz1 _ _ _ _ rfl HOW.out ⟨wr.heap.size, 0, none⟩ 1 1 [.int .u64 (c : Int)] rfl rfl HCN.out (by simp [Value.oneCell']) (by omega) ?_)
          intro w2 hown2 hgr2
          have hb2 : Below w.heap.size w w2 := hx1.grown hgr2 hx1.size (by simp)
          have HR := Lib.hid (digits_row hlen.out hown2)
          clear hown2 hgr2 hx1
          go_wp2_with fail
          go_ret
          exact ⟨_, rfl, by show IsRow _ _ _ _; rw [HP.out]; exact HR.out, hb2⟩

/-- Digits taken off, one by one. -/
structure MiIn (a b : List Nat) (n i : Nat) (o : List Nat) (c : Nat) : Prop where
  len : o.length = n
  dgs : Dgs b64 o
  car : c ≤ 1
  val : lv b64 o + lv b64 (b.take i) = lv b64 (a.take i) + b64 ^ i * c
  top : ∀ j, i ≤ j → o.getD j 0 = 0
theorem MiIn.start (a b : List Nat) (n : Nat) : MiIn a b n 0 (List.replicate n 0) 0 :=
  ⟨by simp, Dgs.replicate b64_pos _, by omega, by simp [lv_replicate, lv], fun j _ => by simp [List.getElem?_replicate]; split <;> rfl⟩
theorem sub_eq_plus (x y c : Nat) (hx : x < b64) (hy : y < b64) (hc : c ≤ 1) : subLo x y c + y + c = x + b64 * subHi x y c := by
  unfold subLo subHi
  by_cases h : x < y + c
  · rw [if_pos h, Nat.mod_eq_of_lt (by omega)]; omega
  · rw [if_neg h]
    have e : b64 + x - y - c = (x - y - c) + b64 := by omega
    rw [e, Nat.add_mod_right, Nat.mod_eq_of_lt (by omega)]
    omega
theorem MiIn.step {a b : List Nat} {n i : Nat} {o : List Nat} {c : Nat} (h : MiIn a b n i o c) (ha : Dgs b64 a) (hb : Dgs b64 b) (hi : i < n) (x y : Nat) (hx : x = a.getD i 0) (hy : y = b.getD i 0) :
    MiIn a b n (i + 1) (o.set i (subLo x y c)) (subHi x y c) := by
  have hxl := ha.getD b64_pos i
  have hyl := hb.getD b64_pos i
  rw [← hx] at hxl
  rw [← hy] at hyl
  refine ⟨by simpa using h.len, h.dgs.set _ _ (subLo_lt _ _ _), subHi_le _ _ _, ?_, fun j hj => ?_⟩
  · have h1 := lv_set b64 o i (subLo x y c) (by rw [h.len]; exact hi)
    rw [h.top i (Nat.le_refl _)] at h1
    have h2 := h.val
    rw [take_step64, take_step64, Nat.pow_succ, ← hx, ← hy]
    have e4 := sub_eq_plus x y c hxl hyl h.car
    have e5 : b64 ^ i * (subLo x y c + y + c) = b64 ^ i * (x + b64 * subHi x y c) := by rw [e4]
    rw [Nat.mul_assoc]
    simp only [Nat.mul_add] at e5
    omega
  · have := h.top j (by omega)
    rw [List.getD_eq_getElem?_getD] at *
    rw [List.getElem?_set_ne (by omega)]
    exact this
theorem MiIn.done {a b o : List Nat} {c : Nat} (h : MiIn a b a.length a.length o c) (hl : b.length ≤ a.length) (hle : lv b64 b ≤ lv b64 a) : lv b64 o = lv b64 a - lv b64 b := by
  have hv := h.val
  rw [List.take_of_length_le (Nat.le_refl _), List.take_of_length_le hl] at hv
  rcases Nat.eq_zero_or_pos c with h0 | h0
  · subst h0; omega
  · have hc : c = 1 := by have := h.car; omega
    subst hc
    have := lv_lt h.dgs
    rw [h.len] at this
    omega

set_option maxRecDepth 100000 in
set_option maxHeartbeats 2000000 in
theorem minus_any (m n : Nat) (va vb : Value) (w : World) (ha : IsNat .u64 b64 w va m) (hb : IsNat .u64 b64 w vb n) (hle : n ≤ m) (hla : (dig b64 m).length ≤ 1099511627776) :
    Calls Try.prog 55 #[va, vb] w (RetNat .u64 b64 (m - n) w) := by
  obtain ⟨aa, ca, rfl, hA⟩ := IsRow.opened ha
  obtain ⟨ab, cb, rfl, hB⟩ := IsRow.opened hb
  have hdA := dgs_dig b64_two m
  have hdB := dgs_dig b64_two n
  have hlen := dig_length_mono b64_two hle
  have Hva := Lib.hid (lv_dig b64_two m)
  have Hvb := Lib.hid (lv_dig b64_two n)
  clear ha hb
  generalize dig b64 m = dA at *
  generalize dig b64 n = dB at *
  obtain ⟨i0, hi, hz0, hz1, hz2⟩ := info_parts info_u64
  go_enter Try.func55, Try.ntmps55
  go_wp2_with (at_make; refine wpList_make_full _ rfl _ _ 48 rfl w.heap.size 175 i0 (.int .u64 0) 1 Try.underlying48 hi hz0 hz1 _ _ _ _ dA.length rfl rfl (by omega) (by omega) (by rw [hz2]; omega) (by unfold maxLen; omega) (by omega) ?_)
  intro w1 hown hgrow
  have ho := Own.of_made hown
  have hbel := (Below.refl w.heap.size w).grown hgrow (Nat.le_refl _) (by simp)
  clear hown hgrow hi hz0 hz1 hz2
  go_wp2_with fail
  go_loopw [6, 15] (fun cv iv wr => ∃ (i : Nat) (o : List Nat) (c : Nat), i ≤ dA.length ∧ iv = .int .i64 i ∧ cv = .int .u64 c ∧ Own wr w.heap.size .u64 175 o ∧ Hid (MiIn dA dB dA.length i o c) ∧ Below w.heap.size w wr)
    (fun _ iv _ => dA.length - (intOf iv).toNat)
  case atStart => exact ⟨0, _, 0, Nat.zero_le _, rfl, rfl, ho, MiIn.start _ _ _, hbel⟩
  case round =>
    clear ho hbel
    obtain ⟨i, o, c, hil, rfl, rfl, ho, hM, hbel⟩ := hrel
    by_cases hlt : i < dA.length
    · obtain ⟨b, off, rfl, hbA, hcA⟩ := hA (by omega)
      have hca := (hbel.cell (p := ⟨b, off + i, none⟩) hbA).trans (hcA i hlt)
      have hfo := ho.frozen i
      have hco := ho.cell i (by rw [hM.out.len]; omega)
      have hst := Lib.hid (fun x y hx hy => hM.out.step hdA hdB hlt x y hx hy)
      have hlt' : (i : Int) < dA.length := by omega
      have hge' : (0 : Int) ≤ i := by omega
      have hcar := hM.out.car
      generalize o.getD i 0 = q0 at *
      by_cases hlb : i < dB.length
      · obtain ⟨b', off', rfl, hbB, hcB⟩ := hB (by omega)
        have hcb := (hbel.cell (p := ⟨b', off' + i, none⟩) hbB).trans (hcB i hlb)
        have hlb' : (i : Int) < dB.length := by omega
        have tb : decide (i < dB.length) = true := decide_eq_true hlb
        have HST := Lib.hid (hst.out _ _ rfl rfl)
        clear hst
        generalize dA.getD i 0 = x at *
        generalize dB.getD i 0 = y at *
        have hsub := run_Sub64 x y c hcar
        clear hcar
        go_wp2_with fail
        exact ⟨⟨i + 1, _, _, by omega, by go_num, rfl, ho.store i _, HST.out, hbel.setCell (p := ⟨w.heap.size, i, none⟩) (Nat.le_refl _) _⟩, meas_up hlt⟩
      · have tb : decide (i < dB.length) = false := decide_eq_false hlb
        have HST := Lib.hid (hst.out _ 0 rfl (by simp [List.getElem?_eq_none (Nat.le_of_not_lt hlb)]))
        clear hst
        generalize dA.getD i 0 = x at *
        have hsub := run_Sub64_y0 x c hcar
        clear hcar
        go_wp2_with fail
        exact ⟨⟨i + 1, _, _, by omega, by go_num, rfl, ho.store i _, HST.out, hbel.setCell (p := ⟨w.heap.size, i, none⟩) (Nat.le_refl _) _⟩, meas_up hlt⟩
    · obtain rfl : i = dA.length := by omega
      have hl := hM.out.len
      have hrow := ho.isRow (by rw [hl]; unfold maxLen; omega)
      rw [hl] at hrow
      have HR := Lib.hid hrow
      have HD := Lib.hid hM.out.dgs
      have HV := Lib.hid (hM.out.done hlen (by rw [Hva.out, Hvb.out]; exact hle))
      clear hl hrow ho
      go_wp2_with fail
      refine (cut_any o _ _ HR.out HD.out).mono ?_
      rintro e w' ⟨v, rfl, hv, rfl⟩
      go_wp2_with fail
      go_ret
      exact ⟨v, rfl, by rw [← Hva.out, ← Hvb.out, ← HV.out]; exact hv, hbel⟩

end Go.Proofs.Ytkdcgkafjkklcaa

/- THE WALK OF ratio's Add. -/
namespace Go.Proofs.Ytkdcgkafjkklcaa
open Go.RowKit

theorem IsRat.stored {w : World} {B : Nat} {neg : Bool} {x1 y1 : Option Addr} {i1 j1 k1 l1 n : Nat} {q : Rat}
    (hB : RB w B) (h1 : IsNat .u64 b64 w (.slice x1 i1 j1) n) (h2 : IsNat .u64 b64 w (.slice y1 k1 l1) (dn q.den))
    (hn : decide (q.num < 0) = neg) (hm : q.num.natAbs = n) :
    IsRat (((w.setCell ⟨B, 0, none⟩ (.bool neg)).setCell ⟨B, 1, none⟩ (.slice x1 i1 j1)).setCell ⟨B, 2, none⟩ (.slice y1 k1 l1)) (.agg #[.bool neg, .slice x1 i1 j1, .slice y1 k1 l1]) q := by
  subst hn hm
  obtain ⟨b, x, i, j, y, k, l, T, hB⟩ := hB
  exact ⟨_, _, rfl, store3 hB h1, store3 hB h2⟩

set_option maxRecDepth 100000 in
set_option maxHeartbeats 4000000 in
theorem addRat_any (x y : Rat) (vx vy : Value) (w : World) (hx : IsRat w vx x) (hy : IsRat w vy y) (hlx : szR x 68719476736) (hly : szR y 68719476736) : Calls Try.prog 22 #[vx, vy] w (RetRat (x + y) w) := by
  obtain ⟨a1, c1, a2, c2, rfl, n1, n2⟩ := hx.opened
  obtain ⟨a3, c3, a4, c4, rfl, n3, n4⟩ := hy.opened
  have N1 := Lib.hid n1
  have N2 := Lib.hid n2
  have N3 := Lib.hid n3
  have N4 := Lib.hid n4
  have He := Lib.hid (mkQ_add x y)
  have hA := dig_length_mul b64_two x.num.natAbs y.den
  have hB := dig_length_mul b64_two y.num.natAbs x.den
  have hC := dig_length_mul b64_two x.den y.den
  have HA : Hid ((dig b64 (x.num.natAbs * y.den)).length ≤ 137438953472) := by have := hlx.1; have := hly.2; show _ ≤ _; omega
  have HBB : Hid ((dig b64 (y.num.natAbs * x.den)).length ≤ 137438953472) := by have := hlx.2; have := hly.1; show _ ≤ _; omega
  have HC : Hid ((dig b64 (x.den * y.den)).length ≤ 137438953472) := by have := hlx.2; have := hly.2; show _ ≤ _; omega
  have hS := dig_length_add b64_two (x.num.natAbs * y.den) (y.num.natAbs * x.den) 137438953472 HA.out HBB.out
  have HS := Lib.hid hS
  have HP := Lib.hid (Nat.mul_pos x.den_pos y.den_pos)
  have HLX := Lib.hid hlx
  have HLY := Lib.hid hly
  clear hx hy n1 n2 n3 n4 hlx hly hA hB hC hS
  go_enter Try.func22, Try.ntmps22
  go_wp2_with fail
  generalize hsx : decide (x.num < 0) = sx at *
  generalize hsy : decide (y.num < 0) = sy at *
  clear hsx hsy
  generalize hW0 : ((w.alloc (.cells #[.bool sx, .slice a1 (dig b64 x.num.natAbs).length c1, .slice a2 (dig b64 (dn x.den)).length c2] 50)).alloc (.cells #[.bool sy, .slice a3 (dig b64 y.num.natAbs).length c3, .slice a4 (dig b64 (dn y.den)).length c4] 50)).alloc (.cells #[.bool false, .slice none 0 0, .slice none 0 0] 50) = W at *
  obtain ⟨hal, hB1, hB2, hB3⟩ := boxes3 w _ _ _ _ W hW0.symm
  clear hW0
  have hW : Below w.heap.size w W.drew := hal.drew
  have p0 := blk_cell hB1 0 (.bool sx) rfl
  have p1 := blk_cell hB1 1 (.slice a1 (dig b64 x.num.natAbs).length c1) rfl
  have p2 := blk_cell hB1 2 (.slice a2 (dig b64 (dn x.den)).length c2) rfl
  have r0 := blk_cell hB2 0 (.bool sy) rfl
  have r1 := blk_cell hB2 1 (.slice a3 (dig b64 y.num.natAbs).length c3) rfl
  have r2 := blk_cell hB2 2 (.slice a4 (dig b64 (dn y.den)).length c4) rfl
  have HB : Hid (RB W (w.heap.size + 2)) := ⟨false, none, 0, 0, none, 0, 0, _, hB3⟩
  have hl3 := blk_lt hB3
  clear hB1 hB2 hB3
  go_region_held3 (fun w' => Below w.heap.size w w' ∧ RB w' (w.heap.size + 2) ∧ w'.cell? ⟨w.heap.size, 0, none⟩ = some (.bool sx) ∧ w'.cell? ⟨w.heap.size, 1, none⟩ = some (.slice a1 (dig b64 x.num.natAbs).length c1) ∧ w'.cell? ⟨w.heap.size, 2, none⟩ = some (.slice a2 (dig b64 (dn x.den)).length c2) ∧ w'.cell? ⟨w.heap.size + 1, 0, none⟩ = some (.bool sy) ∧ w'.cell? ⟨w.heap.size + 1, 1, none⟩ = some (.slice a3 (dig b64 y.num.natAbs).length c3) ∧ w'.cell? ⟨w.heap.size + 1, 2, none⟩ = some (.slice a4 (dig b64 (dn y.den)).length c4) ∧ w'.cell? ⟨w.heap.size + 2, 0, none⟩ = some (cellOf w' ⟨w.heap.size + 2, 0, none⟩) ∧ w'.cell? ⟨w.heap.size + 2, 1, none⟩ = some (cellOf w' ⟨w.heap.size + 2, 1, none⟩) ∧ w'.cell? ⟨w.heap.size + 2, 2, none⟩ = some (cellOf w' ⟨w.heap.size + 2, 2, none⟩) ∧ w'.frozen? ⟨w.heap.size + 2, 0, none⟩ = false ∧ w'.frozen? ⟨w.heap.size + 2, 1, none⟩ = false ∧ w'.frozen? ⟨w.heap.size + 2, 2, none⟩ = false)
    (first | exact hold6 hW p0 p1 p2 r0 r1 r2 HB.out | exact hold6_call (Nat.le_refl _) hbB (by assumption) | exact hold6_call (Nat.le_refl _) hbA (by assumption))
    (first
      | (go_at_call_of 52 (Value.slice a2 (dig b64 (dn x.den)).length c2); (with_reducible refine (under_any x.den _ _ (N2.out.below (And.left (by assumption))) x.den_pos).mono ?_); rintro e wA ⟨vA, rfl, hvA, hbA⟩)
      | (go_at_call_of 52 (Value.slice a4 (dig b64 (dn y.den)).length c4); (with_reducible refine (under_any y.den _ _ (N4.out.below (And.left (by assumption))) y.den_pos).mono ?_); rintro e wB ⟨vB, rfl, hvB, hbB⟩))
  rename_i hS1
  have hD := ext_trans hbA hbB
  have HB1 : Hid (RB wB (w.heap.size + 2)) := RB.keep (a := W.drew) HB.out hD hl3
  have hl31 := HB1.out.lt
  have hXA := Lib.hid (hvA.below hbB)
  have hXB := Lib.hid hvB
  obtain ⟨hWB, -, p0', p1', p2', r0', r1', r2', -⟩ := hS1
  clear p0 p1 p2 r0 r1 r2
  replace p0 := p0'
  replace p1 := p1'
  replace p2 := p2'
  replace r0 := r0'
  replace r1 := r1'
  replace r2 := r2'
  clear p0' p1' p2' r0' r1' r2'
  have hWB2 : Below w.heap.size w wB.drew := hWB.drew
  clear hbA hbB hvA hvB hD HB hW hal hl3
  go_wp2_with fail
  go_region_held3 (fun w' => Below w.heap.size w w' ∧ RB w' (w.heap.size + 2) ∧ w'.cell? ⟨w.heap.size, 0, none⟩ = some (.bool sx) ∧ w'.cell? ⟨w.heap.size, 1, none⟩ = some (.slice a1 (dig b64 x.num.natAbs).length c1) ∧ w'.cell? ⟨w.heap.size, 2, none⟩ = some (.slice a2 (dig b64 (dn x.den)).length c2) ∧ w'.cell? ⟨w.heap.size + 1, 0, none⟩ = some (.bool sy) ∧ w'.cell? ⟨w.heap.size + 1, 1, none⟩ = some (.slice a3 (dig b64 y.num.natAbs).length c3) ∧ w'.cell? ⟨w.heap.size + 1, 2, none⟩ = some (.slice a4 (dig b64 (dn y.den)).length c4) ∧ w'.cell? ⟨w.heap.size + 2, 0, none⟩ = some (cellOf w' ⟨w.heap.size + 2, 0, none⟩) ∧ w'.cell? ⟨w.heap.size + 2, 1, none⟩ = some (cellOf w' ⟨w.heap.size + 2, 1, none⟩) ∧ w'.cell? ⟨w.heap.size + 2, 2, none⟩ = some (cellOf w' ⟨w.heap.size + 2, 2, none⟩) ∧ w'.frozen? ⟨w.heap.size + 2, 0, none⟩ = false ∧ w'.frozen? ⟨w.heap.size + 2, 1, none⟩ = false ∧ w'.frozen? ⟨w.heap.size + 2, 2, none⟩ = false)
    (first | exact hold6 hWB2 p0 p1 p2 r0 r1 r2 HB1.out | exact hold6_call (Nat.le_refl _) hbD (by assumption) | exact hold6_call (Nat.le_refl _) hbC (by assumption))
    (first
      | (go_at_call_of 51 (Value.slice a1 (dig b64 x.num.natAbs).length c1); refine (times_any x.num.natAbs y.den _ _ _ (N1.out.below (And.left (by assumption))) (hXB.out.below (Below.refl _ _).drew) (by have := HLX.out.1; have := HLY.out.2; omega)).mono ?_; rintro e wC ⟨vC, rfl, hvC, hbC⟩)
      | (go_at_call_of 51 (Value.slice a3 (dig b64 y.num.natAbs).length c3); refine (times_any y.num.natAbs x.den _ _ _ (N3.out.below (And.left (by assumption))) ((hXA.out.below (Below.refl _ _).drew).below hbC) (by have := HLX.out.2; have := HLY.out.1; omega)).mono ?_; rintro e wD ⟨vD, rfl, hvD, hbD⟩))
  rename_i hS1
  have hD : Below wB.heap.size wB wD := ext_trans (Below.refl _ _).drew (ext_trans hbC hbD)
  have HB2 : Hid (RB wD (w.heap.size + 2)) := RB.keep HB1.out hD hl31
  have hl32 := HB2.out.lt
  have hB3 := Lib.hid (hvC.below hbD)
  have hD3 := Lib.hid hvD
  have hXA2 := Lib.hid (hXA.out.below hD)
  have hXB2 := Lib.hid (hXB.out.below hD)
  obtain ⟨hWD, -, p0', p1', p2', r0', r1', r2', -⟩ := hS1
  clear p0 p1 p2 r0 r1 r2
  replace p0 := p0'
  replace p1 := p1'
  replace p2 := p2'
  replace r0 := r0'
  replace r1 := r1'
  replace r2 := r2'
  clear p0' p1' p2' r0' r1' r2'
  clear hbC hbD hvC hvD hD HB1 hXA hXB hWB hWB2 hl31
  go_wp2_with fail
  refine (times_any x.den y.den _ _ _ hXA2.out hXB2.out (by have := HLX.out.2; have := HLY.out.2; omega)).mono ?_
  rintro e W2 ⟨vC, rfl, hvC, hbF⟩
  have HC3 := Lib.hid hvC
  have HN1 := Lib.hid (hB3.out.below hbF)
  have HN2 := Lib.hid (hD3.out.below hbF)
  have HB3 : Hid (RB W2 (w.heap.size + 2)) := RB.keep HB2.out hbF hl32
  have e6 := hold6_call (Nat.le_refl _) hbF (hold6 hWD p0 p1 p2 r0 r1 r2 HB2.out)
  obtain ⟨hW2, -, p0', p1', p2', r0', r1', r2', -⟩ := e6
  clear p0 p1 p2 r0 r1 r2 hbF HB2 hB3 hD3 hXA2 hXB2 hvC hWD hl32
  replace p0 := p0'
  replace p1 := p1'
  replace p2 := p2'
  replace r0 := r0'
  replace r1 := r1'
  replace r2 := r2'
  clear p0' p1' p2' r0' r1' r2'
  have HB2 := HB3
  have hl32 := HB2.out.lt
  clear HB3
  generalize x.num.natAbs * y.den = A at *
  generalize y.num.natAbs * x.den = B at *
  generalize x.den * y.den = C at *
  by_cases hs : (sx == sy) = true
  · have Hs := Lib.hid hs
    go_wp2_with fail
    have hWe : Below w.heap.size w W2.drew := hW2.drew
    go_region_held3 (fun w' => Below w.heap.size w w' ∧ RB w' (w.heap.size + 2) ∧ w'.cell? ⟨w.heap.size, 0, none⟩ = some (.bool sx) ∧ w'.cell? ⟨w.heap.size, 1, none⟩ = some (.slice a1 (dig b64 x.num.natAbs).length c1) ∧ w'.cell? ⟨w.heap.size, 2, none⟩ = some (.slice a2 (dig b64 (dn x.den)).length c2) ∧ w'.cell? ⟨w.heap.size + 1, 0, none⟩ = some (.bool sy) ∧ w'.cell? ⟨w.heap.size + 1, 1, none⟩ = some (.slice a3 (dig b64 y.num.natAbs).length c3) ∧ w'.cell? ⟨w.heap.size + 1, 2, none⟩ = some (.slice a4 (dig b64 (dn y.den)).length c4) ∧ w'.cell? ⟨w.heap.size + 2, 0, none⟩ = some (cellOf w' ⟨w.heap.size + 2, 0, none⟩) ∧ w'.cell? ⟨w.heap.size + 2, 1, none⟩ = some (cellOf w' ⟨w.heap.size + 2, 1, none⟩) ∧ w'.cell? ⟨w.heap.size + 2, 2, none⟩ = some (cellOf w' ⟨w.heap.size + 2, 2, none⟩) ∧ w'.frozen? ⟨w.heap.size + 2, 0, none⟩ = false ∧ w'.frozen? ⟨w.heap.size + 2, 1, none⟩ = false ∧ w'.frozen? ⟨w.heap.size + 2, 2, none⟩ = false)
      (first | exact hold6 hWe p0 p1 p2 r0 r1 r2 HB2.out | exact hold6_call (Nat.le_refl _) hbE (by assumption) | exact hold6_call (Nat.le_refl _) hbD (by assumption) | exact hold6_store _ _ _ _ _ _ _ (by omega) (by omega) (by omega) (by assumption) _ rfl)
      (first
        | (go_at_call 53; (refine (plus_any A B _ _ _ (HN1.out.below (Below.refl _ _).drew) (HN2.out.below (Below.refl _ _).drew) (by have := HA.out; omega) (by have := HBB.out; omega)).mono ?_); rintro e wD' ⟨vE, rfl, hvE, hbD⟩)
        | (go_at_call 50; (refine (reduced_any _ (A + B) C _ _ _ hvE (HC3.out.below (ext_trans (show Below W2.heap.size W2 W2.drew from (Below.refl _ _).drew) hbD)) HP.out (by have := HA.out; have := HBB.out; have := HS.out; omega) (by have := HC.out; omega)).mono ?_); rintro e wE ⟨vF, rfl, hvF, hbE⟩; obtain ⟨a5, c5, a6, c6, rfl, n5, n6⟩ := IsRat.opened hvF))
    have hE := ext_trans hbD hbE
    have hRB := RB.keep (a := W2.drew) HB2.out hE hl32
    obtain ⟨g0, g1, g2, f0', f1', f2'⟩ := hRB.cell
    have hx := hWe.trans (hE.mono hWe.size)
    have hBl := hRB.lt
    have He' := He.out sx (A + B) (by have e : sx = sy := (by simpa using Hs.out); rw [← e]; exact sg_add sx A B)
    generalize mkQ sx (A + B) C = q at *
    subst He'
    go_wp2_with fail
    refine bodyPost_ret (v := .agg #[.bool (decide ((x + y).num < 0)), .slice a5 (dig b64 (x + y).num.natAbs).length _, .slice a6 (dig b64 (dn (x + y).den)).length _]) (by simp [results, Try.results22, go_sem, g0, g1, g2]; first | done | exact ⟨rfl, rfl⟩ | rfl) rfl ⟨_, rfl, ?_, below_store3 hx (by omega)⟩
    exact IsRat.stored hRB n5 n6 rfl rfl
  · have hs' : (sx == sy) = false := by simpa using hs
    have Hs := Lib.hid hs'
    clear hs
    go_wp2_with fail
    refine (cmp_any A B _ _ W2 HN1.out HN2.out).mono ?_
    rintro e w' ⟨rfl, nq, rfl⟩
    have hWn : Below w.heap.size w (W2.drewN nq) := below_dn hW2 nq
    have HC4 := Lib.hid (HC3.out.below (below_dn (Below.refl W2.heap.size W2) nq))
    have HN3 := Lib.hid (HN1.out.below (below_dn (Below.refl W2.heap.size W2) nq))
    have HN4 := Lib.hid (HN2.out.below (below_dn (Below.refl W2.heap.size W2) nq))
    have HB4 : Hid (RB (W2.drewN nq) (w.heap.size + 2)) := HB2.out
    have hl34 := HB4.out.lt
    clear HB2 HN1 HN2 HC3 hW2 hl32
    have q0 : (W2.drewN nq).cell? ⟨w.heap.size, 0, none⟩ = _ := p0
    have q1 : (W2.drewN nq).cell? ⟨w.heap.size, 1, none⟩ = _ := p1
    have q2 : (W2.drewN nq).cell? ⟨w.heap.size, 2, none⟩ = _ := p2
    have q3 : (W2.drewN nq).cell? ⟨w.heap.size + 1, 0, none⟩ = _ := r0
    have q4 : (W2.drewN nq).cell? ⟨w.heap.size + 1, 1, none⟩ = _ := r1
    have q5 : (W2.drewN nq).cell? ⟨w.heap.size + 1, 2, none⟩ = _ := r2
    clear p0 p1 p2 r0 r1 r2
    have p0 := q0
    have p1 := q1
    have p2 := q2
    have r0 := q3
    have r1 := q4
    have r2 := q5
    clear q0 q1 q2 q3 q4 q5
    generalize W2.drewN nq = W3 at *
    have HC3 := HC4
    have HN1 := HN3
    have HN2 := HN4
    have HB2 := HB4
    have hl32 := hl34
    have hW2 := hWn
    clear HC4 HN3 HN4 HB4 hl34 hWn
    have hWW : W3 = W3 := rfl
    clear hWW
    by_cases hge : B ≤ A
    · have hc := cmpN_ge hge
      generalize cmpN A B = c at *
      have Hge := Lib.hid hge
      clear hge
      go_wp2_with fail
      have hWe : Below w.heap.size w W3.drew := hW2.drew
      go_region_held3 (fun w' => Below w.heap.size w w' ∧ RB w' (w.heap.size + 2) ∧ w'.cell? ⟨w.heap.size, 0, none⟩ = some (.bool sx) ∧ w'.cell? ⟨w.heap.size, 1, none⟩ = some (.slice a1 (dig b64 x.num.natAbs).length c1) ∧ w'.cell? ⟨w.heap.size, 2, none⟩ = some (.slice a2 (dig b64 (dn x.den)).length c2) ∧ w'.cell? ⟨w.heap.size + 1, 0, none⟩ = some (.bool sy) ∧ w'.cell? ⟨w.heap.size + 1, 1, none⟩ = some (.slice a3 (dig b64 y.num.natAbs).length c3) ∧ w'.cell? ⟨w.heap.size + 1, 2, none⟩ = some (.slice a4 (dig b64 (dn y.den)).length c4) ∧ w'.cell? ⟨w.heap.size + 2, 0, none⟩ = some (cellOf w' ⟨w.heap.size + 2, 0, none⟩) ∧ w'.cell? ⟨w.heap.size + 2, 1, none⟩ = some (cellOf w' ⟨w.heap.size + 2, 1, none⟩) ∧ w'.cell? ⟨w.heap.size + 2, 2, none⟩ = some (cellOf w' ⟨w.heap.size + 2, 2, none⟩) ∧ w'.frozen? ⟨w.heap.size + 2, 0, none⟩ = false ∧ w'.frozen? ⟨w.heap.size + 2, 1, none⟩ = false ∧ w'.frozen? ⟨w.heap.size + 2, 2, none⟩ = false)
        (first | exact hold6 hWe p0 p1 p2 r0 r1 r2 HB2.out | exact hold6_call (Nat.le_refl _) hbE (by assumption) | exact hold6_call (Nat.le_refl _) hbD (by assumption) | exact hold6_store _ _ _ _ _ _ _ (by omega) (by omega) (by omega) (by assumption) _ rfl)
        (first
          | (go_at_call 55; (refine (minus_any A B _ _ _ (HN1.out.below (Below.refl _ _).drew) (HN2.out.below (Below.refl _ _).drew) Hge.out (by have := HA.out; omega)).mono ?_); rintro e wD' ⟨vE, rfl, hvE, hbD⟩)
          | (go_at_call 50; (refine (reduced_any _ (A - B) C _ _ _ hvE (HC3.out.below (ext_trans (show Below W3.heap.size W3 W3.drew from (Below.refl _ _).drew) hbD)) HP.out (by have := HA.out; exact Nat.le_trans (dig_length_mono b64_two (Nat.sub_le _ _)) (by omega)) (by have := HC.out; omega)).mono ?_); rintro e wE ⟨vF, rfl, hvF, hbE⟩; obtain ⟨a5, c5, a6, c6, rfl, n5, n6⟩ := IsRat.opened hvF))
      have hE := ext_trans hbD hbE
      have hRB := RB.keep (a := W3.drew) HB2.out hE hl32
      obtain ⟨g0, g1, g2, f0', f1', f2'⟩ := hRB.cell
      have hx := hWe.trans (hE.mono hWe.size)
      have hBl := hRB.lt
      have He' := He.out sx (A - B) (sg_sub Hs.out Hge.out)
      generalize mkQ sx (A - B) C = q at *
      subst He'
      go_wp2_with fail
      refine bodyPost_ret (v := .agg #[.bool (decide ((x + y).num < 0)), .slice a5 (dig b64 (x + y).num.natAbs).length _, .slice a6 (dig b64 (dn (x + y).den)).length _]) (by simp [results, Try.results22, go_sem, g0, g1, g2]; first | done | exact ⟨rfl, rfl⟩ | rfl) rfl ⟨_, rfl, ?_, below_store3 hx (by omega)⟩
      exact IsRat.stored hRB n5 n6 rfl rfl
    · have hc := cmpN_nge hge
      generalize cmpN A B = c at *
      have Hge : Hid (A ≤ B) := Nat.le_of_lt (Nat.lt_of_not_le hge)
      clear hge
      go_wp2_with fail
      have hWe : Below w.heap.size w W3.drew := hW2.drew
      go_region_held3 (fun w' => Below w.heap.size w w' ∧ RB w' (w.heap.size + 2) ∧ w'.cell? ⟨w.heap.size, 0, none⟩ = some (.bool sx) ∧ w'.cell? ⟨w.heap.size, 1, none⟩ = some (.slice a1 (dig b64 x.num.natAbs).length c1) ∧ w'.cell? ⟨w.heap.size, 2, none⟩ = some (.slice a2 (dig b64 (dn x.den)).length c2) ∧ w'.cell? ⟨w.heap.size + 1, 0, none⟩ = some (.bool sy) ∧ w'.cell? ⟨w.heap.size + 1, 1, none⟩ = some (.slice a3 (dig b64 y.num.natAbs).length c3) ∧ w'.cell? ⟨w.heap.size + 1, 2, none⟩ = some (.slice a4 (dig b64 (dn y.den)).length c4) ∧ w'.cell? ⟨w.heap.size + 2, 0, none⟩ = some (cellOf w' ⟨w.heap.size + 2, 0, none⟩) ∧ w'.cell? ⟨w.heap.size + 2, 1, none⟩ = some (cellOf w' ⟨w.heap.size + 2, 1, none⟩) ∧ w'.cell? ⟨w.heap.size + 2, 2, none⟩ = some (cellOf w' ⟨w.heap.size + 2, 2, none⟩) ∧ w'.frozen? ⟨w.heap.size + 2, 0, none⟩ = false ∧ w'.frozen? ⟨w.heap.size + 2, 1, none⟩ = false ∧ w'.frozen? ⟨w.heap.size + 2, 2, none⟩ = false)
        (first | exact hold6 hWe p0 p1 p2 r0 r1 r2 HB2.out | exact hold6_call (Nat.le_refl _) hbE (by assumption) | exact hold6_call (Nat.le_refl _) hbD (by assumption) | exact hold6_store _ _ _ _ _ _ _ (by omega) (by omega) (by omega) (by assumption) _ rfl)
        (first
          | (go_at_call 55; (refine (minus_any B A _ _ _ (HN2.out.below (Below.refl _ _).drew) (HN1.out.below (Below.refl _ _).drew) Hge.out (by have := HBB.out; omega)).mono ?_); rintro e wD' ⟨vE, rfl, hvE, hbD⟩)
          | (go_at_call 50; (refine (reduced_any _ (B - A) C _ _ _ hvE (HC3.out.below (ext_trans (show Below W3.heap.size W3 W3.drew from (Below.refl _ _).drew) hbD)) HP.out (by have := HBB.out; exact Nat.le_trans (dig_length_mono b64_two (Nat.sub_le _ _)) (by omega)) (by have := HC.out; omega)).mono ?_); rintro e wE ⟨vF, rfl, hvF, hbE⟩; obtain ⟨a5, c5, a6, c6, rfl, n5, n6⟩ := IsRat.opened hvF))
      have hE := ext_trans hbD hbE
      have hRB := RB.keep (a := W3.drew) HB2.out hE hl32
      obtain ⟨g0, g1, g2, f0', f1', f2'⟩ := hRB.cell
      have hx := hWe.trans (hE.mono hWe.size)
      have hBl := hRB.lt
      have He' := He.out sy (B - A) (by rw [Int.add_comm]; exact sg_sub (by have := Hs.out; cases sx <;> cases sy <;> simp_all) Hge.out)
      generalize mkQ sy (B - A) C = q at *
      subst He'
      go_wp2_with fail
      refine bodyPost_ret (v := .agg #[.bool (decide ((x + y).num < 0)), .slice a5 (dig b64 (x + y).num.natAbs).length _, .slice a6 (dig b64 (dn (x + y).den)).length _]) (by simp [results, Try.results22, go_sem, g0, g1, g2]; first | done | exact ⟨rfl, rfl⟩ | rfl) rfl ⟨_, rfl, ?_, below_store3 hx (by omega)⟩
      exact IsRat.stored hRB n5 n6 rfl rfl

end Go.Proofs.Ytkdcgkafjkklcaa

/- THE WALKS OF ratio's Mul, by, Div. -/
namespace Go.Proofs.Ytkdcgkafjkklcaa
open Go.RowKit

set_option maxRecDepth 100000 in
set_option maxHeartbeats 4000000 in
theorem mulRat_any (x y : Rat) (vx vy : Value) (w : World) (hx : IsRat w vx x) (hy : IsRat w vy y) (hlx : szR x 68719476736) (hly : szR y 68719476736) : Calls Try.prog 21 #[vx, vy] w (RetRat (x * y) w) := by
  obtain ⟨a1, c1, a2, c2, rfl, n1, n2⟩ := hx.opened
  obtain ⟨a3, c3, a4, c4, rfl, n3, n4⟩ := hy.opened
  have N1 := Lib.hid n1
  have N2 := Lib.hid n2
  have N3 := Lib.hid n3
  have N4 := Lib.hid n4
  have He := Lib.hid (mkQ_mul x y)
  have HLX := Lib.hid hlx
  have HLY := Lib.hid hly
  clear hx hy n1 n2 n3 n4 hlx hly
  go_enter Try.func21, Try.ntmps21
  go_wp2_with fail
  generalize hsx : decide (x.num < 0) = sx at *
  generalize hsy : decide (y.num < 0) = sy at *
  clear hsx hsy
  generalize hW0 : ((w.alloc (.cells #[.bool sx, .slice a1 (dig b64 x.num.natAbs).length c1, .slice a2 (dig b64 (dn x.den)).length c2] 50)).alloc (.cells #[.bool sy, .slice a3 (dig b64 y.num.natAbs).length c3, .slice a4 (dig b64 (dn y.den)).length c4] 50)).alloc (.cells #[.bool false, .slice none 0 0, .slice none 0 0] 50) = W at *
  obtain ⟨hal, hB1, hB2, hB3⟩ := boxes3 w _ _ _ _ W hW0.symm
  clear hW0
  have hW : Below w.heap.size w W.drew := hal.drew
  have p0 := blk_cell hB1 0 (.bool sx) rfl
  have p1 := blk_cell hB1 1 (.slice a1 (dig b64 x.num.natAbs).length c1) rfl
  have p2 := blk_cell hB1 2 (.slice a2 (dig b64 (dn x.den)).length c2) rfl
  have r0 := blk_cell hB2 0 (.bool sy) rfl
  have r1 := blk_cell hB2 1 (.slice a3 (dig b64 y.num.natAbs).length c3) rfl
  have r2 := blk_cell hB2 2 (.slice a4 (dig b64 (dn y.den)).length c4) rfl
  have HB : Hid (RB W (w.heap.size + 2)) := ⟨false, none, 0, 0, none, 0, 0, _, hB3⟩
  have hl3 := blk_lt hB3
  clear hB1 hB2 hB3
  go_region_held3 (fun w' => Below w.heap.size w w' ∧ RB w' (w.heap.size + 2) ∧ w'.cell? ⟨w.heap.size, 0, none⟩ = some (.bool sx) ∧ w'.cell? ⟨w.heap.size, 1, none⟩ = some (.slice a1 (dig b64 x.num.natAbs).length c1) ∧ w'.cell? ⟨w.heap.size, 2, none⟩ = some (.slice a2 (dig b64 (dn x.den)).length c2) ∧ w'.cell? ⟨w.heap.size + 1, 0, none⟩ = some (.bool sy) ∧ w'.cell? ⟨w.heap.size + 1, 1, none⟩ = some (.slice a3 (dig b64 y.num.natAbs).length c3) ∧ w'.cell? ⟨w.heap.size + 1, 2, none⟩ = some (.slice a4 (dig b64 (dn y.den)).length c4) ∧ w'.cell? ⟨w.heap.size + 2, 0, none⟩ = some (cellOf w' ⟨w.heap.size + 2, 0, none⟩) ∧ w'.cell? ⟨w.heap.size + 2, 1, none⟩ = some (cellOf w' ⟨w.heap.size + 2, 1, none⟩) ∧ w'.cell? ⟨w.heap.size + 2, 2, none⟩ = some (cellOf w' ⟨w.heap.size + 2, 2, none⟩) ∧ w'.frozen? ⟨w.heap.size + 2, 0, none⟩ = false ∧ w'.frozen? ⟨w.heap.size + 2, 1, none⟩ = false ∧ w'.frozen? ⟨w.heap.size + 2, 2, none⟩ = false)
    (first | exact hold6 hW p0 p1 p2 r0 r1 r2 HB.out | exact hold6_call (Nat.le_refl _) hbE (by assumption) | exact hold6_call (Nat.le_refl _) hbD (by assumption) | exact hold6_call (Nat.le_refl _) hbC (by assumption) | exact hold6_call (Nat.le_refl _) hbB (by assumption) | exact hold6_call (Nat.le_refl _) hbA (by assumption) | exact hold6_store _ _ _ _ _ _ _ (by omega) (by omega) (by omega) (by assumption) _ rfl)
    (first
      | (go_at_call_of 51 (Value.slice a1 (dig b64 x.num.natAbs).length c1); refine (times_any x.num.natAbs y.num.natAbs _ _ _ (N1.out.below (And.left (by assumption))) (N3.out.below (And.left (by assumption))) (by have := HLX.out.1; have := HLY.out.1; omega)).mono ?_; rintro e wA ⟨vA, rfl, hvA, hbA⟩)
      | (go_at_call_of 52 (Value.slice a2 (dig b64 (dn x.den)).length c2); (with_reducible refine (under_any x.den _ _ (N2.out.below (And.left (by assumption))) x.den_pos).mono ?_); rintro e wB ⟨vB, rfl, hvB, hbB⟩)
      | (go_at_call_of 52 (Value.slice a4 (dig b64 (dn y.den)).length c4); (with_reducible refine (under_any y.den _ _ (N4.out.below (And.left (by assumption))) y.den_pos).mono ?_); rintro e wC ⟨vC, rfl, hvC, hbC⟩)
      | (go_at_call 51; refine (times_any x.den y.den _ _ _ (hvB.below hbC) hvC (by have := HLX.out.2; have := HLY.out.2; omega)).mono ?_; rintro e wD ⟨vD, rfl, hvD, hbD⟩)
      | (go_at_call 50; refine (reduced_any _ (x.num.natAbs * y.num.natAbs) (x.den * y.den) _ _ _ (hvA.below (ext_trans hbB (ext_trans hbC hbD))) hvD (Nat.mul_pos x.den_pos y.den_pos) (by have := dig_length_mul b64_two x.num.natAbs y.num.natAbs; have := HLX.out.1; have := HLY.out.1; omega) (by have := dig_length_mul b64_two x.den y.den; have := HLX.out.2; have := HLY.out.2; omega)).mono ?_; rintro e wE ⟨vE, rfl, hvE, hbE⟩; obtain ⟨a5, c5, a6, c6, rfl, n5, n6⟩ := IsRat.opened hvE))
  have hE := ext_trans (ext_trans (ext_trans (ext_trans hbA hbB) hbC) hbD) hbE
  have hRB := RB.keep (a := W.drew) HB.out hE hl3
  obtain ⟨g0, g1, g2, f0', f1', f2'⟩ := hRB.cell
  have hx := hW.trans (hE.mono hW.size)
  have hBl := hRB.lt
  have He' := He.out
  generalize mkQ (!sx == sy) (x.num.natAbs * y.num.natAbs) (x.den * y.den) = q at *
  subst He'
  go_wp2_with fail
  refine bodyPost_ret (v := .agg #[.bool (decide ((x * y).num < 0)), .slice a5 (dig b64 (x * y).num.natAbs).length _, .slice a6 (dig b64 (dn (x * y).den)).length _]) (by simp [results, Try.results21, go_sem, g0, g1, g2]; first | done | exact ⟨rfl, rfl⟩ | rfl) rfl ⟨_, rfl, ?_, below_store3 hx (by omega)⟩
  exact IsRat.stored hRB n5 n6 rfl rfl

theorem mkQ_div (x y : Rat) (hy : y.num.natAbs ≠ 0) : mkQ (!(decide (x.num < 0) == decide (y.num < 0))) (x.num.natAbs * y.den) (x.den * y.num.natAbs) = x / y := by
  have hxd := x.den_pos
  have hyd := y.den_pos
  have h := new_plain (x.num * y.den) (x.den * y.num) (by
    refine Int.mul_ne_zero ?_ ?_ <;> omega)
  have e1 : (x.num * (y.den : Int)).natAbs = x.num.natAbs * y.den := by rw [Int.natAbs_mul]; rfl
  have e2 : ((x.den : Int) * y.num).natAbs = x.den * y.num.natAbs := by rw [Int.natAbs_mul]; rfl
  have e3 : decide (x.num * (y.den : Int) < 0) = decide (x.num < 0) := by
    rw [decide_eq_decide]
    constructor
    · intro h
      rcases Int.lt_or_le x.num 0 with h1 | h1
      · exact h1
      · have := Int.mul_nonneg h1 (show (0:Int) ≤ y.den by omega); omega
    · intro h; exact Int.mul_neg_of_neg_of_pos h (by omega)
  have e4 : decide ((x.den : Int) * y.num < 0) = decide (y.num < 0) := by
    rw [decide_eq_decide]
    constructor
    · intro h
      rcases Int.lt_or_le y.num 0 with h1 | h1
      · exact h1
      · have := Int.mul_nonneg (show (0:Int) ≤ x.den by omega) h1; omega
    · intro h; exact Int.mul_neg_of_pos_of_neg (by omega) h
  rw [e1, e2, e3, e4] at h
  rw [show (!(decide (x.num < 0) == decide (y.num < 0))) = (decide (x.num < 0) != decide (y.num < 0)) from rfl, h]
  have hx : x = Rat.divInt x.num x.den := (Rat.num_divInt_den x).symm
  have hy2 : y = Rat.divInt y.num y.den := (Rat.num_divInt_den y).symm
  conv => rhs; rw [hx, hy2]
  rw [← Rat.divInt_eq_div, Rat.div_def, Rat.inv_divInt, Rat.divInt_mul_divInt]

set_option maxRecDepth 100000 in
set_option maxHeartbeats 4000000 in
theorem byRat_any (x y : Rat) (vx vy : Value) (w : World) (hx : IsRat w vx x) (hy : IsRat w vy y) (hlx : szR x 68719476736) (hly : szR y 68719476736) (hy0 : y.num.natAbs ≠ 0) : Calls Try.prog 97 #[vx, vy] w (RetRat (x / y) w) := by
  obtain ⟨a1, c1, a2, c2, rfl, n1, n2⟩ := hx.opened
  obtain ⟨a3, c3, a4, c4, rfl, n3, n4⟩ := hy.opened
  have N1 := Lib.hid n1
  have N2 := Lib.hid n2
  have N3 := Lib.hid n3
  have N4 := Lib.hid n4
  have He := Lib.hid (mkQ_div x y hy0)
  have HY0 : Hid (0 < y.num.natAbs) := Nat.pos_of_ne_zero hy0
  clear hy0
  have HLX := Lib.hid hlx
  have HLY := Lib.hid hly
  clear hx hy n1 n2 n3 n4 hlx hly
  go_enter Try.func97, Try.ntmps97
  go_wp2_with fail
  generalize hsx : decide (x.num < 0) = sx at *
  generalize hsy : decide (y.num < 0) = sy at *
  clear hsx hsy
  generalize hW0 : ((w.alloc (.cells #[.bool sx, .slice a1 (dig b64 x.num.natAbs).length c1, .slice a2 (dig b64 (dn x.den)).length c2] 50)).alloc (.cells #[.bool sy, .slice a3 (dig b64 y.num.natAbs).length c3, .slice a4 (dig b64 (dn y.den)).length c4] 50)).alloc (.cells #[.bool false, .slice none 0 0, .slice none 0 0] 50) = W at *
  obtain ⟨hal, hB1, hB2, hB3⟩ := boxes3 w _ _ _ _ W hW0.symm
  clear hW0
  have hW : Below w.heap.size w W.drew := hal.drew
  have p0 := blk_cell hB1 0 (.bool sx) rfl
  have p1 := blk_cell hB1 1 (.slice a1 (dig b64 x.num.natAbs).length c1) rfl
  have p2 := blk_cell hB1 2 (.slice a2 (dig b64 (dn x.den)).length c2) rfl
  have r0 := blk_cell hB2 0 (.bool sy) rfl
  have r1 := blk_cell hB2 1 (.slice a3 (dig b64 y.num.natAbs).length c3) rfl
  have r2 := blk_cell hB2 2 (.slice a4 (dig b64 (dn y.den)).length c4) rfl
  have HB : Hid (RB W (w.heap.size + 2)) := ⟨false, none, 0, 0, none, 0, 0, _, hB3⟩
  have hl3 := blk_lt hB3
  clear hB1 hB2 hB3
  go_region_held3 (fun w' => Below w.heap.size w w' ∧ RB w' (w.heap.size + 2) ∧ w'.cell? ⟨w.heap.size, 0, none⟩ = some (.bool sx) ∧ w'.cell? ⟨w.heap.size, 1, none⟩ = some (.slice a1 (dig b64 x.num.natAbs).length c1) ∧ w'.cell? ⟨w.heap.size, 2, none⟩ = some (.slice a2 (dig b64 (dn x.den)).length c2) ∧ w'.cell? ⟨w.heap.size + 1, 0, none⟩ = some (.bool sy) ∧ w'.cell? ⟨w.heap.size + 1, 1, none⟩ = some (.slice a3 (dig b64 y.num.natAbs).length c3) ∧ w'.cell? ⟨w.heap.size + 1, 2, none⟩ = some (.slice a4 (dig b64 (dn y.den)).length c4) ∧ w'.cell? ⟨w.heap.size + 2, 0, none⟩ = some (cellOf w' ⟨w.heap.size + 2, 0, none⟩) ∧ w'.cell? ⟨w.heap.size + 2, 1, none⟩ = some (cellOf w' ⟨w.heap.size + 2, 1, none⟩) ∧ w'.cell? ⟨w.heap.size + 2, 2, none⟩ = some (cellOf w' ⟨w.heap.size + 2, 2, none⟩) ∧ w'.frozen? ⟨w.heap.size + 2, 0, none⟩ = false ∧ w'.frozen? ⟨w.heap.size + 2, 1, none⟩ = false ∧ w'.frozen? ⟨w.heap.size + 2, 2, none⟩ = false)
    (first | exact hold6 hW p0 p1 p2 r0 r1 r2 HB.out | exact hold6_call (Nat.le_refl _) hbE (by assumption) | exact hold6_call (Nat.le_refl _) hbD (by assumption) | exact hold6_call (Nat.le_refl _) hbC (by assumption) | exact hold6_call (Nat.le_refl _) hbB (by assumption) | exact hold6_call (Nat.le_refl _) hbA (by assumption) | exact hold6_store _ _ _ _ _ _ _ (by omega) (by omega) (by omega) (by assumption) _ rfl)
    (first
      | (go_at_call_of 52 (Value.slice a4 (dig b64 (dn y.den)).length c4); (with_reducible refine (under_any y.den _ _ (N4.out.below (And.left (by assumption))) y.den_pos).mono ?_); rintro e wA ⟨vA, rfl, hvA, hbA⟩)
      | (go_at_call_of 51 (Value.slice a1 (dig b64 x.num.natAbs).length c1); refine (times_any x.num.natAbs y.den _ _ _ (N1.out.below (And.left (by assumption))) hvA (by have := HLX.out.1; have := HLY.out.2; omega)).mono ?_; rintro e wB ⟨vB, rfl, hvB, hbB⟩)
      | (go_at_call_of 52 (Value.slice a2 (dig b64 (dn x.den)).length c2); (with_reducible refine (under_any x.den _ _ (N2.out.below (And.left (by assumption))) x.den_pos).mono ?_); rintro e wC ⟨vC, rfl, hvC, hbC⟩)
      | (go_at_call 51; refine (times_any x.den y.num.natAbs _ _ _ hvC (N3.out.below (And.left (by assumption))) (by have := HLX.out.2; have := HLY.out.1; omega)).mono ?_; rintro e wD ⟨vD, rfl, hvD, hbD⟩)
      | (go_at_call 50; refine (reduced_any _ (x.num.natAbs * y.den) (x.den * y.num.natAbs) _ _ _ (hvB.below (ext_trans hbC hbD)) hvD (Nat.mul_pos x.den_pos HY0.out) (by have := dig_length_mul b64_two x.num.natAbs y.den; have := HLX.out.1; have := HLY.out.2; omega) (by have := dig_length_mul b64_two x.den y.num.natAbs; have := HLX.out.2; have := HLY.out.1; omega)).mono ?_; rintro e wE ⟨vE, rfl, hvE, hbE⟩; obtain ⟨a5, c5, a6, c6, rfl, n5, n6⟩ := IsRat.opened hvE))
  have hE := ext_trans (ext_trans (ext_trans (ext_trans hbA hbB) hbC) hbD) hbE
  have hRB := RB.keep (a := W.drew) HB.out hE hl3
  obtain ⟨g0, g1, g2, f0', f1', f2'⟩ := hRB.cell
  have hx := hW.trans (hE.mono hW.size)
  have hBl := hRB.lt
  have He' := He.out
  generalize mkQ (!sx == sy) (x.num.natAbs * y.den) (x.den * y.num.natAbs) = q at *
  subst He'
  go_wp2_with fail
  refine bodyPost_ret (v := .agg #[.bool (decide ((x / y).num < 0)), .slice a5 (dig b64 (x / y).num.natAbs).length _, .slice a6 (dig b64 (dn (x / y).den)).length _]) (by simp [results, Try.results97, go_sem, g0, g1, g2]; first | done | exact ⟨rfl, rfl⟩ | rfl) rfl ⟨_, rfl, ?_, below_store3 hx (by omega)⟩
  exact IsRat.stored hRB n5 n6 rfl rfl


end Go.Proofs.Ytkdcgkafjkklcaa

/- SIZES OF FRACTIONS: of sums, products, quotients. -/
namespace Go.Proofs.Ytkdcgkafjkklcaa
open Go.RowKit

theorem mkQ_szR_sz (s : Bool) (n d k : Nat) (hd : 0 < d) (h1 : (dig b64 n).length ≤ k) (h2 : (dig b64 d).length ≤ k) : szR (mkQ s n d) k := by
  unfold szR
  rw [mkQ_num s n d hd, mkQ_den s n d hd]
  exact ⟨Nat.le_trans (dig_length_mono b64_two (Nat.div_le_self _ _)) h1, Nat.le_trans (dig_length_mono b64_two (Nat.div_le_self _ _)) h2⟩
theorem szR_mul {x y : Rat} {j k : Nat} (hx : szR x j) (hy : szR y k) : szR (x * y) (j + k) := by
  rw [← mkQ_mul]
  have h1 := dig_length_mul b64_two x.num.natAbs y.num.natAbs
  have h2 := dig_length_mul b64_two x.den y.den
  have := hx.1; have := hx.2; have := hy.1; have := hy.2
  exact mkQ_szR_sz _ _ _ _ (Nat.mul_pos x.den_pos y.den_pos) (by omega) (by omega)
theorem szR_div {x y : Rat} {j k : Nat} (hx : szR x j) (hy : szR y k) (h0 : y.num.natAbs ≠ 0) : szR (x / y) (j + k) := by
  rw [← mkQ_div x y h0]
  have h1 := dig_length_mul b64_two x.num.natAbs y.den
  have h2 := dig_length_mul b64_two x.den y.num.natAbs
  have := hx.1; have := hx.2; have := hy.1; have := hy.2
  exact mkQ_szR_sz _ _ _ _ (Nat.mul_pos x.den_pos (Nat.pos_of_ne_zero h0)) (by omega) (by omega)
theorem szR_neg {x : Rat} {j : Nat} (hx : szR x j) : szR (-x) j := ⟨by rw [natAbs_neg_num]; exact hx.1, hx.2⟩
theorem szR_mono {x : Rat} {j k : Nat} (h : szR x j) (hjk : j ≤ k) : szR x k := ⟨Nat.le_trans h.1 hjk, Nat.le_trans h.2 hjk⟩
theorem szR_add {x y : Rat} {j k : Nat} (hx : szR x j) (hy : szR y k) : szR (x + y) (j + k + 1) := by
  have hz : ∃ (s : Bool) (n : Nat), sg s n = sg (decide (x.num < 0)) (x.num.natAbs * y.den) + sg (decide (y.num < 0)) (y.num.natAbs * x.den) ∧ n ≤ x.num.natAbs * y.den + y.num.natAbs * x.den := by
    generalize hz : sg (decide (x.num < 0)) (x.num.natAbs * y.den) + sg (decide (y.num < 0)) (y.num.natAbs * x.den) = z
    refine ⟨decide (z < 0), z.natAbs, ?_, ?_⟩
    · unfold sg
      by_cases h : z < 0
      · simp [h]; omega
      · simp [h]; omega
    · have e1 := sg_natAbs (decide (x.num < 0)) (x.num.natAbs * y.den)
      have e2 := sg_natAbs (decide (y.num < 0)) (y.num.natAbs * x.den)
      omega
  obtain ⟨s, n, h, hn⟩ := hz
  rw [← mkQ_add x y s n h]
  have h1 := dig_length_mul b64_two x.num.natAbs y.den
  have h2 := dig_length_mul b64_two y.num.natAbs x.den
  have h3 := dig_length_mul b64_two x.den y.den
  have := hx.1; have := hx.2; have := hy.1; have := hy.2
  have h4 := dig_length_add b64_two (x.num.natAbs * y.den) (y.num.natAbs * x.den) (j + k) (by omega) (by omega)
  exact mkQ_szR_sz _ _ _ _ (Nat.mul_pos x.den_pos y.den_pos) (Nat.le_trans (dig_length_mono b64_two hn) h4) (by omega)
theorem szR_sub {x y : Rat} {j k : Nat} (hx : szR x j) (hy : szR y k) : szR (x - y) (j + k + 1) := by
  rw [Rat.sub_eq_add_neg]
  exact szR_add hx (szR_neg hy)
theorem szR_int {n : Int} {k : Nat} (h : n.natAbs < b64 ^ k) (hk : 1 ≤ k) : szR (n : Rat) k := by
  refine ⟨dig_length_le b64_two k _ (by simpa using h), Nat.le_trans (dig_length_le b64_two 1 _ ?_) hk⟩
  simp
  unfold b64
  omega

end Go.Proofs.Ytkdcgkafjkklcaa

/- LAYER 3, THE PLAIN PART: points, cross and dot products, outlines, areas. -/
namespace Go.Proofs.Ytkdcgkafjkklcaa

abbrev Pt := Int × Int
def crossI (a b c : Pt) : Int := (b.1 - a.1) * (c.2 - a.2) - (b.2 - a.2) * (c.1 - a.1)
def dotI (a b c : Pt) : Int := (b.1 - a.1) * (c.1 - a.1) + (b.2 - a.2) * (c.2 - a.2)
def turnI (d p : Pt) : Pt := (d.1 * p.1 + d.2 * p.2, d.1 * p.2 - d.2 * p.1)
def inB (n lo hi : Int) : Bool := decide (lo ≤ n) && decide (n ≤ hi)
def far : Int := 4398046511104
def ptOk (p : Pt) : Bool := inB p.1 (-far) far && inB p.2 (-far) far
def ptAt (l : List Pt) (i : Nat) : Pt := l.getD i (0, 0)
def ptsOk (l : List Pt) : Bool := l.all ptOk
theorem ptsOk_take (l : List Pt) (i : Nat) (hi : i < l.length) : ptsOk (l.take (i + 1)) = (ptsOk (l.take i) && ptOk (ptAt l i)) := by
  unfold ptsOk ptAt
  rw [List.take_add_one, List.all_append]
  simp [hi]
theorem ptsOk_get {l : List Pt} (h : ptsOk l = true) (i : Nat) (hi : i < l.length) : ptOk (ptAt l i) = true := by
  unfold ptsOk at h
  rw [List.all_eq_true] at h
  unfold ptAt
  have e : l.getD i (0, 0) = l[i] := by simp [hi]
  rw [e]
  exact h _ (List.getElem_mem hi)
theorem ptsOk_of_take {l : List Pt} {i : Nat} (h : ptsOk l = true) : ptsOk (l.take i) = true := by
  unfold ptsOk at *
  rw [List.all_eq_true] at *
  exact fun x hx => h x (List.mem_of_mem_take hx)
theorem ptOk_range {p : Pt} (h : ptOk p = true) : (-far ≤ p.1 ∧ p.1 ≤ far) ∧ -far ≤ p.2 ∧ p.2 ≤ far := by
  simpa [ptOk, inB] using h
theorem mul_absI {a b A B : Int} (ha : -A ≤ a ∧ a ≤ A) (hb : -B ≤ b ∧ b ≤ B) : -(A * B) ≤ a * b ∧ a * b ≤ A * B := by
  have hA : 0 ≤ A := by omega
  have h1 : (a * b).natAbs ≤ (A * B).natAbs := by
    rw [Int.natAbs_mul, Int.natAbs_mul]
    exact Nat.mul_le_mul (by omega) (by omega)
  have h2 : 0 ≤ A * B := Int.mul_nonneg hA (by omega)
  omega

/-- Whether each three corners, in order, go round counterclockwise. -/
def Round3 (l : List Pt) : Prop := ∀ k, k < l.length → ∀ j, j < k → ∀ i, i < j → 0 < crossI (ptAt l i) (ptAt l j) (ptAt l k)
open Classical in
noncomputable def outErr (l : List Pt) : Int := if l.length < 3 ∨ 16 < l.length then 4 else if ptsOk l = false then 1 else if Round3 l then 0 else 7

/-- Twice the area: the edges' parts. -/
def edgeI (l : List Pt) (i : Nat) : Int := (ptAt l i).1 * (ptAt l ((i + 1) % l.length)).2 - (ptAt l i).2 * (ptAt l ((i + 1) % l.length)).1
def areaTo (l : List Pt) : Nat → Int
  | 0 => 0
  | i + 1 => areaTo l i + edgeI l i
def areaI (l : List Pt) : Int := areaTo l l.length

theorem crossI_turn (d a b c : Pt) : crossI (turnI d a) (turnI d b) (turnI d c) = (d.1 * d.1 + d.2 * d.2) * crossI a b c := by
  unfold crossI turnI
  grind
theorem turn_apart (d a b : Pt) : ((turnI d a).1 - (turnI d b).1) * ((turnI d a).1 - (turnI d b).1) + ((turnI d a).2 - (turnI d b).2) * ((turnI d a).2 - (turnI d b).2) = ((a.1 - b.1) * (a.1 - b.1) + (a.2 - b.2) * (a.2 - b.2)) * (d.1 * d.1 + d.2 * d.2) := by
  unfold turnI
  grind
theorem ptAt_map (f : Pt → Pt) (l : List Pt) (i : Nat) (hi : i < l.length) : ptAt (l.map f) i = f (ptAt l i) := by
  unfold ptAt
  simp [hi]
theorem areaTo_turn (d : Pt) (l : List Pt) (n : Nat) (hn : n ≤ l.length) : areaTo (l.map (turnI d)) n = areaTo l n * (d.1 * d.1 + d.2 * d.2) := by
  induction n with
  | zero => simp [areaTo]
  | succ n ih =>
    have h1 : (n + 1) % l.length < l.length := Nat.mod_lt _ (by omega)
    simp only [areaTo]
    rw [ih (by omega), Int.add_mul]
    congr 1
    unfold edgeI
    rw [List.length_map, ptAt_map _ _ _ (by omega), ptAt_map _ _ _ h1]
    unfold turnI
    grind
theorem areaI_turn (d : Pt) (l : List Pt) : areaI (l.map (turnI d)) = areaI l * (d.1 * d.1 + d.2 * d.2) := by
  unfold areaI
  rw [List.length_map]
  exact areaTo_turn d l _ (Nat.le_refl _)
theorem edgeI_range {l : List Pt} {A : Int} (h : ∀ i, i < l.length → (-A ≤ (ptAt l i).1 ∧ (ptAt l i).1 ≤ A) ∧ -A ≤ (ptAt l i).2 ∧ (ptAt l i).2 ≤ A) (i : Nat) (hi : i < l.length) : -(2 * (A * A)) ≤ edgeI l i ∧ edgeI l i ≤ 2 * (A * A) := by
  have h1 := h i hi
  have h2 := h ((i + 1) % l.length) (Nat.mod_lt _ (by omega))
  have m1 := mul_absI h1.1 h2.2
  have m2 := mul_absI h1.2 h2.1
  unfold edgeI
  omega
theorem areaTo_range {l : List Pt} {A : Int} (h : ∀ i, i < l.length → (-A ≤ (ptAt l i).1 ∧ (ptAt l i).1 ≤ A) ∧ -A ≤ (ptAt l i).2 ∧ (ptAt l i).2 ≤ A) (n : Nat) (hn : n ≤ l.length) : -(n * (2 * (A * A))) ≤ areaTo l n ∧ areaTo l n ≤ n * (2 * (A * A)) := by
  induction n with
  | zero => simp [areaTo]
  | succ n ih =>
    have := ih (by omega)
    have e := edgeI_range h n (by omega)
    have e2 : ((n + 1 : Nat) : Int) * (2 * (A * A)) = n * (2 * (A * A)) + 2 * (A * A) := by rw [Int.natCast_succ, Int.add_mul, Int.one_mul]
    simp only [areaTo]
    omega

end Go.Proofs.Ytkdcgkafjkklcaa

/- THE WALKS OF ratio's Neg, less, Sub. -/
namespace Go.Proofs.Ytkdcgkafjkklcaa
open Go.RowKit

set_option maxHeartbeats 2000000 in
theorem negRat_any (x : Rat) (vx : Value) (w : World) (hx : IsRat w vx x) : Calls Try.prog 162 #[vx] w (RetRat (-x) w) := by
  obtain ⟨a1, c1, a2, c2, rfl, n1, n2⟩ := hx.opened
  have N1 := Lib.hid n1
  have N2 := Lib.hid n2
  have He := Lib.hid (neg_lt_num x)
  clear hx n1 n2
  go_enter Try.func162, Try.ntmps162
  go_wp2_with fail
  generalize hneg : decide (x.num < 0) = neg at *
  have hal : Below w.heap.size w ((w.alloc (.cells #[.bool neg, .slice a1 (dig b64 x.num.natAbs).length c1, .slice a2 (dig b64 (dn x.den)).length c2] 50)).alloc (.cells #[.bool false, .slice none 0 0, .slice none 0 0] 50)) :=
    ((Below.refl _ _).alloc (Nat.le_refl _) _).alloc (by simp) _
  have hB1 := (blk_keep (blk_new w #[.bool neg, .slice a1 (dig b64 x.num.natAbs).length c1, .slice a2 (dig b64 (dn x.den)).length c2] 50) ((Below.refl _ _).alloc (Nat.le_refl _) (.cells #[.bool false, .slice none 0 0, .slice none 0 0] 50)) (by simp))
  have hB2 := blk_new (w.alloc (.cells #[.bool neg, .slice a1 (dig b64 x.num.natAbs).length c1, .slice a2 (dig b64 (dn x.den)).length c2] 50)) #[.bool false, .slice none 0 0, .slice none 0 0] 50
  rw [World.size_alloc] at hB2
  generalize ((w.alloc (.cells #[.bool neg, .slice a1 (dig b64 x.num.natAbs).length c1, .slice a2 (dig b64 (dn x.den)).length c2] 50)).alloc (.cells #[.bool false, .slice none 0 0, .slice none 0 0] 50)) = W at *
  have p0 := blk_cell hB1 0 (.bool neg) rfl
  have p1 := blk_cell hB1 1 (.slice a1 (dig b64 x.num.natAbs).length c1) rfl
  have p2 := blk_cell hB1 2 (.slice a2 (dig b64 (dn x.den)).length c2) rfl
  have hl1 := blk_lt hB1
  have hl2 := blk_lt hB2
  have e0 := blk_cell hB2 0 (.bool false) rfl
  have e1 := blk_cell hB2 1 (.slice none 0 0) rfl
  have e2 := blk_cell hB2 2 (.slice none 0 0) rfl
  have f0 := blk_frozen hB2 0
  have f1 := blk_frozen hB2 1
  have f2 := blk_frozen hB2 2
  have HB : Hid (RB W (w.heap.size + 1)) := ⟨false, none, 0, 0, none, 0, 0, _, hB2⟩
  clear hB1 hB2
  have hW : Below w.heap.size w W.drew := hal.drew
  cases neg with
  | true =>
    go_region
    go_wp2_with fail
    refine bodyPost_ret (v := .agg #[.bool false, .slice a1 (dig b64 x.num.natAbs).length _, .slice a2 (dig b64 (dn x.den)).length _]) (by simp [results, Try.results162, go_sem, e0, e1, e2]; first | done | exact ⟨rfl, rfl⟩ | rfl) rfl ⟨_, rfl, ?_, below_store3 hW (by omega)⟩
    exact IsRat.stored (w := W.drew) HB.out (N1.out.below hW) (N2.out.below hW) He.out (natAbs_neg_num x)
  | false =>
    by_cases h0 : x.num.natAbs = 0
    · have t0 : Hid (decide (x.num.natAbs = 0) = true) := decide_eq_true h0
      clear h0
      go_region_held3 (fun w' => Below w.heap.size w w' ∧ RB w' (w.heap.size + 1) ∧ w'.cell? ⟨w.heap.size, 0, none⟩ = some (.bool false) ∧ w'.cell? ⟨w.heap.size, 1, none⟩ = some (.slice a1 (dig b64 x.num.natAbs).length c1) ∧ w'.cell? ⟨w.heap.size, 2, none⟩ = some (.slice a2 (dig b64 (dn x.den)).length c2) ∧
          w'.cell? ⟨w.heap.size + 1, 0, none⟩ = some (cellOf w' ⟨w.heap.size + 1, 0, none⟩) ∧ w'.cell? ⟨w.heap.size + 1, 1, none⟩ = some (cellOf w' ⟨w.heap.size + 1, 1, none⟩) ∧ w'.cell? ⟨w.heap.size + 1, 2, none⟩ = some (cellOf w' ⟨w.heap.size + 1, 2, none⟩) ∧
          w'.frozen? ⟨w.heap.size + 1, 0, none⟩ = false ∧ w'.frozen? ⟨w.heap.size + 1, 1, none⟩ = false ∧ w'.frozen? ⟨w.heap.size + 1, 2, none⟩ = false)
        (first | exact hold3 hW p0 p1 p2 HB.out | exact hold3_call (Nat.le_refl _) hb' (by assumption) | exact hold3_store _ _ _ _ _ _ _ (Nat.le_succ _) (Nat.ne_of_lt (Nat.lt_succ_self _)) (by assumption) _ rfl)
        (first | (go_at_call 63; refine (zero_any _ _ x.num.natAbs _ _ _ _ _).mono ?_; rw [t0.out]; rintro e w' ⟨rfl, hb'⟩))
      have hRB := RB.keep (a := W.drew) HB.out hb' hl2
      obtain ⟨c0, c1, c2, f0', f1', f2'⟩ := hRB.cell
      have hx := hW.trans (hb'.mono hW.size)
      have hBl := hRB.lt
      go_wp2_with fail
      refine bodyPost_ret (v := .agg #[.bool false, .slice a1 (dig b64 x.num.natAbs).length _, .slice a2 (dig b64 (dn x.den)).length _]) (by simp [results, Try.results162, go_sem, c0, c1, c2]; first | done | exact ⟨rfl, rfl⟩ | rfl) rfl ⟨_, rfl, ?_, below_store3 hx (by omega)⟩
      exact IsRat.stored hRB (N1.out.below hx) (N2.out.below hx) (by rw [He.out, t0.out]; rfl) (natAbs_neg_num x)
    · have t0 : Hid (decide (x.num.natAbs = 0) = false) := decide_eq_false h0
      clear h0
      go_region_held3 (fun w' => Below w.heap.size w w' ∧ RB w' (w.heap.size + 1) ∧ w'.cell? ⟨w.heap.size, 0, none⟩ = some (.bool false) ∧ w'.cell? ⟨w.heap.size, 1, none⟩ = some (.slice a1 (dig b64 x.num.natAbs).length c1) ∧ w'.cell? ⟨w.heap.size, 2, none⟩ = some (.slice a2 (dig b64 (dn x.den)).length c2) ∧
          w'.cell? ⟨w.heap.size + 1, 0, none⟩ = some (cellOf w' ⟨w.heap.size + 1, 0, none⟩) ∧ w'.cell? ⟨w.heap.size + 1, 1, none⟩ = some (cellOf w' ⟨w.heap.size + 1, 1, none⟩) ∧ w'.cell? ⟨w.heap.size + 1, 2, none⟩ = some (cellOf w' ⟨w.heap.size + 1, 2, none⟩) ∧
          w'.frozen? ⟨w.heap.size + 1, 0, none⟩ = false ∧ w'.frozen? ⟨w.heap.size + 1, 1, none⟩ = false ∧ w'.frozen? ⟨w.heap.size + 1, 2, none⟩ = false)
        (first | exact hold3 hW p0 p1 p2 HB.out | exact hold3_call (Nat.le_refl _) hb' (by assumption) | exact hold3_store _ _ _ _ _ _ _ (Nat.le_succ _) (Nat.ne_of_lt (Nat.lt_succ_self _)) (by assumption) _ rfl)
        (first | (go_at_call 63; refine (zero_any _ _ x.num.natAbs _ _ _ _ _).mono ?_; rw [t0.out]; rintro e w' ⟨rfl, hb'⟩))
      have hRB := RB.keep (a := W.drew) HB.out hb' hl2
      obtain ⟨c0, c1, c2, f0', f1', f2'⟩ := hRB.cell
      have hx := hW.trans (hb'.mono hW.size)
      have hBl := hRB.lt
      go_wp2_with fail
      refine bodyPost_ret (v := .agg #[.bool true, .slice a1 (dig b64 x.num.natAbs).length _, .slice a2 (dig b64 (dn x.den)).length _]) (by simp [results, Try.results162, go_sem, c0, c1, c2]; first | done | exact ⟨rfl, rfl⟩ | rfl) rfl ⟨_, rfl, ?_, below_store3 hx (by omega)⟩
      exact IsRat.stored hRB (N1.out.below hx) (N2.out.below hx) (by rw [He.out, t0.out]; rfl) (natAbs_neg_num x)

set_option maxRecDepth 100000 in
theorem method_neg (b : Bool) (x y : Option Addr) (i j k l : Nat) (w : World) : (method 359 50 (.agg #[.bool b, .slice x i j, .slice y k l]) "Neg").run Try.prog w = .ok (162, .agg #[.bool b, .slice x i j, .slice y k l]) w := by kernel_rfl
set_option maxRecDepth 100000 in
theorem method_add (b : Bool) (x y : Option Addr) (i j k l : Nat) (w : World) : (method 359 50 (.agg #[.bool b, .slice x i j, .slice y k l]) "Add").run Try.prog w = .ok (22, .agg #[.bool b, .slice x i j, .slice y k l]) w := by kernel_rfl

set_option maxRecDepth 100000 in
set_option maxHeartbeats 4000000 in
theorem lessRat_any (x y : Rat) (vx vy : Value) (w : World) (hx : IsRat w vx x) (hy : IsRat w vy y) (hlx : szR x 68719476736) (hly : szR y 68719476736) : Calls Try.prog 118 #[vx, vy] w (RetRat (x - y) w) := by
  have hy0 := hy
  obtain ⟨a1, c1, a2, c2, rfl, n1, n2⟩ := hx.opened
  obtain ⟨a3, c3, a4, c4, rfl, n3, n4⟩ := hy.opened
  have HX := Lib.hid hx
  have HY := Lib.hid hy
  have HLX := Lib.hid hlx
  have hln : szR (-y) 68719476736 := ⟨by rw [natAbs_neg_num]; exact hly.1, hly.2⟩
  have HLY := Lib.hid hln
  have He : Hid (x + -y = x - y) := (Rat.sub_eq_add_neg x y).symm
  clear hx hy n1 n2 n3 n4 hlx hly hln hy0
  have hmn := method_neg
  have hma := method_add
  go_enter Try.func118, Try.ntmps118
  go_wp2_with fail
  generalize hsx : decide (x.num < 0) = sx at *
  generalize hsy : decide (y.num < 0) = sy at *
  clear hsx hsy
  generalize hW0 : ((w.alloc (.cells #[.bool sx, .slice a1 (dig b64 x.num.natAbs).length c1, .slice a2 (dig b64 (dn x.den)).length c2] 50)).alloc (.cells #[.bool sy, .slice a3 (dig b64 y.num.natAbs).length c3, .slice a4 (dig b64 (dn y.den)).length c4] 50)).alloc (.cells #[.bool false, .slice none 0 0, .slice none 0 0] 50) = W at *
  obtain ⟨hal, hB1, hB2, hB3⟩ := boxes3 w _ _ _ _ W hW0.symm
  clear hW0
  have hW : Below w.heap.size w W.drew := hal.drew
  have p0 := blk_cell hB1 0 (.bool sx) rfl
  have p1 := blk_cell hB1 1 (.slice a1 (dig b64 x.num.natAbs).length c1) rfl
  have p2 := blk_cell hB1 2 (.slice a2 (dig b64 (dn x.den)).length c2) rfl
  have r0 := blk_cell hB2 0 (.bool sy) rfl
  have r1 := blk_cell hB2 1 (.slice a3 (dig b64 y.num.natAbs).length c3) rfl
  have r2 := blk_cell hB2 2 (.slice a4 (dig b64 (dn y.den)).length c4) rfl
  have HB : Hid (RB W (w.heap.size + 2)) := ⟨false, none, 0, 0, none, 0, 0, _, hB3⟩
  have hl3 := blk_lt hB3
  clear hB1 hB2 hB3
  go_region_held3 (fun w' => Below w.heap.size w w' ∧ RB w' (w.heap.size + 2) ∧ w'.cell? ⟨w.heap.size, 0, none⟩ = some (.bool sx) ∧ w'.cell? ⟨w.heap.size, 1, none⟩ = some (.slice a1 (dig b64 x.num.natAbs).length c1) ∧ w'.cell? ⟨w.heap.size, 2, none⟩ = some (.slice a2 (dig b64 (dn x.den)).length c2) ∧ w'.cell? ⟨w.heap.size + 1, 0, none⟩ = some (.bool sy) ∧ w'.cell? ⟨w.heap.size + 1, 1, none⟩ = some (.slice a3 (dig b64 y.num.natAbs).length c3) ∧ w'.cell? ⟨w.heap.size + 1, 2, none⟩ = some (.slice a4 (dig b64 (dn y.den)).length c4) ∧ w'.cell? ⟨w.heap.size + 2, 0, none⟩ = some (cellOf w' ⟨w.heap.size + 2, 0, none⟩) ∧ w'.cell? ⟨w.heap.size + 2, 1, none⟩ = some (cellOf w' ⟨w.heap.size + 2, 1, none⟩) ∧ w'.cell? ⟨w.heap.size + 2, 2, none⟩ = some (cellOf w' ⟨w.heap.size + 2, 2, none⟩) ∧ w'.frozen? ⟨w.heap.size + 2, 0, none⟩ = false ∧ w'.frozen? ⟨w.heap.size + 2, 1, none⟩ = false ∧ w'.frozen? ⟨w.heap.size + 2, 2, none⟩ = false)
    (first | exact hold6 hW p0 p1 p2 r0 r1 r2 HB.out | exact hold6_call (Nat.le_refl _) hbE (by assumption) | exact hold6_call (Nat.le_refl _) hbD (by assumption) | exact hold6_store _ _ _ _ _ _ _ (by omega) (by omega) (by omega) (by assumption) _ rfl)
    (first
      | (go_at_call 162; refine (negRat_any y _ _ (HY.out.below (And.left (by assumption)))).mono ?_; rintro e wD ⟨vD, rfl, hvD, hbD⟩)
      | (go_at_call 22; refine (addRat_any x (-y) _ _ _ (HX.out.below (And.left (by assumption))) hvD HLX.out HLY.out).mono ?_; rw [He.out]; rintro e wE ⟨vE, rfl, hvE, hbE⟩; obtain ⟨a5, c5, a6, c6, rfl, n5, n6⟩ := IsRat.opened hvE))
  have hE := ext_trans hbD hbE
  have hRB := RB.keep (a := W.drew) HB.out hE hl3
  obtain ⟨g0, g1, g2, f0', f1', f2'⟩ := hRB.cell
  have hx := hW.trans (hE.mono hW.size)
  have hBl := hRB.lt
  go_wp2_with fail
  refine bodyPost_ret (v := .agg #[.bool (decide ((x - y).num < 0)), .slice a5 (dig b64 (x - y).num.natAbs).length _, .slice a6 (dig b64 (dn (x - y).den)).length _]) (by simp [results, Try.results118, go_sem, g0, g1, g2]; first | done | exact ⟨rfl, rfl⟩ | rfl) rfl ⟨_, rfl, ?_, below_store3 hx (by omega)⟩
  exact IsRat.stored hRB n5 n6 rfl rfl

set_option maxRecDepth 100000 in
set_option maxHeartbeats 2000000 in
theorem subRat_any (x y : Rat) (vx vy : Value) (w : World) (hx : IsRat w vx x) (hy : IsRat w vy y) (hlx : szR x 68719476736) (hly : szR y 68719476736) : Calls Try.prog 95 #[vx, vy] w (RetRat (x - y) w) := by
  obtain ⟨a1, c1, a2, c2, rfl, n1, n2⟩ := hx.opened
  obtain ⟨a3, c3, a4, c4, rfl, n3, n4⟩ := hy.opened
  have HX := Lib.hid hx
  have HY := Lib.hid hy
  have HLX := Lib.hid hlx
  have HLY := Lib.hid hly
  clear hx hy n1 n2 n3 n4 hlx hly
  go_enter Try.func95, Try.ntmps95
  go_wp2_with fail
  generalize hW0 : ((w.alloc (.cells #[.bool (decide (x.num < 0)), .slice a1 (dig b64 x.num.natAbs).length c1, .slice a2 (dig b64 (dn x.den)).length c2] 50)).alloc (.cells #[.bool (decide (y.num < 0)), .slice a3 (dig b64 y.num.natAbs).length c3, .slice a4 (dig b64 (dn y.den)).length c4] 50)).alloc (.cells #[.bool false, .slice none 0 0, .slice none 0 0] 50) = W at *
  obtain ⟨hal, hB1, hB2, hB3⟩ := boxes3 w _ _ _ _ W hW0.symm
  clear hW0
  have HB : Hid (RB W (w.heap.size + 2)) := ⟨false, none, 0, 0, none, 0, 0, _, hB3⟩
  have hl3 := blk_lt hB3
  clear hB1 hB2 hB3
  refine (lessRat_any x y _ _ _ (HX.out.below hal) (HY.out.below hal) HLX.out HLY.out).mono ?_
  rintro e w3 ⟨v, rfl, hv, hb⟩
  have hRB := HB.out.keep hb hl3
  obtain ⟨a5, c5, a6, c6, rfl, n5, n6⟩ := IsRat.opened hv
  have hx := ext_trans hal hb
  obtain ⟨g0, g1, g2, f0', f1', f2'⟩ := hRB.cell
  have hBl := hRB.lt
  generalize x - y = q at *
  clear hv hb hal
  go_wp2_with fail
  refine bodyPost_ret (v := .agg #[.bool (decide (q.num < 0)), .slice a5 (dig b64 q.num.natAbs).length _, .slice a6 (dig b64 (dn q.den)).length _]) (by simp [results, Try.results95, go_sem, g0, g1, g2]; first | done | exact ⟨rfl, rfl⟩ | rfl) rfl ⟨_, rfl, ?_, below_store3 hx (by omega)⟩
  exact IsRat.stored hRB n5 n6 rfl rfl

end Go.Proofs.Ytkdcgkafjkklcaa

/- LAYER 3: the walks of whole, product, within, isRight, checkDir, Turned, cross, dot. -/
namespace Go.Proofs.Ytkdcgkafjkklcaa
open Go.RowKit

set_option maxHeartbeats 2000000 in
theorem whole_any (n : Int) (w : World) (h1 : -9223372036854775808 ≤ n) (h2 : n ≤ 9223372036854775807) : Calls Try.prog 66 #[.int .i64 n] w (RetRat (n : Rat) w) := by
  go_enter Try.func66, Try.ntmps66
  go_wp2_with fail
  refine (int_any n _ h1 h2).mono ?_
  rintro e w1 ⟨v, rfl, hv, hb⟩
  have hB1 := blk_keep (blk_new w #[.bool false, .slice none 0 0, .slice none 0 0] 50) hb (by simp)
  have hRB : RB w1 w.heap.size := ⟨false, none, 0, 0, none, 0, 0, _, hB1⟩
  obtain ⟨a5, c5, a6, c6, rfl, n5, n6⟩ := IsRat.opened hv
  have hx : Below w.heap.size w w1 := ((Below.refl _ _).alloc (Nat.le_refl _) _).trans (hb.mono (by simp))
  obtain ⟨g0, g1, g2, f0', f1', f2'⟩ := hRB.cell
  have hBl := hRB.lt
  generalize (n : Rat) = q at *
  go_wp2_with fail
  refine bodyPost_ret (v := .agg #[.bool (decide (q.num < 0)), .slice a5 (dig b64 q.num.natAbs).length _, .slice a6 (dig b64 (dn q.den)).length _]) (by simp [results, Try.results66, go_sem, g0, g1, g2]; first | done | exact ⟨rfl, rfl⟩ | rfl) rfl ⟨_, rfl, ?_, below_store3 hx (by omega)⟩
  exact IsRat.stored hRB n5 n6 rfl rfl

set_option maxHeartbeats 2000000 in
theorem num03_any (n : Int) (w : World) (h1 : -9223372036854775808 ≤ n) (h2 : n ≤ 9223372036854775807) : Calls Try.prog 17 #[.int .i64 n] w (RetRat (n : Rat) w) := by
  go_enter Try.func17, Try.ntmps17
  go_wp2_with fail
  refine (int_any n _ h1 h2).mono ?_
  rintro e w1 ⟨v, rfl, hv, hb⟩
  have hB1 := blk_keep (blk_new w #[.bool false, .slice none 0 0, .slice none 0 0] 50) hb (by simp)
  have hRB : RB w1 w.heap.size := ⟨false, none, 0, 0, none, 0, 0, _, hB1⟩
  obtain ⟨a5, c5, a6, c6, rfl, n5, n6⟩ := IsRat.opened hv
  have hx : Below w.heap.size w w1 := ((Below.refl _ _).alloc (Nat.le_refl _) _).trans (hb.mono (by simp))
  obtain ⟨g0, g1, g2, f0', f1', f2'⟩ := hRB.cell
  have hBl := hRB.lt
  generalize (n : Rat) = q at *
  go_wp2_with fail
  refine bodyPost_ret (v := .agg #[.bool (decide (q.num < 0)), .slice a5 (dig b64 q.num.natAbs).length _, .slice a6 (dig b64 (dn q.den)).length _]) (by simp [results, Try.results17, go_sem, g0, g1, g2]; first | done | exact ⟨rfl, rfl⟩ | rfl) rfl ⟨_, rfl, ?_, below_store3 hx (by omega)⟩
  exact IsRat.stored hRB n5 n6 rfl rfl

theorem i64_szR (n : Int) (h1 : -9223372036854775808 ≤ n) (h2 : n ≤ 9223372036854775807) (k : Nat) (hk : 1 ≤ k) : szR (n : Rat) k := szR_mono (szR_int (k := 1) (by rw [Nat.pow_one]; unfold b64; omega) (Nat.le_refl _)) hk
set_option maxHeartbeats 2000000 in
theorem lproduct_any (a b : Int) (w : World) (ha : -9223372036854775808 ≤ a ∧ a ≤ 9223372036854775807) (hb : -9223372036854775808 ≤ b ∧ b ≤ 9223372036854775807) : Calls Try.prog 68 #[.int .i64 a, .int .i64 b] w (RetRat ((a * b : Int) : Rat) w) := by
  have Hsa := Lib.hid (i64_szR a ha.1 ha.2 68719476736 (by omega))
  have Hsb := Lib.hid (i64_szR b hb.1 hb.2 68719476736 (by omega))
  go_enter Try.func68, Try.ntmps68
  go_wp2_with fail
  refine (whole_any a _ ha.1 ha.2).mono ?_
  rintro e w1 ⟨va, rfl, hva, hb1⟩
  go_wp2_with fail
  refine (whole_any b _ hb.1 hb.2).mono ?_
  rintro e w2 ⟨vb, rfl, hvb, hb2⟩
  go_wp2_with fail
  refine (mulRat_any (a : Rat) (b : Rat) _ _ _ (hva.below hb2) hvb Hsa.out Hsb.out).mono ?_
  rw [← Rat.intCast_mul]
  rintro e w3 ⟨v, rfl, hv, hb3⟩
  have hB1 := blk_keep (blk_keep (blk_keep (blk_new w #[.bool false, .slice none 0 0, .slice none 0 0] 50) hb1 (by simp)) hb2 (Nat.lt_of_lt_of_le (by simp) hb1.size)) hb3 (Nat.lt_of_lt_of_le (by simp) (Nat.le_trans hb1.size hb2.size))
  have hRB : RB w3 w.heap.size := ⟨false, none, 0, 0, none, 0, 0, _, hB1⟩
  obtain ⟨a5, c5, a6, c6, rfl, n5, n6⟩ := IsRat.opened hv
  have hx : Below w.heap.size w w3 := ((Below.refl _ _).alloc (Nat.le_refl _) _).trans ((ext_trans hb1 (ext_trans hb2 hb3)).mono (by simp))
  clear hva hvb hv hb1 hb2 hb3 hB1
  obtain ⟨g0, g1, g2, f0', f1', f2'⟩ := hRB.cell
  have hBl := hRB.lt
  generalize ((a * b : Int) : Rat) = q at *
  go_wp2_with fail
  refine bodyPost_ret (v := .agg #[.bool (decide (q.num < 0)), .slice a5 (dig b64 q.num.natAbs).length _, .slice a6 (dig b64 (dn q.den)).length _]) (by simp [results, Try.results68, go_sem, g0, g1, g2]; first | done | exact ⟨rfl, rfl⟩ | rfl) rfl ⟨_, rfl, ?_, below_store3 hx (by omega)⟩
  exact IsRat.stored hRB n5 n6 rfl rfl

set_option maxHeartbeats 1000000 in
theorem within_any (n lo hi : Int) (w : World) : Calls Try.prog 49 #[.int .i64 n, .int .i64 lo, .int .i64 hi] w (RetBool (inB n lo hi) w) := by
  by_cases h1 : lo ≤ n
  · by_cases h2 : n ≤ hi
    · have Hr : Hid (inB n lo hi = true) := by show _ = _; simp [inB, h1, h2]
      have t1 : decide (n ≥ lo) = true := decide_eq_true h1
      have t2 : decide (n ≤ hi) = true := decide_eq_true h2
      clear h1 h2
      go_enter Try.func49, Try.ntmps49
      go_wp2_with fail
      go_ret
      exact ⟨by rw [Hr.out]; rfl, Below.refl _ _⟩
    · have Hr : Hid (inB n lo hi = false) := by show _ = _; simp [inB, h1, h2]
      have t1 : decide (n ≥ lo) = true := decide_eq_true h1
      have t2 : decide (n ≤ hi) = false := decide_eq_false h2
      clear h1 h2
      go_enter Try.func49, Try.ntmps49
      go_wp2_with fail
      go_ret
      exact ⟨by rw [Hr.out]; rfl, Below.refl _ _⟩
  · have Hr : Hid (inB n lo hi = false) := by show _ = _; simp [inB, h1]
    have t1 : decide (n ≥ lo) = false := decide_eq_false h1
    clear h1
    go_enter Try.func49, Try.ntmps49
    go_wp2_with fail
    go_ret
    exact ⟨by rw [Hr.out]; rfl, Below.refl _ _⟩

set_option maxRecDepth 100000 in
set_option maxHeartbeats 2000000 in
theorem isRight_any (l : List Pt) (v : Value) (w : World) (h : PairsOf w v l) (hl : l.length ≤ 4611686018427387904) : Calls Try.prog 61 #[v] w (RetBool (ptsOk l) w) := by
  obtain ⟨ao, cap, rfl, hE⟩ := h
  have HE := Lib.hid hE
  clear hE
  go_enter Try.func61, Try.ntmps61
  go_wp2_with fail
  go_loopw [7] (fun iv wr => ∃ (i : Nat), i ≤ l.length ∧ iv = .int .i64 i ∧ ptsOk (l.take i) = true ∧ Below w.heap.size w wr) (fun iv _ => l.length - (intOf iv).toNat)
  case atStart => exact ⟨0, Nat.zero_le _, rfl, rfl, Below.refl _ _⟩
  case round =>
    obtain ⟨i, hi, rfl, hok, hbel⟩ := hrel
    have HOK := Lib.hid hok
    clear hok
    by_cases hlt : i < l.length
    · obtain ⟨b, off, rfl, hbl, hLL⟩ := HE.out (by omega)
      obtain ⟨g0, g1⟩ := (hLL i hlt).below hbel hbl
      have hlt' : (i : Int) < l.length := by omega
      have hge' : (0 : Int) ≤ i := by omega
      have hbl2 : b < wr.heap.size := Nat.lt_of_lt_of_le hbl hbel.size
      have Htk := Lib.hid (ptsOk_take l i hlt)
      have Hnot : Hid (ptOk (ptAt l i) = false → ptsOk l = false) := fun h => by
        cases h2 : ptsOk l with
        | false => rfl
        | true => rw [ptsOk_get h2 i hlt] at h; cases h
      have hpo : ptOk (ptAt l i) = (inB (l.getD i (0, 0)).1 (-4398046511104) 4398046511104 && inB (l.getD i (0, 0)).2 (-4398046511104) 4398046511104) := rfl
      generalize ptOk (ptAt l i) = pk at *
      have Hpo := Lib.hid hpo
      clear hpo hLL
      have hN := blk_new wr #[.int .i64 (l.getD i (0, 0)).1, .int .i64 (l.getD i (0, 0)).2] 55
      have hx := (Below.refl wr.heap.size wr).alloc (Nat.le_refl _) (.cells #[.int .i64 (l.getD i (0, 0)).1, .int .i64 (l.getD i (0, 0)).2] 55)
      generalize (l.getD i (0, 0)).1 = x at *
      generalize (l.getD i (0, 0)).2 = y at *
      go_wp2_with fail
      refine (within_any x _ _ _).mono ?_
      rintro e w2 ⟨rfl, hb2⟩
      have hN2 := blk_keep hN hb2 (blk_lt hN)
      have c1 := blk_cell hN2 1 (.int .i64 y) rfl
      have hx2 := ext_trans (ext_trans hbel hx) hb2
      generalize inB x (-4398046511104) 4398046511104 = p at *
      clear g0 g1 hN hN2 hb2 hx
      cases p with
      | false =>
        have Hf := Lib.hid (Hnot.out (by rw [Hpo.out]; rfl))
        go_wp2_with fail
        go_ret
        exact ⟨by rw [Hf.out]; rfl, hx2⟩
      | true =>
        go_wp2_with fail
        refine (within_any y _ _ _).mono ?_
        rintro e w3 ⟨rfl, hb3⟩
        generalize inB y (-4398046511104) 4398046511104 = q at *
        have hx3 := ext_trans hx2 hb3
        cases q with
        | false =>
          have Hf := Lib.hid (Hnot.out (by rw [Hpo.out]; rfl))
          go_wp2_with fail
          go_ret
          exact ⟨by rw [Hf.out]; rfl, hx3⟩
        | true =>
          have Ht : Hid (ptsOk (l.take (i + 1)) = true) := by show _ = _; rw [Htk.out, HOK.out, Hpo.out]; rfl
          go_wp2_with fail
          exact ⟨⟨i + 1, by omega, by go_num, Ht.out, hx3⟩, meas_up hlt⟩
    · obtain rfl : i = l.length := by omega
      rw [List.take_length] at HOK
      go_wp2_with fail
      go_ret
      exact ⟨by rw [HOK.out]; rfl, hbel⟩

theorem boxesP (w : World) (A1 A2 A3 A4 : Array Value) (T T4 : Nat) (W : World) (hW : W = (((w.alloc (.cells A1 T)).alloc (.cells A2 T)).alloc (.cells A3 T)).alloc (.cells A4 T4)) :
    Below w.heap.size w W ∧ W.heap[w.heap.size]? = some (.cells A1 T (0, 0)) ∧ W.heap[w.heap.size + 1]? = some (.cells A2 T (0, 0)) ∧ W.heap[w.heap.size + 2]? = some (.cells A3 T (0, 0)) ∧ W.heap[w.heap.size + 3]? = some (.cells A4 T4 (0, 0)) := by
  obtain ⟨h0, h1, h2, h3⟩ := boxes3 w A1 A2 A3 T _ rfl
  subst hW
  have hs : (((w.alloc (.cells A1 T)).alloc (.cells A2 T)).alloc (.cells A3 T)).heap.size = w.heap.size + 3 := by simp
  generalize ((w.alloc (.cells A1 T)).alloc (.cells A2 T)).alloc (.cells A3 T) = W3 at *
  refine ⟨h0.alloc h0.size _, ?_, ?_, ?_, ?_⟩
  · rw [heap_alloc_old _ _ (by omega)]; exact h1
  · rw [heap_alloc_old _ _ (by omega)]; exact h2
  · rw [heap_alloc_old _ _ (by omega)]; exact h3
  · rw [← hs]; exact blk_new W3 A4 T4
/-- Three boxed points are held, and the box of the result. -/
def HP (n : Nat) (w0 : World) (B1 B2 B3 B : Nat) (v0 v1 v2 v3 v4 v5 : Value) (a : World) : Prop :=
  Below n w0 a ∧ RB a B ∧ a.cell? ⟨B1, 0, none⟩ = some v0 ∧ a.cell? ⟨B1, 1, none⟩ = some v1 ∧ a.cell? ⟨B2, 0, none⟩ = some v2 ∧ a.cell? ⟨B2, 1, none⟩ = some v3 ∧ a.cell? ⟨B3, 0, none⟩ = some v4 ∧ a.cell? ⟨B3, 1, none⟩ = some v5 ∧
    a.cell? ⟨B, 0, none⟩ = some (cellOf a ⟨B, 0, none⟩) ∧ a.cell? ⟨B, 1, none⟩ = some (cellOf a ⟨B, 1, none⟩) ∧ a.cell? ⟨B, 2, none⟩ = some (cellOf a ⟨B, 2, none⟩) ∧ a.frozen? ⟨B, 0, none⟩ = false ∧ a.frozen? ⟨B, 1, none⟩ = false ∧ a.frozen? ⟨B, 2, none⟩ = false
theorem holdP {n : Nat} {w0 a : World} {B1 B2 B3 B : Nat} {v0 v1 v2 v3 v4 v5 : Value} (h0 : Below n w0 a) (h1 : a.cell? ⟨B1, 0, none⟩ = some v0) (h2 : a.cell? ⟨B1, 1, none⟩ = some v1) (h3 : a.cell? ⟨B2, 0, none⟩ = some v2)
    (h4 : a.cell? ⟨B2, 1, none⟩ = some v3) (h5 : a.cell? ⟨B3, 0, none⟩ = some v4) (h6 : a.cell? ⟨B3, 1, none⟩ = some v5) (hB : RB a B) : HP n w0 B1 B2 B3 B v0 v1 v2 v3 v4 v5 a := ⟨h0, hB, h1, h2, h3, h4, h5, h6, hB.cell⟩
theorem holdP_call {n : Nat} {w0 a b : World} {B1 B2 B3 B : Nat} {v0 v1 v2 v3 v4 v5 : Value} (hn : n ≤ w0.heap.size) (hb : Below a.heap.size a b) (h : HP n w0 B1 B2 B3 B v0 v1 v2 v3 v4 v5 a) : HP n w0 B1 B2 B3 B v0 v1 v2 v3 v4 v5 b := by
  obtain ⟨h0, hB, h1, h2, h3, h4, h5, h6, _⟩ := h
  have e : ∀ B1 j v, a.cell? ⟨B1, j, none⟩ = some v → b.cell? ⟨B1, j, none⟩ = some v := fun B1 j v h => (hb.cell (p := ⟨B1, j, none⟩) (World.block_lt_of_cell? (h := h))).trans h
  have hs := h0.size
  exact holdP (h0.trans (hb.mono (by omega))) (e _ _ _ h1) (e _ _ _ h2) (e _ _ _ h3) (e _ _ _ h4) (e _ _ _ h5) (e _ _ _ h6) (hB.keep hb hB.lt)
theorem holdP_store {n : Nat} {w0 a : World} {B1 B2 B3 B : Nat} {v0 v1 v2 v3 v4 v5 : Value} (neg : Bool) (x1 y1 : Option Addr) (i1 j1 k1 l1 : Nat) (hn : n ≤ B) (hne : B1 ≠ B) (hne2 : B2 ≠ B) (hne3 : B3 ≠ B)
    (h : HP n w0 B1 B2 B3 B v0 v1 v2 v3 v4 v5 a) (b : World) (hb : b = ((a.setCell ⟨B, 0, none⟩ (.bool neg)).setCell ⟨B, 1, none⟩ (.slice x1 i1 j1)).setCell ⟨B, 2, none⟩ (.slice y1 k1 l1)) : HP n w0 B1 B2 B3 B v0 v1 v2 v3 v4 v5 b := by
  obtain ⟨h0, hB, h1, h2, h3, h4, h5, h6, _⟩ := h
  subst hb
  have e : ∀ B1 j v, B1 ≠ B → a.cell? ⟨B1, j, none⟩ = some v → (((a.setCell ⟨B, 0, none⟩ (.bool neg)).setCell ⟨B, 1, none⟩ (.slice x1 i1 j1)).setCell ⟨B, 2, none⟩ (.slice y1 k1 l1)).cell? ⟨B1, j, none⟩ = some v := fun B1 j v hne h => by
    rw [World.cell?_setCell_other, World.cell?_setCell_other, World.cell?_setCell_other, h]
    all_goals intro e; cases e; exact hne rfl
  exact holdP (below_store3 h0 hn) (e _ _ _ hne h1) (e _ _ _ hne h2) (e _ _ _ hne2 h3) (e _ _ _ hne2 h4) (e _ _ _ hne3 h5) (e _ _ _ hne3 h6) (hB.store ..)
theorem sub_far {a b : Int} (ha : -far ≤ a ∧ a ≤ far) (hb : -far ≤ b ∧ b ≤ far) : IntKind.i64.wrap (a - b) = a - b ∧ (-9223372036854775808 ≤ a - b ∧ a - b ≤ 9223372036854775807) ∧ (-8796093022208 ≤ a - b ∧ a - b ≤ 8796093022208) := by
  unfold far at *
  exact ⟨IntWalk.i64_in _ (by omega), by omega, by omega⟩
theorem prod_szR {a b : Int} (ha : -8796093022208 ≤ a ∧ a ≤ 8796093022208) (hb : -8796093022208 ≤ b ∧ b ≤ 8796093022208) : szR ((a * b : Int) : Rat) 68719476736 := by
  have := mul_absI ha hb
  refine szR_mono (szR_int (k := 2) ?_ (by omega)) (by omega)
  have e : b64 ^ 2 = 340282366920938463463374607431768211456 := by unfold b64; omega
  rw [e]
  omega

set_option maxRecDepth 100000 in
set_option maxHeartbeats 4000000 in
theorem cross_any (a b c : Pt) (w : World) (ha : ptOk a = true) (hb : ptOk b = true) (hc : ptOk c = true) : Calls Try.prog 62 #[.agg #[.int .i64 a.1, .int .i64 a.2], .agg #[.int .i64 b.1, .int .i64 b.2], .agg #[.int .i64 c.1, .int .i64 c.2]] w (RetRat ((crossI a b c : Int) : Rat) w) := by
  have ra := ptOk_range ha
  have rb := ptOk_range hb
  have rc := ptOk_range hc
  obtain ⟨e1, r1, s1⟩ := sub_far rb.1 ra.1
  obtain ⟨d1, hd1⟩ : ∃ d, d = b.1 - a.1 := ⟨_, rfl⟩
  rw [← hd1] at r1 s1
  replace e1 : IntKind.i64.wrap (b.1 - a.1) = d1 := by rw [hd1]; exact e1
  obtain ⟨e2, r2, s2⟩ := sub_far rc.2 ra.2
  obtain ⟨d2, hd2⟩ : ∃ d, d = c.2 - a.2 := ⟨_, rfl⟩
  rw [← hd2] at r2 s2
  replace e2 : IntKind.i64.wrap (c.2 - a.2) = d2 := by rw [hd2]; exact e2
  obtain ⟨e3, r3, s3⟩ := sub_far rb.2 ra.2
  obtain ⟨d3, hd3⟩ : ∃ d, d = b.2 - a.2 := ⟨_, rfl⟩
  rw [← hd3] at r3 s3
  replace e3 : IntKind.i64.wrap (b.2 - a.2) = d3 := by rw [hd3]; exact e3
  obtain ⟨e4, r4, s4⟩ := sub_far rc.1 ra.1
  obtain ⟨d4, hd4⟩ : ∃ d, d = c.1 - a.1 := ⟨_, rfl⟩
  rw [← hd4] at r4 s4
  replace e4 : IntKind.i64.wrap (c.1 - a.1) = d4 := by rw [hd4]; exact e4
  have Hs1 := Lib.hid (prod_szR s1 s2)
  have Hs2 := Lib.hid (prod_szR s3 s4)
  have He : Hid ((((d1 * d2 : Int) : Rat)) - (((d3 * d4 : Int) : Rat)) = ((crossI a b c : Int) : Rat)) := by
    show _ = _
    rw [← Rat.intCast_sub, hd1, hd2, hd3, hd4]
    rfl
  have R1 := Lib.hid r1
  have R2 := Lib.hid r2
  have R3 := Lib.hid r3
  have R4 := Lib.hid r4
  generalize hI : ((crossI a b c : Int) : Rat) = Q at *
  clear ha hb hc ra rb rc r1 s1 hd1 r2 s2 hd2 r3 s3 hd3 r4 s4 hd4 hI
  generalize a.1 = ax at *
  generalize a.2 = ay at *
  generalize b.1 = bx at *
  generalize b.2 = by' at *
  generalize c.1 = cx at *
  generalize c.2 = cy at *
  go_enter Try.func62, Try.ntmps62
  go_wp2_with fail
  generalize hW0 : (((w.alloc (.cells #[.int .i64 ax, .int .i64 ay] 55)).alloc (.cells #[.int .i64 bx, .int .i64 by'] 55)).alloc (.cells #[.int .i64 cx, .int .i64 cy] 55)).alloc (.cells #[.bool false, .slice none 0 0, .slice none 0 0] 50) = W at *
  obtain ⟨hal, hB1, hB2, hB3, hB4⟩ := boxesP w _ _ _ _ _ _ W hW0.symm
  clear hW0
  have hW : Below w.heap.size w W.drew := hal.drew
  have p0 := blk_cell hB1 0 (.int .i64 ax) rfl
  have p1 := blk_cell hB1 1 (.int .i64 ay) rfl
  have p2 := blk_cell hB2 0 (.int .i64 bx) rfl
  have p3 := blk_cell hB2 1 (.int .i64 by') rfl
  have p4 := blk_cell hB3 0 (.int .i64 cx) rfl
  have p5 := blk_cell hB3 1 (.int .i64 cy) rfl
  have HB : Hid (RB W (w.heap.size + 3)) := ⟨false, none, 0, 0, none, 0, 0, _, hB4⟩
  have hl3 := blk_lt hB4
  clear hB1 hB2 hB3 hB4
  go_region_held3 (fun w' => Below w.heap.size w w' ∧ RB w' (w.heap.size + 3) ∧ w'.cell? ⟨w.heap.size, 0, none⟩ = some (.int .i64 ax) ∧ w'.cell? ⟨w.heap.size, 1, none⟩ = some (.int .i64 ay) ∧ w'.cell? ⟨w.heap.size + 1, 0, none⟩ = some (.int .i64 bx) ∧ w'.cell? ⟨w.heap.size + 1, 1, none⟩ = some (.int .i64 by') ∧ w'.cell? ⟨w.heap.size + 2, 0, none⟩ = some (.int .i64 cx) ∧ w'.cell? ⟨w.heap.size + 2, 1, none⟩ = some (.int .i64 cy) ∧ w'.cell? ⟨w.heap.size + 3, 0, none⟩ = some (cellOf w' ⟨w.heap.size + 3, 0, none⟩) ∧ w'.cell? ⟨w.heap.size + 3, 1, none⟩ = some (cellOf w' ⟨w.heap.size + 3, 1, none⟩) ∧ w'.cell? ⟨w.heap.size + 3, 2, none⟩ = some (cellOf w' ⟨w.heap.size + 3, 2, none⟩) ∧ w'.frozen? ⟨w.heap.size + 3, 0, none⟩ = false ∧ w'.frozen? ⟨w.heap.size + 3, 1, none⟩ = false ∧ w'.frozen? ⟨w.heap.size + 3, 2, none⟩ = false)
    (first | exact holdP hW p0 p1 p2 p3 p4 p5 HB.out | exact holdP_call (Nat.le_refl _) hbC (by assumption) | exact holdP_call (Nat.le_refl _) hbB (by assumption) | exact holdP_call (Nat.le_refl _) hbA (by assumption) | exact holdP_store _ _ _ _ _ _ _ (by omega) (by omega) (by omega) (by omega) (by assumption) _ rfl)
    (first
      | (go_at_call_of 68 (Value.int .i64 d1); refine (lproduct_any d1 d2 _ R1.out R2.out).mono ?_; rintro e wA ⟨vA, rfl, hvA, hbA⟩)
      | (go_at_call_of 68 (Value.int .i64 d3); refine (lproduct_any d3 d4 _ R3.out R4.out).mono ?_; rintro e wB ⟨vB, rfl, hvB, hbB⟩)
      | (go_at_call 95; refine (subRat_any _ _ _ _ _ (hvA.below hbB) hvB Hs1.out Hs2.out).mono ?_; rw [He.out]; rintro e wC ⟨vC, rfl, hvC, hbC⟩; obtain ⟨a5, c5, a6, c6, rfl, n5, n6⟩ := IsRat.opened hvC))
  have hE := ext_trans (ext_trans hbA hbB) hbC
  have hRB := RB.keep (a := W.drew) HB.out hE hl3
  have hx := hW.trans (hE.mono hW.size)
  obtain ⟨g0, g1, g2, f0', f1', f2'⟩ := hRB.cell
  have hBl := hRB.lt
  go_wp2_with fail
  refine bodyPost_ret (v := .agg #[.bool (decide (Q.num < 0)), .slice a5 (dig b64 Q.num.natAbs).length _, .slice a6 (dig b64 (dn Q.den)).length _]) (by simp [results, Try.results62, go_sem, g0, g1, g2]; first | done | exact ⟨rfl, rfl⟩ | rfl) rfl ⟨_, rfl, ?_, below_store3 hx (by omega)⟩
  exact IsRat.stored hRB n5 n6 rfl rfl

set_option maxRecDepth 100000 in
set_option maxHeartbeats 4000000 in
theorem dot_any (a b c : Pt) (w : World) (ha : ptOk a = true) (hb : ptOk b = true) (hc : ptOk c = true) : Calls Try.prog 64 #[.agg #[.int .i64 a.1, .int .i64 a.2], .agg #[.int .i64 b.1, .int .i64 b.2], .agg #[.int .i64 c.1, .int .i64 c.2]] w (RetRat ((dotI a b c : Int) : Rat) w) := by
  have ra := ptOk_range ha
  have rb := ptOk_range hb
  have rc := ptOk_range hc
  obtain ⟨e1, r1, s1⟩ := sub_far rb.1 ra.1
  obtain ⟨d1, hd1⟩ : ∃ d, d = b.1 - a.1 := ⟨_, rfl⟩
  rw [← hd1] at r1 s1
  replace e1 : IntKind.i64.wrap (b.1 - a.1) = d1 := by rw [hd1]; exact e1
  obtain ⟨e2, r2, s2⟩ := sub_far rc.1 ra.1
  obtain ⟨d2, hd2⟩ : ∃ d, d = c.1 - a.1 := ⟨_, rfl⟩
  rw [← hd2] at r2 s2
  replace e2 : IntKind.i64.wrap (c.1 - a.1) = d2 := by rw [hd2]; exact e2
  obtain ⟨e3, r3, s3⟩ := sub_far rb.2 ra.2
  obtain ⟨d3, hd3⟩ : ∃ d, d = b.2 - a.2 := ⟨_, rfl⟩
  rw [← hd3] at r3 s3
  replace e3 : IntKind.i64.wrap (b.2 - a.2) = d3 := by rw [hd3]; exact e3
  obtain ⟨e4, r4, s4⟩ := sub_far rc.2 ra.2
  obtain ⟨d4, hd4⟩ : ∃ d, d = c.2 - a.2 := ⟨_, rfl⟩
  rw [← hd4] at r4 s4
  replace e4 : IntKind.i64.wrap (c.2 - a.2) = d4 := by rw [hd4]; exact e4
  have Hs1 := Lib.hid (prod_szR s1 s2)
  have Hs2 := Lib.hid (prod_szR s3 s4)
  have He : Hid ((((d1 * d2 : Int) : Rat)) + (((d3 * d4 : Int) : Rat)) = ((dotI a b c : Int) : Rat)) := by
    show _ = _
    rw [← Rat.intCast_add, hd1, hd2, hd3, hd4]
    rfl
  have R1 := Lib.hid r1
  have R2 := Lib.hid r2
  have R3 := Lib.hid r3
  have R4 := Lib.hid r4
  generalize hI : ((dotI a b c : Int) : Rat) = Q at *
  clear ha hb hc ra rb rc r1 s1 hd1 r2 s2 hd2 r3 s3 hd3 r4 s4 hd4 hI
  generalize a.1 = ax at *
  generalize a.2 = ay at *
  generalize b.1 = bx at *
  generalize b.2 = by' at *
  generalize c.1 = cx at *
  generalize c.2 = cy at *
  go_enter Try.func64, Try.ntmps64
  go_wp2_with fail
  generalize hW0 : (((w.alloc (.cells #[.int .i64 ax, .int .i64 ay] 55)).alloc (.cells #[.int .i64 bx, .int .i64 by'] 55)).alloc (.cells #[.int .i64 cx, .int .i64 cy] 55)).alloc (.cells #[.bool false, .slice none 0 0, .slice none 0 0] 50) = W at *
  obtain ⟨hal, hB1, hB2, hB3, hB4⟩ := boxesP w _ _ _ _ _ _ W hW0.symm
  clear hW0
  have hW : Below w.heap.size w W.drew := hal.drew
  have p0 := blk_cell hB1 0 (.int .i64 ax) rfl
  have p1 := blk_cell hB1 1 (.int .i64 ay) rfl
  have p2 := blk_cell hB2 0 (.int .i64 bx) rfl
  have p3 := blk_cell hB2 1 (.int .i64 by') rfl
  have p4 := blk_cell hB3 0 (.int .i64 cx) rfl
  have p5 := blk_cell hB3 1 (.int .i64 cy) rfl
  have HB : Hid (RB W (w.heap.size + 3)) := ⟨false, none, 0, 0, none, 0, 0, _, hB4⟩
  have hl3 := blk_lt hB4
  clear hB1 hB2 hB3 hB4
  go_region_held3 (fun w' => Below w.heap.size w w' ∧ RB w' (w.heap.size + 3) ∧ w'.cell? ⟨w.heap.size, 0, none⟩ = some (.int .i64 ax) ∧ w'.cell? ⟨w.heap.size, 1, none⟩ = some (.int .i64 ay) ∧ w'.cell? ⟨w.heap.size + 1, 0, none⟩ = some (.int .i64 bx) ∧ w'.cell? ⟨w.heap.size + 1, 1, none⟩ = some (.int .i64 by') ∧ w'.cell? ⟨w.heap.size + 2, 0, none⟩ = some (.int .i64 cx) ∧ w'.cell? ⟨w.heap.size + 2, 1, none⟩ = some (.int .i64 cy) ∧ w'.cell? ⟨w.heap.size + 3, 0, none⟩ = some (cellOf w' ⟨w.heap.size + 3, 0, none⟩) ∧ w'.cell? ⟨w.heap.size + 3, 1, none⟩ = some (cellOf w' ⟨w.heap.size + 3, 1, none⟩) ∧ w'.cell? ⟨w.heap.size + 3, 2, none⟩ = some (cellOf w' ⟨w.heap.size + 3, 2, none⟩) ∧ w'.frozen? ⟨w.heap.size + 3, 0, none⟩ = false ∧ w'.frozen? ⟨w.heap.size + 3, 1, none⟩ = false ∧ w'.frozen? ⟨w.heap.size + 3, 2, none⟩ = false)
    (first | exact holdP hW p0 p1 p2 p3 p4 p5 HB.out | exact holdP_call (Nat.le_refl _) hbC (by assumption) | exact holdP_call (Nat.le_refl _) hbB (by assumption) | exact holdP_call (Nat.le_refl _) hbA (by assumption) | exact holdP_store _ _ _ _ _ _ _ (by omega) (by omega) (by omega) (by omega) (by assumption) _ rfl)
    (first
      | (go_at_call_of 68 (Value.int .i64 d1); refine (lproduct_any d1 d2 _ R1.out R2.out).mono ?_; rintro e wA ⟨vA, rfl, hvA, hbA⟩)
      | (go_at_call_of 68 (Value.int .i64 d3); refine (lproduct_any d3 d4 _ R3.out R4.out).mono ?_; rintro e wB ⟨vB, rfl, hvB, hbB⟩)
      | (go_at_call 22; refine (addRat_any _ _ _ _ _ (hvA.below hbB) hvB Hs1.out Hs2.out).mono ?_; rw [He.out]; rintro e wC ⟨vC, rfl, hvC, hbC⟩; obtain ⟨a5, c5, a6, c6, rfl, n5, n6⟩ := IsRat.opened hvC))
  have hE := ext_trans (ext_trans hbA hbB) hbC
  have hRB := RB.keep (a := W.drew) HB.out hE hl3
  have hx := hW.trans (hE.mono hW.size)
  obtain ⟨g0, g1, g2, f0', f1', f2'⟩ := hRB.cell
  have hBl := hRB.lt
  go_wp2_with fail
  refine bodyPost_ret (v := .agg #[.bool (decide (Q.num < 0)), .slice a5 (dig b64 Q.num.natAbs).length _, .slice a6 (dig b64 (dn Q.den)).length _]) (by simp [results, Try.results64, go_sem, g0, g1, g2]; first | done | exact ⟨rfl, rfl⟩ | rfl) rfl ⟨_, rfl, ?_, below_store3 hx (by omega)⟩
  exact IsRat.stored hRB n5 n6 rfl rfl

end Go.Proofs.Ytkdcgkafjkklcaa

/- LAYER 3: the walk of checkOutline. -/
namespace Go.Proofs.Ytkdcgkafjkklcaa
open Go.RowKit

theorem keepC6 {n : Nat} {W a b : World} {A0 A1 A2 A3 A4 A5 : Addr} {v0 v1 v2 v3 v4 v5 : Value} (hn : n ≤ W.heap.size) (hb : Below a.heap.size a b)
    (h : Below n W a ∧ a.cell? A0 = some v0 ∧ a.cell? A1 = some v1 ∧ a.cell? A2 = some v2 ∧ a.cell? A3 = some v3 ∧ a.cell? A4 = some v4 ∧ a.cell? A5 = some v5) :
    Below n W b ∧ b.cell? A0 = some v0 ∧ b.cell? A1 = some v1 ∧ b.cell? A2 = some v2 ∧ b.cell? A3 = some v3 ∧ b.cell? A4 = some v4 ∧ b.cell? A5 = some v5 := by
  obtain ⟨h0, h1, h2, h3, h4, h5, h6⟩ := h
  have e : ∀ A v, a.cell? A = some v → b.cell? A = some v := fun A v h => (hb.cell (World.block_lt_of_cell? (h := h))).trans h
  have := h0.size
  exact ⟨h0.trans (hb.mono (by omega)), e _ _ h1, e _ _ h2, e _ _ h3, e _ _ h4, e _ _ h5, e _ _ h6⟩
/-- The sign of a number, behind a name. -/
def sgI (z : Int) : Int := if z < 0 then -1 else if z = 0 then 0 else 1
theorem sgI_int (z : Int) : sgI z ≤ 0 ↔ z ≤ 0 := by
  unfold sgI
  split
  · omega
  · split <;> omega
theorem sgnI_int (z : Int) : sgnI (decide ((z : Rat).num < 0)) (z : Rat).num.natAbs = sgI z := by
  have e : (z : Rat).num = z := by simp
  rw [e]
  unfold sgnI sgI
  by_cases h : z < 0
  · simp [h]
  · by_cases h0 : z = 0
    · simp [h0]
    · simp [h, h0]
theorem sign_int (z : Int) (v : Value) (w : World) (h : IsRat w v (z : Rat)) : Calls Try.prog 69 #[v] w (RetInt (sgI z) w) := by
  obtain ⟨a5, c5, a6, c6, rfl, _, _⟩ := IsRat.opened h
  rw [← sgnI_int]
  exact sign_any _ _ _ _ _ _ _ _

/-- All triples below k; those with k below j; those with k and j below i. -/
def OkK (l : List Pt) (k : Nat) : Prop := ∀ k', k' < k → ∀ j, j < k' → ∀ i, i < j → 0 < crossI (ptAt l i) (ptAt l j) (ptAt l k')
def OkJ (l : List Pt) (k j : Nat) : Prop := ∀ j', j' < j → ∀ i, i < j' → 0 < crossI (ptAt l i) (ptAt l j') (ptAt l k)
def OkI (l : List Pt) (k j i : Nat) : Prop := ∀ i', i' < i → 0 < crossI (ptAt l i') (ptAt l j) (ptAt l k)
theorem OkI.step {l : List Pt} {k j i : Nat} (h : OkI l k j i) (h1 : 0 < crossI (ptAt l i) (ptAt l j) (ptAt l k)) : OkI l k j (i + 1) := fun i' hi => by
  rcases Nat.lt_or_ge i' i with h2 | h2
  · exact h i' h2
  · obtain rfl : i' = i := by omega
    exact h1
theorem OkJ.step {l : List Pt} {k j : Nat} (h : OkJ l k j) (h1 : OkI l k j j) : OkJ l k (j + 1) := fun j' hj => by
  rcases Nat.lt_or_ge j' j with h2 | h2
  · exact h j' h2
  · obtain rfl : j' = j := by omega
    exact h1
theorem OkK.step {l : List Pt} {k : Nat} (h : OkK l k) (h1 : OkJ l k k) : OkK l (k + 1) := fun k' hk => by
  rcases Nat.lt_or_ge k' k with h2 | h2
  · exact h k' h2
  · obtain rfl : k' = k := by omega
    exact h1

theorem outErr_size (l : List Pt) (h : l.length < 3 ∨ 16 < l.length) : outErr l = 4 := by unfold outErr; rw [if_pos h]
theorem outErr_arg (l : List Pt) (h : ¬ (l.length < 3 ∨ 16 < l.length)) (h1 : ptsOk l = false) : outErr l = 1 := by unfold outErr; rw [if_neg h, if_pos h1]
theorem outErr_ok (l : List Pt) (h : ¬ (l.length < 3 ∨ 16 < l.length)) (h1 : ptsOk l = true) (h2 : Round3 l) : outErr l = 0 := by unfold outErr; rw [if_neg h, if_neg (by rw [h1]; simp), if_pos h2]
theorem outErr_order (l : List Pt) (h : ¬ (l.length < 3 ∨ 16 < l.length)) (h1 : ptsOk l = true) (h2 : ¬ Round3 l) : outErr l = 7 := by unfold outErr; rw [if_neg h, if_neg (by rw [h1]; simp), if_neg h2]

set_option maxRecDepth 100000 in
set_option maxHeartbeats 8000000 in
theorem checkOutline_any (l : List Pt) (v : Value) (w : World) (h : PairsOf w v l) : Calls Try.prog 56 #[v] w (RetInt (outErr l) w) := by
  have H := Lib.hid h
  obtain ⟨ao, cap, rfl, hE⟩ := h
  have HE := Lib.hid hE
  clear hE
  by_cases c1 : l.length < 3
  · have Hr := Lib.hid (outErr_size l (.inl c1))
    have t1 : decide ((l.length : Int) < 3) = true := by simp; omega
    clear c1
    go_enter Try.func56, Try.ntmps56
    go_wp2_with fail
    go_ret
    exact ⟨by rw [Hr.out]; rfl, Below.refl _ _⟩
  · have t1 : decide ((l.length : Int) < 3) = false := by simp; omega
    by_cases c2 : 16 < l.length
    · have Hr := Lib.hid (outErr_size l (.inr c2))
      have t2 : decide ((l.length : Int) > 16) = true := by simp; omega
      clear c1 c2
      go_enter Try.func56, Try.ntmps56
      go_wp2_with fail
      go_ret
      exact ⟨by rw [Hr.out]; rfl, Below.refl _ _⟩
    · have t2 : decide ((l.length : Int) > 16) = false := by simp; omega
      have hl16 : l.length ≤ 16 := by omega
      have Hsz : Hid (¬ (l.length < 3 ∨ 16 < l.length)) := by show ¬ _; omega
      clear c1 c2
      cases hok : ptsOk l with
      | false =>
        have Hr := Lib.hid (outErr_arg l Hsz.out hok)
        have Hok := Lib.hid hok
        clear hok
        go_enter Try.func56, Try.ntmps56
        go_wp2_with fail
        refine (isRight_any l _ _ H.out (by omega)).mono ?_
        rw [Hok.out]
        rintro e w1 ⟨rfl, hb1⟩
        go_wp2_with fail
        go_ret
        exact ⟨by rw [Hr.out]; rfl, hb1⟩
      | true =>
        have Hok := Lib.hid hok
        clear hok
        go_enter Try.func56, Try.ntmps56
        go_wp2_with fail
        refine (isRight_any l _ _ H.out (by omega)).mono ?_
        rw [Hok.out]
        rintro e w1 ⟨rfl, hb1⟩
        clear t1 t2
        go_wp2_with fail
        go_loopw [19] (fun kv wr => ∃ (k : Nat), k ≤ l.length ∧ kv = .int .i64 k ∧ Hid (OkK l k) ∧ Below w.heap.size w wr) (fun kv _ => l.length - (intOf kv).toNat)
        case atStart => exact ⟨0, Nat.zero_le _, rfl, fun k' hk => absurd hk (by omega), hb1⟩
        case round =>
          clear hb1
          obtain ⟨k, hk, rfl, hK, hbel⟩ := hrel
          by_cases hlk : k < l.length
          · have hlk' : (k : Int) < l.length := by omega
            generalize wr = wo at *
            go_wp2_with fail
            go_loopw [23] (fun jv wr => ∃ (j : Nat), j ≤ k ∧ jv = .int .i64 j ∧ Hid (OkJ l k j) ∧ Below w.heap.size w wr) (fun jv _ => k - (intOf jv).toNat)
            case atStart => exact ⟨0, Nat.zero_le _, rfl, fun k' hk => absurd hk (by omega), hbel⟩
            case round =>
              clear hbel
              obtain ⟨j, hj, rfl, hJ, hbel⟩ := hrel
              by_cases hlj : j < k
              · have hlj' : (j : Int) < k := by omega
                generalize wr = wp at *
                go_wp2_with fail
                go_loopw [27] (fun iv wr => ∃ (i : Nat), i ≤ j ∧ iv = .int .i64 i ∧ Hid (OkI l k j i) ∧ Below w.heap.size w wr) (fun iv _ => j - (intOf iv).toNat)
                case atStart => exact ⟨0, Nat.zero_le _, rfl, fun k' hk => absurd hk (by omega), hbel⟩
                case round =>
                  clear hbel
                  obtain ⟨i, hi, rfl, hI, hbel⟩ := hrel
                  by_cases hli : i < j
                  · obtain ⟨b, off, rfl, hbl, hLL⟩ := HE.out (by omega)
                    obtain ⟨p0, p1⟩ := (hLL i (by omega)).below hbel hbl
                    obtain ⟨p2, p3⟩ := (hLL j (by omega)).below hbel hbl
                    obtain ⟨p4, p5⟩ := (hLL k (by omega)).below hbel hbl
                    have hli' : (i : Int) < j := by omega
                    have hil : (i : Int) < l.length := by omega
                    have hjl : (j : Int) < l.length := by omega
                    have hi0 : (0 : Int) ≤ i := by omega
                    have hj0 : (0 : Int) ≤ j := by omega
                    have hk0 : (0 : Int) ≤ k := by omega
                    have hbl2 : b < wr.heap.size := Nat.lt_of_lt_of_le hbl hbel.size
                    have HC : Hid (∀ W, Calls Try.prog 62 #[.agg #[.int .i64 (l.getD i (0, 0)).1, .int .i64 (l.getD i (0, 0)).2], .agg #[.int .i64 (l.getD j (0, 0)).1, .int .i64 (l.getD j (0, 0)).2], .agg #[.int .i64 (l.getD k (0, 0)).1, .int .i64 (l.getD k (0, 0)).2]] W (RetRat ((crossI (ptAt l i) (ptAt l j) (ptAt l k) : Int) : Rat) W)) :=
                      fun W => cross_any (ptAt l i) (ptAt l j) (ptAt l k) W (ptsOk_get Hok.out i (by omega)) (ptsOk_get Hok.out j (by omega)) (ptsOk_get Hok.out k (by omega))
                    have Hst : Hid (0 < crossI (ptAt l i) (ptAt l j) (ptAt l k) → OkI l k j (i + 1)) := fun h1 => hI.out.step h1
                    have Hbad : Hid (¬ 0 < crossI (ptAt l i) (ptAt l j) (ptAt l k) → outErr l = 7) := fun h1 => outErr_order l Hsz.out Hok.out (fun hR => h1 (hR k hlk j hlj i hli))
                    generalize crossI (ptAt l i) (ptAt l j) (ptAt l k) = z at *
                    generalize (l.getD i (0, 0)).1 = ax at *
                    generalize (l.getD i (0, 0)).2 = ay at *
                    generalize (l.getD j (0, 0)).1 = bx at *
                    generalize (l.getD j (0, 0)).2 = by' at *
                    generalize (l.getD k (0, 0)).1 = cx at *
                    generalize (l.getD k (0, 0)).2 = cy at *
                    have Hsg := Lib.hid (sgI_int z)
                    have HSI := Lib.hid (sign_int z)
                    clear hLL hI hJ hK
                    go_wp2_with fail
                    go_region_held3 (fun w' => Below wr.heap.size wr w' ∧ w'.cell? ⟨b, off + i * 2, none⟩ = some (.int .i64 ax) ∧ w'.cell? ⟨b, off + i * 2 + 1, none⟩ = some (.int .i64 ay) ∧ w'.cell? ⟨b, off + j * 2, none⟩ = some (.int .i64 bx) ∧ w'.cell? ⟨b, off + j * 2 + 1, none⟩ = some (.int .i64 by') ∧ w'.cell? ⟨b, off + k * 2, none⟩ = some (.int .i64 cx) ∧ w'.cell? ⟨b, off + k * 2 + 1, none⟩ = some (.int .i64 cy))
                      (first | exact ⟨(Below.refl _ _).drew, p0, p1, p2, p3, p4, p5⟩ | assumption | exact keepC6 (Nat.le_refl _) hbB (by assumption) | exact keepC6 (Nat.le_refl _) hbA (by assumption))
                      (first
                        | (go_at_call 62; refine (HC.out _).mono ?_; rintro e wA ⟨vA, rfl, hvA, hbA⟩)
                        | (go_at_call 69; refine (HSI.out _ _ hvA).mono ?_; rintro e wB ⟨rfl, hbB⟩))
                    rename_i hS
                    have hx := ext_trans hbel hS.1
                    clear hS p0 p1 p2 p3 p4 p5 hvA
                    generalize sgI z = s at *
                    by_cases hz : 0 < z
                    · have Hst2 := Lib.hid (Hst.out hz)
                      have t7 : decide (s ≤ 0) = false := decide_eq_false (fun h => by have := Hsg.out.1 h; omega)
                      rw [t7]
                      clear hz
                      go_wp2_with fail
                      exact ⟨⟨i + 1, by omega, by go_num, Hst2.out, hx⟩, meas_up hli⟩
                    · have Hr : Hid (outErr l = 7) := Hbad.out (by omega)
                      have t7 : decide (s ≤ 0) = true := decide_eq_true (Hsg.out.2 (by omega))
                      rw [t7]
                      clear hz
                      go_wp2_with fail
                      go_ret
                      exact ⟨by rw [Hr.out]; rfl, hx⟩
                  · obtain rfl : i = j := by omega
                    go_wp2_with fail
                    exact ⟨⟨i + 1, by omega, by go_num, hJ.out.step hI.out, hbel⟩, meas_up hlj⟩
              · obtain rfl : j = k := by omega
                go_wp2_with fail
                exact ⟨⟨j + 1, by omega, by go_num, hK.out.step hJ.out, hbel⟩, meas_up hlk⟩
          · obtain rfl : k = l.length := by omega
            have Hr := Lib.hid (outErr_ok l Hsz.out Hok.out hK.out)
            go_wp2_with fail
            go_ret
            exact ⟨by rw [Hr.out]; rfl, hbel⟩

end Go.Proofs.Ytkdcgkafjkklcaa

/- LAYER 3: the walks of Course.check and Tows. -/
namespace Go.Proofs.Ytkdcgkafjkklcaa
open Go.RowKit

structure Crs where
  first : Int
  tows : Int
  width : Int
  gap : Int
  from_ : Int
  to_ : Int
def crs0 : Crs := ⟨0, 0, 0, 0, 0, 0⟩
def CrsAt (w : World) (b o : Nat) (c : Crs) : Prop := w.cell? ⟨b, o, none⟩ = some (.int .i64 c.first) ∧ w.cell? ⟨b, o + 1, none⟩ = some (.int .i64 c.tows) ∧ w.cell? ⟨b, o + 2, none⟩ = some (.int .i64 c.width) ∧
  w.cell? ⟨b, o + 3, none⟩ = some (.int .i64 c.gap) ∧ w.cell? ⟨b, o + 4, none⟩ = some (.int .i64 c.from_) ∧ w.cell? ⟨b, o + 5, none⟩ = some (.int .i64 c.to_)
def CrsOf (w : World) (v : Value) (cs : List Crs) : Prop :=
  ∃ ao cap, v = .slice ao cs.length cap ∧ (0 < cs.length → ∃ b off, ao = some ⟨b, off, none⟩ ∧ b < w.heap.size ∧ ∀ i, i < cs.length → CrsAt w b (off + i * 6) (cs.getD i crs0))
theorem CrsAt.below {w w' : World} {b o : Nat} {r : Crs} (h : CrsAt w b o r) (hb : Below w.heap.size w w') (hl : b < w.heap.size) : CrsAt w' b o r := by
  obtain ⟨h0, h1, h2, h3, h4, h5⟩ := h
  have c : ∀ j v, w.cell? ⟨b, j, none⟩ = some v → w'.cell? ⟨b, j, none⟩ = some v := fun j v h => (hb.cell (p := ⟨b, j, none⟩) hl).trans h
  exact ⟨c _ _ h0, c _ _ h1, c _ _ h2, c _ _ h3, c _ _ h4, c _ _ h5⟩
theorem CrsOf.below {w w' : World} {v : Value} {cs : List Crs} (h : CrsOf w v cs) (hb : Below w.heap.size w w') : CrsOf w' v cs := by
  obtain ⟨ao, cap, rfl, h⟩ := h
  refine ⟨ao, cap, rfl, fun hl => ?_⟩
  obtain ⟨b, off, rfl, hlt, h⟩ := h hl
  exact ⟨b, off, rfl, Nat.lt_of_lt_of_le hlt hb.size, fun i hi => (h i hi).below hb hlt⟩

/-- The error of a course. -/
def cE (a b c d e f : Bool) : Int := if a && b && c then (if d then (if e || f then 7 else 0) else 1) else 1
def crsErr (c : Crs) : Int := cE (inB c.tows 1 24) (inB c.width 1 1000000) (inB c.gap (-1000000) 1000000) (ptsOk [(c.from_, c.first), (c.to_, 0)]) (decide (c.from_ ≥ c.to_)) (decide (c.width + c.gap ≤ 0))
structure GoodCrs (c : Crs) : Prop where
  tows : 1 ≤ c.tows ∧ c.tows ≤ 24
  width : 1 ≤ c.width ∧ c.width ≤ 1000000
  gap : -1000000 ≤ c.gap ∧ c.gap ≤ 1000000
  first : -4398046511104 ≤ c.first ∧ c.first ≤ 4398046511104
  sum : 0 < c.width + c.gap
theorem inB_iff (n lo hi : Int) : inB n lo hi = true ↔ lo ≤ n ∧ n ≤ hi := by simp [inB]
theorem crs_good {c : Crs} (h : crsErr c = 0) : GoodCrs c := by
  unfold crsErr cE at h
  split at h
  · rename_i h1
    simp only [Bool.and_eq_true, inB_iff] at h1
    split at h
    · rename_i h2
      split at h
      · cases h
      · rename_i h3
        simp only [Bool.or_eq_true, decide_eq_true_eq, not_or] at h3
        have := ptOk_range (ptsOk_get h2 0 (by simp))
        simp [ptAt, far] at this
        exact ⟨h1.1.1, h1.1.2, h1.2, this.2, by omega⟩
    · cases h
  · cases h

theorem cell_new22 (w : World) (a b c d : Int) (t : TypeId) : PairsOf (w.alloc (.cells #[.int .i64 a, .int .i64 b, .int .i64 c, .int .i64 d] t)) (.slice (some ⟨w.heap.size, 0, none⟩) 2 2) [(a, b), (c, d)] := by
  have hB := blk_new w #[.int .i64 a, .int .i64 b, .int .i64 c, .int .i64 d] t
  refine ⟨_, 2, rfl, fun _ => ⟨w.heap.size, 0, rfl, blk_lt hB, fun i hi => ?_⟩⟩
  match i, hi with
  | 0, _ => exact ⟨blk_cell hB 0 _ rfl, blk_cell hB 1 _ rfl⟩
  | 1, _ => exact ⟨blk_cell hB 2 _ rfl, blk_cell hB 3 _ rfl⟩
  | i + 2, hi => simp at hi; omega

set_option maxRecDepth 100000 in
set_option maxHeartbeats 4000000 in
theorem check_any (c : Crs) (w : World) : Calls Try.prog 59 #[.agg #[.int .i64 c.first, .int .i64 c.tows, .int .i64 c.width, .int .i64 c.gap, .int .i64 c.from_, .int .i64 c.to_]] w (RetInt (crsErr c) w) := by
  have Hc : Hid (crsErr c = cE (inB c.tows 1 24) (inB c.width 1 1000000) (inB c.gap (-1000000) 1000000) (ptsOk [(c.from_, c.first), (c.to_, 0)]) (decide (c.from_ ≥ c.to_)) (decide (c.width + c.gap ≤ 0))) := rfl
  generalize crsErr c = r at *
  generalize c.first = a0 at *
  generalize c.tows = a1 at *
  generalize c.width = a2 at *
  generalize c.gap = a3 at *
  generalize c.from_ = a4 at *
  generalize c.to_ = a5 at *
  have Hw : Hid (inB a2 1 1000000 = true → inB a3 (-1000000) 1000000 = true → IntKind.i64.wrap (a2 + a3) = a2 + a3) := fun h1 h2 => by
    rw [inB_iff] at h1 h2
    exact IntWalk.i64_in _ (by omega)
  have hB := blk_new w #[.int .i64 a0, .int .i64 a1, .int .i64 a2, .int .i64 a3, .int .i64 a4, .int .i64 a5] 137
  have hal := (Below.refl w.heap.size w).alloc (Nat.le_refl _) (.cells #[.int .i64 a0, .int .i64 a1, .int .i64 a2, .int .i64 a3, .int .i64 a4, .int .i64 a5] 137)
  go_enter Try.func59, Try.ntmps59
  go_wp2_with fail
  refine (within_any a1 1 24 _).mono ?_
  rintro e w1 ⟨rfl, hb1⟩
  have hB1 := blk_keep hB hb1 (blk_lt hB)
  have hx1 := ext_trans hal hb1
  have c2 := blk_cell hB1 2 (.int .i64 a2) rfl
  clear hB hal hb1
  generalize inB a1 1 24 = p1 at *
  cases p1 with
  | false =>
    go_wp2_with fail
    go_ret
    exact ⟨by rw [Hc.out]; rfl, hx1⟩
  | true =>
    go_wp2_with fail
    refine (within_any a2 1 1000000 _).mono ?_
    rintro e w2 ⟨rfl, hb2⟩
    have hB2 := blk_keep hB1 hb2 (blk_lt hB1)
    have hx2 := ext_trans hx1 hb2
    have c3 := blk_cell hB2 3 (.int .i64 a3) rfl
    clear hB1 hx1 hb2 c2
    generalize inB a2 1 1000000 = p2 at *
    cases p2 with
    | false =>
      go_wp2_with fail
      go_ret
      exact ⟨by rw [Hc.out]; rfl, hx2⟩
    | true =>
      go_wp2_with fail
      refine (within_any a3 _ _ _).mono ?_
      rintro e w3 ⟨rfl, hb3⟩
      have hB3 := blk_keep hB2 hb3 (blk_lt hB2)
      have hx3 := ext_trans hx2 hb3
      have c4 := blk_cell hB3 4 (.int .i64 a4) rfl
      have c0 := blk_cell hB3 0 (.int .i64 a0) rfl
      have c5 := blk_cell hB3 5 (.int .i64 a5) rfl
      clear hB2 hx2 hb3 c3
      generalize inB a3 (-1000000) 1000000 = p3 at *
      cases p3 with
      | false =>
        go_wp2_with fail
        go_ret
        exact ⟨by rw [Hc.out]; rfl, hx3⟩
      | true =>
        have hw := Hw.out (by simp) (by simp)
        have HP := Lib.hid (cell_new22 w3 a4 a0 a5 0 55)
        have hx4 := hx3.alloc hx3.size (.cells #[.int .i64 a4, .int .i64 a0, .int .i64 a5, .int .i64 0] 55)
        have hB4 := blk_keep hB3 ((Below.refl _ _).alloc (Nat.le_refl _) (.cells #[.int .i64 a4, .int .i64 a0, .int .i64 a5, .int .i64 0] 55)) (blk_lt hB3)
        clear hB3 hx3
        go_wp2_with fail
        refine (isRight_any [(a4, a0), (a5, 0)] _ _ HP.out (by simp)).mono ?_
        rintro e w4 ⟨rfl, hb4⟩
        have hB5 := blk_keep hB4 hb4 (blk_lt hB4)
        have hx5 := ext_trans hx4 hb4
        have d2 := blk_cell hB5 2 (.int .i64 a2) rfl
        have d3 := blk_cell hB5 3 (.int .i64 a3) rfl
        have d4 := blk_cell hB5 4 (.int .i64 a4) rfl
        have d5 := blk_cell hB5 5 (.int .i64 a5) rfl
        clear hB4 hB5 hx4 hb4 HP c4 c0 c5
        generalize ptsOk [(a4, a0), (a5, 0)] = p4 at *
        cases p4 with
        | false =>
          go_wp2_with fail
          go_ret
          exact ⟨by rw [Hc.out]; rfl, hx5⟩
        | true =>
          by_cases h6 : a4 ≥ a5
          · have t6 : decide (a4 ≥ a5) = true := decide_eq_true h6
            have Hr : Hid (r = 7) := by show _ = _; rw [Hc.out, t6]; rfl
            clear h6 Hc
            go_wp2_with fail
            go_ret
            exact ⟨by rw [Hr.out]; rfl, hx5⟩
          · have t6 : decide (a4 ≥ a5) = false := decide_eq_false h6
            by_cases h7 : a2 + a3 ≤ 0
            · have t7 : decide (a2 + a3 ≤ 0) = true := decide_eq_true h7
              have Hr : Hid (r = 7) := by show _ = _; rw [Hc.out, t6, t7]; rfl
              clear h6 h7 Hc
              go_wp2_with fail
              go_ret
              exact ⟨by rw [Hr.out]; rfl, hx5⟩
            · have t7 : decide (a2 + a3 ≤ 0) = false := decide_eq_false h7
              have Hr : Hid (r = 0) := by show _ = _; rw [Hc.out, t6, t7]; rfl
              clear h6 h7 Hc
              go_wp2_with fail
              go_ret
              exact ⟨by rw [Hr.out]; rfl, hx5⟩

abbrev Bx := Int × Int × Int × Int
def bxI (c : Crs) (k : Nat) : Bx := (c.from_, c.first + k * (c.width + c.gap), c.to_, c.first + k * (c.width + c.gap) + c.width)
def bxsOf (c : Crs) (n : Nat) : List Bx := (List.range n).map (bxI c)
theorem bxsOf_succ (c : Crs) (n : Nat) : bxsOf c (n + 1) = bxsOf c n ++ [bxI c n] := by simp [bxsOf, List.range_succ]
def bxsTo (cs : List Crs) : Nat → List Bx
  | 0 => []
  | n + 1 => bxsTo cs n ++ bxsOf (cs.getD n crs0) (cs.getD n crs0).tows.toNat
def bxCells : List Bx → List Value
  | [] => []
  | x :: l => .int .i64 x.1 :: .int .i64 x.2.1 :: .int .i64 x.2.2.1 :: .int .i64 x.2.2.2 :: bxCells l
theorem bxCells_append (a b : List Bx) : bxCells (a ++ b) = bxCells a ++ bxCells b := by
  induction a with
  | nil => rfl
  | cons r a ih => simp [bxCells, ih]
theorem bxCells_get (ls : List Bx) : ∀ i, i < ls.length → (bxCells ls)[i * 4]? = some (.int .i64 (ls.getD i (0, 0, 0, 0)).1) ∧ (bxCells ls)[i * 4 + 1]? = some (.int .i64 (ls.getD i (0, 0, 0, 0)).2.1) ∧ (bxCells ls)[i * 4 + 2]? = some (.int .i64 (ls.getD i (0, 0, 0, 0)).2.2.1) ∧ (bxCells ls)[i * 4 + 3]? = some (.int .i64 (ls.getD i (0, 0, 0, 0)).2.2.2) := by
  induction ls with
  | nil => intro i hi; simp at hi
  | cons r l ih =>
    intro i hi
    cases i with
    | zero => simp [bxCells]
    | succ i =>
      have := ih i (by simpa using hi)
      simpa [bxCells, Nat.succ_mul] using this
/-- Four cells read as a box. -/
def BxAt (w : World) (b o : Nat) (r : Bx) : Prop := w.cell? ⟨b, o, none⟩ = some (.int .i64 r.1) ∧ w.cell? ⟨b, o + 1, none⟩ = some (.int .i64 r.2.1) ∧ w.cell? ⟨b, o + 2, none⟩ = some (.int .i64 r.2.2.1) ∧ w.cell? ⟨b, o + 3, none⟩ = some (.int .i64 r.2.2.2)
def BxsOf (w : World) (v : Value) (ls : List Bx) : Prop :=
  ∃ ao cap, v = .slice ao ls.length cap ∧ (0 < ls.length → ∃ b off, ao = some ⟨b, off, none⟩ ∧ b < w.heap.size ∧ ∀ i, i < ls.length → BxAt w b (off + i * 4) (ls.getD i (0, 0, 0, 0)))
theorem BxAt.below {w w' : World} {b o : Nat} {r : Bx} (h : BxAt w b o r) (hb : Below w.heap.size w w') (hl : b < w.heap.size) : BxAt w' b o r := by
  obtain ⟨h0, h1, h2, h3⟩ := h
  have c : ∀ j v, w.cell? ⟨b, j, none⟩ = some v → w'.cell? ⟨b, j, none⟩ = some v := fun j v h => (hb.cell (p := ⟨b, j, none⟩) hl).trans h
  exact ⟨c _ _ h0, c _ _ h1, c _ _ h2, c _ _ h3⟩
theorem BxsOf.below {w w' : World} {v : Value} {cs : List Bx} (h : BxsOf w v cs) (hb : Below w.heap.size w w') : BxsOf w' v cs := by
  obtain ⟨ao, cap, rfl, h⟩ := h
  refine ⟨ao, cap, rfl, fun hl => ?_⟩
  obtain ⟨b, off, rfl, hlt, h⟩ := h hl
  exact ⟨b, off, rfl, Nat.lt_of_lt_of_le hlt hb.size, fun i hi => (h i hi).below hb hlt⟩
theorem BxsOf.nil (w : World) : BxsOf w (.slice none 0 0) [] := ⟨none, 0, rfl, fun h => absurd h (by simp)⟩
theorem BxsOf.ofRow {w : World} {base : Nat} {e : TypeId} {v : Value} {ls : List Bx} (h : LRow w base e 4 v ls.length (bxCells ls)) : BxsOf w v ls := by
  rcases Nat.eq_zero_or_pos ls.length with h0 | hp
  · rcases h.1.2 with ⟨rfl, _⟩ | ⟨g, cap, cur, rfl, _⟩
    · exact ⟨none, 0, by rw [h0], fun h => absurd h (by omega)⟩
    · exact ⟨_, _, rfl, fun h => absurd h (by omega)⟩
  · obtain ⟨g, cap, rfl⟩ := ownsRow_some h.1 hp
    have hc : ∀ j u, (bxCells ls)[j]? = some u → w.cell? ((⟨g, 0, none⟩ : Addr).add j) = some u := h.1.cells (g := g) rfl
    have hlt : g < w.heap.size := (h.lt rfl).1
    refine ⟨_, _, rfl, fun _ => ⟨g, 0, rfl, hlt, fun i hi => ?_⟩⟩
    obtain ⟨h0, h1, h2, h3⟩ := bxCells_get ls i hi
    have ea : ∀ j, (⟨g, 0, none⟩ : Addr).add j = ⟨g, 0 + j, none⟩ := fun j => by unfold Addr.add; split <;> simp_all
    refine ⟨?_, ?_, ?_, ?_⟩
    · rw [← ea]; exact hc _ _ h0
    all_goals rw [Nat.add_assoc, ← ea]
    · exact hc _ _ h1
    · exact hc _ _ h2
    · exact hc _ _ h3
theorem info_box : (Try.prog.info? 73).map (fun i => (i.zero, i.size, i.bytes)) = some (some (.agg #[.int .i64 0, .int .i64 0, .int .i64 0, .int .i64 0]), 4, 32) := by kernel_rfl
theorem cell_new4i (w : World) (a b c d : Value) (t : TypeId) : ∀ j u, [a, b, c, d][j]? = some u → (w.alloc (.cells #[a, b, c, d] t)).cell? ((⟨w.heap.size, 0, none⟩ : Addr).add j) = some u := by
  intro j u hj
  match j, hj with
  | 0, hj => simp at hj; subst hj; simp [Addr.add]
  | 1, hj => simp at hj; subst hj; simp [Addr.add]
  | 2, hj => simp at hj; subst hj; simp [Addr.add]
  | 3, hj => simp at hj; subst hj; simp [Addr.add]
  | j + 4, hj => simp at hj

/-- The first error of courses. -/
def crsTo (cs : List Crs) : Nat → Int
  | 0 => 0
  | n + 1 => if crsTo cs n = 0 then crsErr (cs.getD n crs0) else crsTo cs n
theorem crsTo_stay (cs : List Crs) (k : Nat) : ∀ n, crsTo cs k ≠ 0 → k ≤ n → crsTo cs n = crsTo cs k := by
  intro n h hk
  induction n with
  | zero =>
    obtain rfl : k = 0 := by omega
    rfl
  | succ n ih =>
    rcases Nat.lt_or_ge k (n + 1) with h1 | h1
    · rw [crsTo, ih (by omega), if_neg h]
    · obtain rfl : k = n + 1 := by omega
      rfl
theorem crsTo_good (cs : List Crs) : ∀ n, crsTo cs n = 0 → ∀ i, i < n → crsErr (cs.getD i crs0) = 0
  | 0, _, i, hi => absurd hi (by omega)
  | n + 1, h, i, hi => by
    rw [crsTo] at h
    split at h
    · rename_i h0
      rcases Nat.lt_or_ge i n with h1 | h1
      · exact crsTo_good cs n h0 i h1
      · obtain rfl : i = n := by omega
        exact h
    · rename_i h0; exact absurd h h0
theorem bxsTo_length (cs : List Crs) : ∀ n, crsTo cs n = 0 → (bxsTo cs n).length ≤ 24 * n
  | 0, _ => by simp [bxsTo]
  | n + 1, h => by
    have hg := crs_good (crsTo_good cs (n + 1) h n (by omega))
    have h0 : crsTo cs n = 0 := by
      rw [crsTo] at h
      split at h
      · assumption
      · rename_i h0; exact absurd h h0
    have := bxsTo_length cs n h0
    have := hg.tows
    have e : (bxsOf (cs.getD n crs0) (cs.getD n crs0).tows.toNat).length = (cs.getD n crs0).tows.toNat := by simp [bxsOf]
    simp only [bxsTo, List.length_append]
    rw [e]
    omega
def towsErr (cs : List Crs) : Int := if 24 < cs.length then 4 else if crsTo cs cs.length ≠ 0 then crsTo cs cs.length else if 24 < (bxsTo cs cs.length).length then 9 else 0
def towsVal (cs : List Crs) : List Bx := if towsErr cs = 0 then bxsTo cs cs.length else []
def RetTows (cs : List Crs) (w : World) (e : Ending) (w' : World) : Prop := ∃ v, e = .returned (.tuple #[v, .int .i64 (towsErr cs)]) ∧ BxsOf w' v (towsVal cs) ∧ Below w.heap.size w w'
theorem towsVal_err {cs : List Crs} (h : towsErr cs ≠ 0) : towsVal cs = [] := by unfold towsVal; rw [if_neg h]

theorem ownBlock_low' {w : World} {base : Nat} {e : TypeId} {size : Nat} {v : Value} {n : Nat} {xs : List Value} (h : w.ownsRow base e size v n xs) : ∀ k, v.ownBlock = some k → base ≤ k := by
  intro k hk
  rcases h.2 with ⟨rfl, _⟩ | ⟨g, cap, cur, rfl, hb, _⟩
  · simp [Value.ownBlock] at hk
  · simp [Value.ownBlock] at hk
    omega
set_option maxRecDepth 100000 in
set_option maxHeartbeats 8000000 in
theorem tows_any (cs : List Crs) (v : Value) (w : World) (h : CrsOf w v cs) : Calls Try.prog 25 #[v] w (RetTows cs w) := by
  obtain ⟨ao, cap, rfl, hE⟩ := h
  have HE := Lib.hid hE
  clear hE
  by_cases c1 : 24 < cs.length
  · have Hr : Hid (towsErr cs = 4) := by show _ = _; unfold towsErr; rw [if_pos c1]
    have t1 : decide ((cs.length : Int) > 24) = true := by simp; omega
    clear c1
    go_enter Try.func25, Try.ntmps25
    go_wp2_with fail
    go_ret2
    exact ⟨.slice none 0 0, by rw [Hr.out]; rfl, by rw [towsVal_err (by rw [Hr.out]; omega)]; exact BxsOf.nil _, Below.refl _ _⟩
  · have t1 : decide ((cs.length : Int) > 24) = false := by simp; omega
    have h24 : cs.length ≤ 24 := by omega
    have Hc1 := Lib.hid c1
    obtain ⟨i0, hi0, hz0, hz1, hz2⟩ := info_parts info_box
    have hzd : ∀ u ∈ (Value.agg #[.int .i64 0, .int .i64 0, .int .i64 0, .int .i64 0]).cells.toList, noDig u := by
      intro u hu
      simp [Value.cells] at hu
      subst hu
      exact noDig_i64 _
    clear c1
    go_enter Try.func25, Try.ntmps25
    go_wp2_with fail
    go_loopw [4, 15] (fun ov iv wr => ∃ (i : Nat), i ≤ cs.length ∧ iv = .int .i64 i ∧ Hid (crsTo cs i = 0) ∧ Hid (LRow wr w.heap.size 73 4 ov (bxsTo cs i).length (bxCells (bxsTo cs i))) ∧ Below w.heap.size w wr) (fun _ iv _ => cs.length - (intOf iv).toNat)
    case atStart => exact ⟨0, Nat.zero_le _, rfl, rfl, LRow.nil _ _ _ _, Below.refl _ _⟩
    case round =>
      obtain ⟨i, hi, rfl, hC, hL, hbel⟩ := hrel
      by_cases hlt : i < cs.length
      · obtain ⟨b, off, rfl, hbl, hEE⟩ := HE.out (by omega)
        obtain ⟨g0, g1, g2, g3, g4, g5⟩ := (hEE i hlt).below hbel hbl
        have hlt' : (i : Int) < cs.length := by omega
        have hge' : (0 : Int) ≤ i := by omega
        have hbl2 : b < wr.heap.size := Nat.lt_of_lt_of_le hbl hbel.size
        have hbs0 := hbel.size
        have Hst : Hid (crsTo cs (i + 1) = crsErr (cs.getD i crs0)) := by show _ = _; rw [crsTo, if_pos hC.out]
        have Hbs : Hid (bxsTo cs (i + 1) = bxsTo cs i ++ bxsOf (cs.getD i crs0) (cs.getD i crs0).tows.toNat) := rfl
        have Hbl := bxsTo_length cs i hC.out
        have HCK := Lib.hid (fun W => check_any (cs.getD i crs0) W)
        have Hbad : Hid (crsErr (cs.getD i crs0) ≠ 0 → towsErr cs = crsErr (cs.getD i crs0)) := fun h => by
          have h2 : crsTo cs cs.length = crsErr (cs.getD i crs0) := by rw [← Hst.out]; exact crsTo_stay cs (i + 1) cs.length (by rw [Hst.out]; exact h) hlt
          unfold towsErr
          rw [if_neg Hc1.out, h2, if_pos h]
        have HG := Lib.hid (fun h => crs_good (c := cs.getD i crs0) h)
        generalize cs.getD i crs0 = c at *
        have hN := blk_new wr #[.int .i64 c.first, .int .i64 c.tows, .int .i64 c.width, .int .i64 c.gap, .int .i64 c.from_, .int .i64 c.to_] 137
        have hal := (Below.refl wr.heap.size wr).alloc (Nat.le_refl _) (.cells #[.int .i64 c.first, .int .i64 c.tows, .int .i64 c.width, .int .i64 c.gap, .int .i64 c.from_, .int .i64 c.to_] 137)
        have HL0 := Lib.hid (hL.out.below hal)
        have hOlt := Lib.hid (fun g (hg : u4.ownBlock = some g) => (hL.out.lt hg).1)
        have hx0 := ext_trans hbel hal
        clear hEE hbel hL
        go_wp2_with fail
        refine (HCK.out _).mono ?_
        rintro e w1 ⟨rfl, hb1⟩
        have hN1 := blk_keep hN hb1 (blk_lt hN)
        have HL1 := Lib.hid (HL0.out.below hb1)
        have hx1 := ext_trans hx0 hb1
        have c1 := blk_cell hN1 1 (.int .i64 c.tows) rfl
        clear HL0 hx0 hb1 hN hal g0 g1 g2 g3 g4 g5
        by_cases he : crsErr c = 0
        · have hg := HG.out he
          obtain ⟨⟨ht1, ht2⟩, hw, hgp, hf, _⟩ := hg
          have te : (crsErr c != 0) = false := by rw [he]; rfl
          have He := Lib.hid he
          clear he
          generalize crsErr c = er at *
          go_wp2_with fail
          have HNn := Lib.hid hN1
          have hCl := blk_lt hN1
          have hCB : w.heap.size ≤ wr.heap.size := hbs0
          clear hN1 c1 te
          generalize wr.heap.size = CB at *
          go_loopw [26, 4] (fun kv ov wx => ∃ (k : Nat), (k : Int) ≤ c.tows ∧ kv = .int .i64 k ∧ Hid (LRow wx w.heap.size 73 4 ov (bxsTo cs i ++ bxsOf c k).length (bxCells (bxsTo cs i ++ bxsOf c k))) ∧ Hid (wx.heap[CB]? = some (.cells #[.int .i64 c.first, .int .i64 c.tows, .int .i64 c.width, .int .i64 c.gap, .int .i64 c.from_, .int .i64 c.to_] 137 (0, 0))) ∧ Hid (∀ g, ov.ownBlock = some g → g ≠ CB) ∧ Below w.heap.size w wx) (fun kv _ _ => (c.tows - intOf kv).toNat)
          case atStart => exact ⟨0, by omega, rfl, by simp only [bxsOf, List.range_zero, List.map_nil, List.append_nil]; exact HL1.out, HNn.out, fun g hg e => Nat.lt_irrefl CB (by have := hOlt.out g hg; omega), hx1⟩
          case round =>
            clear HL1 HNn hx1
            obtain ⟨k, hk, rfl, hLk, hNk, hne, hbx⟩ := hrel
            have hCl' := blk_lt hNk.out
            by_cases hlk : (k : Int) < c.tows
            · have tk : decide ((k : Int) < c.tows) = true := decide_eq_true hlk
              have m0 := blk_cell hNk.out 0 (.int .i64 c.first) rfl
              have m2 := blk_cell hNk.out 2 (.int .i64 c.width) rfl
              have m3 := blk_cell hNk.out 3 (.int .i64 c.gap) rfl
              have m4 := blk_cell hNk.out 4 (.int .i64 c.from_) rfl
              have m5 := blk_cell hNk.out 5 (.int .i64 c.to_) rfl
              have hbi : bxI c k = (c.from_, c.first + (k : Int) * (c.width + c.gap), c.to_, c.first + (k : Int) * (c.width + c.gap) + c.width) := rfl
              obtain ⟨S, hS⟩ : ∃ S, S = c.width + c.gap := ⟨_, rfl⟩
              have hS1 : -2000000 ≤ S ∧ S ≤ 2000000 := by omega
              have e1 : IntKind.i64.wrap (c.width + c.gap) = S := by rw [hS]; exact IntWalk.i64_in _ (by omega)
              rw [← hS] at hbi
              have hp := mul_absI (show -24 ≤ (k : Int) ∧ (k : Int) ≤ 24 by omega) hS1
              obtain ⟨P, hP⟩ : ∃ P, P = (k : Int) * S := ⟨_, rfl⟩
              rw [← hP] at hbi hp
              have e2 : IntKind.i64.wrap ((k : Int) * S) = P := by rw [← hP]; exact IntWalk.i64_in _ (by omega)
              obtain ⟨Y, hY⟩ : ∃ Y, Y = c.first + P := ⟨_, rfl⟩
              rw [← hY] at hbi
              have e3 : IntKind.i64.wrap (c.first + P) = Y := by rw [hY]; exact IntWalk.i64_in _ (by omega)
              obtain ⟨Y2, hY2⟩ : ∃ Y2, Y2 = Y + c.width := ⟨_, rfl⟩
              rw [← hY2] at hbi
              have e4 : IntKind.i64.wrap (Y + c.width) = Y2 := by rw [hY2]; exact IntWalk.i64_in _ (by omega)
              have Hsn : Hid (bxsTo cs i ++ bxsOf c (k + 1) = (bxsTo cs i ++ bxsOf c k) ++ [(c.from_, Y, c.to_, Y2)]) := by show _ = _; rw [bxsOf_succ, hbi, List.append_assoc]
              have hpl : (bxsTo cs i ++ bxsOf c k).length ≤ 1000 := by rw [List.length_append]; simp only [bxsOf, List.length_map, List.length_range]; omega
              have hbw := hbx.size
              clear hbi hS hS1 hp hP hY hY2
              generalize bxsTo cs i ++ bxsOf c k = pre at *
              have hal := (Below.refl wr.heap.size wr).alloc (Nat.le_refl _) (.cells #[.int .i64 c.from_, .int .i64 Y, .int .i64 c.to_, .int .i64 Y2] 73)
              have HLa := Lib.hid (hLk.out.below hal)
              have HNa := Lib.hid (blk_keep hNk.out hal hCl')
              have hxa := hbx.alloc hbx.size (.cells #[.int .i64 c.from_, .int .i64 Y, .int .i64 c.to_, .int .i64 Y2] 73)
              have HNE := Lib.hid hne.out
              clear hLk hNk hal hne hbx
              go_wp2_with (at_builtin; refine wpList_append_lrow _ rfl (.tmp 39) (.tmp 52) 65 rfl w.heap.size 73 i0 _ 4 32 Try.underlying65 hi0 hz0 hz1 hz2 rfl (by decide) hzd _ _ _ rfl HLa.out ⟨wr.heap.size, 0, none⟩ 1 1 [.int .i64 c.from_, .int .i64 Y, .int .i64 c.to_, .int .i64 Y2] rfl rfl (cell_new4i _ _ _ _ _ _) (by simp [Value.oneCell']) (by intro u hu; simp at hu; rcases hu with rfl | rfl | rfl | rfl <;> exact noDig_i64 _) (by omega) (by unfold maxLen; omega) (by omega) (by simp; omega) ?_)
              intro g' cap' w3 hL4 hgr hat
              have HL4 : Hid (LRow w3 w.heap.size 73 4 (.slice (some ⟨g', 0, none⟩) (pre.length + 1) cap') (pre ++ [(c.from_, Y, c.to_, Y2)]).length (bxCells (pre ++ [(c.from_, Y, c.to_, Y2)]))) := by
                show LRow _ _ _ _ _ _ _
                rw [bxCells_append, List.length_append]
                exact hL4
              have hx4 : Below w.heap.size w w3 := hxa.grown hgr (by simp; omega) (ownBlock_low' HLa.out.1)
              have HN4 : Hid (w3.heap[CB]? = some (.cells #[.int .i64 c.first, .int .i64 c.tows, .int .i64 c.width, .int .i64 c.gap, .int .i64 c.from_, .int .i64 c.to_] 137 (0, 0))) := (hgr.block CB (by simp; omega) (fun e => HNE.out CB e.symm rfl)).trans HNa.out
              have HE4 : Hid (∀ g, (Value.slice (some ⟨g', 0, none⟩) (pre.length + 1) cap').ownBlock = some g → g ≠ CB) := by
                intro g hg
                simp [Value.ownBlock] at hg
                subst hg
                rcases hat with h | h
                · exact HNE.out _ h
                · rw [h]; simp; omega
              clear hL4 hgr hat HLa HNa hxa
              go_wp2_with fail
              exact ⟨⟨k + 1, by omega, by go_num, by rw [Hsn.out]; exact HL4.out, HN4.out, HE4.out, hx4⟩, by simp [intOf]; omega⟩
            · have tk : decide ((k : Int) < c.tows) = false := decide_eq_false hlk
              have hkt : c.tows.toNat = k := by omega
              have Hfin : Hid (bxsTo cs (i + 1) = bxsTo cs i ++ bxsOf c k) := by show _ = _; rw [Hbs.out, hkt]
              have Hc0 : Hid (crsTo cs (i + 1) = 0) := by show _ = _; rw [Hst.out]; exact He.out
              clear hkt hlk hne hNk
              go_wp2_with fail
              exact ⟨⟨i + 1, by omega, by go_num, Hc0.out, by rw [Hfin.out]; exact hLk.out, hbx⟩, meas_up hlt⟩
        · have te : (crsErr c != 0) = true := bne_iff_ne.2 he
          have Hr := Lib.hid (Hbad.out he)
          have He := Lib.hid he
          clear he
          generalize crsErr c = er at *
          go_wp2_with fail
          go_ret2
          exact ⟨.slice none 0 0, by rw [Hr.out]; rfl, by rw [towsVal_err (by rw [Hr.out]; exact He.out)]; exact BxsOf.nil _, hx1⟩
      · obtain rfl : i = cs.length := by omega
        have hform : ∃ ao2 cap2, u4 = .slice ao2 (bxsTo cs cs.length).length cap2 := by
          rcases hL.out.1.2 with ⟨e, h0⟩ | ⟨g, cap, cur, e, _⟩
          · exact ⟨none, 0, by rw [e, h0]⟩
          · exact ⟨_, _, e⟩
        obtain ⟨ao2, cap2, rfl⟩ := hform
        have HB := Lib.hid (BxsOf.ofRow hL.out)
        have Hte : Hid (towsErr cs = if 24 < (bxsTo cs cs.length).length then 9 else 0) := by show _ = _; unfold towsErr; rw [if_neg Hc1.out, hC.out, if_neg (by simp)]
        have Htv : Hid (towsVal cs = if towsErr cs = 0 then bxsTo cs cs.length else []) := rfl
        by_cases c2 : 24 < (bxsTo cs cs.length).length
        · have t2 : decide (((bxsTo cs cs.length).length : Int) > 24) = true := by simp; omega
          have Hr : Hid (towsErr cs = 9) := by show _ = _; rw [Hte.out, if_pos c2]
          clear c2 hL
          generalize bxsTo cs cs.length = bl at *
          go_wp2_with fail
          go_ret2
          exact ⟨.slice none 0 0, by rw [Hr.out]; rfl, by rw [towsVal_err (by rw [Hr.out]; omega)]; exact BxsOf.nil _, hbel⟩
        · have t2 : decide (((bxsTo cs cs.length).length : Int) > 24) = false := by simp; omega
          have Hr : Hid (towsErr cs = 0) := by show _ = _; rw [Hte.out, if_neg c2]
          have Hv : Hid (towsVal cs = bxsTo cs cs.length) := by show _ = _; rw [Htv.out, if_pos Hr.out]
          clear c2 hL
          generalize bxsTo cs cs.length = bl at *
          go_wp2_with fail
          go_ret2
          exact ⟨.slice ao2 bl.length cap2, by rw [Hr.out]; rfl, by rw [Hv.out]; exact HB.out, hbel⟩

end Go.Proofs.Ytkdcgkafjkklcaa
