/- Part a of the lemmas and walks. -/
import Derived.WalkKit
import Derived.WalkSpells
import Derived.WalkLawsBesides
import Derived.Lib.Hide
import Derived.BigQuiet
import Derived.Test.YtnjpkfccncjkhaaShelf
import Derived.Shelf.Spec.BitsCarry
import Derived.Deep.DeepCutAuto
import Derived.Deep.CutBlock
import Derived.Deep.LoopGhost
import Derived.Deep.RegionHeld3
import Derived.Deep.AppendLies
import Derived.Laws.FloatArith
import Derived.ProofKit
import Derived.OpenShut
import Derived.ChangeOld
import Derived.Deep.Slices
import Derived.Laws.OwnMore
import Derived.RangeFuncNested
import Derived.RangeFuncBound
import Derived.RangeFuncCalls
import Derived.RangeFuncLeaves
import Derived.Shelf.Abstract
import Derived.Shelf.RegionOpen
import Derived.OwnWalkIn
import Derived.TacticsInMore
import Derived.LoopNIn
import Derived.LoopIn
import Derived.Laws.EntriesVeiled
import Derived.Sort.BigQuietIn
import Derived.Lib.MinMax
import Derived.Laws.StructEq
import Derived.Deep.QuietTactic
import Derived.Deep.Upon
import Derived.Lib.SlBytesRow

namespace Go.Proofs.Ytnjpkfccncjkhaa
open Go.RowKit
theorem na1 {α : Type _} {xs : List α} {i : Nat} (h : i < xs.toArray.size) : xs.toArray[i] = xs[i] := List.getElem_toArray h
theorem na2 {α : Type _} (a : α) (l : List α) (h : 0 < (a :: l).length) : (a :: l)[0] = a := List.getElem_cons_zero a l h
theorem na3 {α : Type _} (a : α) (l : List α) (i : Nat) (h : i + 1 < (a :: l).length) : (a :: l)[i + 1] = l[i]'(by simpa using h) := List.getElem_cons_succ a l i h
theorem na4 {α : Type _} (l : List α) (i : Nat) (a : α) : l.toArray.setIfInBounds i a = (l.set i a).toArray := List.setIfInBounds_toArray l i a
theorem na5 {α : Type _} {x : α} {xs : List α} {a : α} : (x :: xs).set 0 a = a :: xs := List.set_cons_zero
theorem na6 {α : Type _} {x : α} {xs : List α} {i : Nat} {a : α} : (x :: xs).set (i + 1) a = x :: xs.set i a := List.set_cons_succ
section
variable {P : Program} {ops : Array Oper} {Q : Exit → Act → World → Prop} {md : Region.Mode} {S : World → Prop}
/-- wpAnyH_take with its checks filled in. -/
theorem tk0 {i : Nat} {oi : Oper} {v : Value} {fuel : Nat} {listed : Array Bool} {a : Act} {w : World} (hi : ops[i]? = some oi) (hy : YieldsIf P ops S oi v a) (hS : S w)
    (h : wpAnyH P md ops Q S fuel (listed.setIfInBounds i true) (a.put oi.dst v) w) (hs : Region.noSelect ops = true := by kernel_rfl) (hf : Region.free md ops listed i = true := by kernel_rfl)
    (hr : (Region.ready md ops listed).contains i = true := by kernel_rfl) (hQ : ∀ c a w, Q (.panic c) (a.put oi.dst v) w → Q (.panic c) a w := by exact fun _ _ _ h => h) : wpAnyH P md ops Q S (fuel + 1) listed a w :=
  wpAnyH_take hi hs hf hr hQ hy hS h
theorem rd1 {i : Nat} {o : Oper} {fuel : Nat} {listed : Array Bool} {a : Act} {w : World} (ho : ops[i]? = some o)
    (h : ∀ K' : Act → World → Prop, Shut (∀ a w, S w → (S w → wpAnyH P md ops Q S fuel (listed.setIfInBounds i true) a w) → K' a w) → if Region.wanted o (yielded ops a.tmps) = true then Oper.wp P o a w K' Q else K' (a.put o.dst undef) w)
    (hr : Region.ready md ops listed = [i] := by kernel_rfl) : wpAnyH P md ops Q S (fuel + 1) listed a w :=
  wpAnyH_ready hr (by simp) (AllReadyH.cons ho h AllReadyH.nil)
end
end Go.Proofs.Ytnjpkfccncjkhaa

namespace Go.Proofs.Ytnjpkfccncjkhaa

def lv (B : Nat) : List Nat → Nat
 | [] => 0
 | d :: ds => d + B * lv B ds

def digF (B : Nat) : Nat → Nat → List Nat
 | 0, _ => []
 | f + 1, n => if n = 0 then [] else n % B :: digF B f (n / B)

def dig (B n : Nat) : List Nat := digF B n n

def Dgs (B : Nat) (ds : List Nat) : Prop := ∀ d ∈ ds, d < B

theorem Dgs.nil (B : Nat) : Dgs B [] := by intro d h; cases h
theorem Dgs.cons {B d : Nat} {ds : List Nat} (h : d < B) (hs : Dgs B ds) : Dgs B (d :: ds) := by
 intro x hx
 rcases List.mem_cons.1 hx with rfl | hx
 ·
  exact h
 ·
  exact hs x hx
theorem Dgs.head {B d : Nat} {ds : List Nat} (h : Dgs B (d :: ds)) : d < B := h d (by simp)
theorem Dgs.tail {B d : Nat} {ds : List Nat} (h : Dgs B (d :: ds)) : Dgs B ds := fun x hx => h x (by simp [hx])
theorem Dgs.getD {B : Nat} {ds : List Nat} (h : Dgs B ds) (hB : 0 < B) (i : Nat) : ds.getD i 0 < B := by
 by_cases hi : i < ds.length
 ·
  have : ds.getD i 0 = ds[i] := by simp [hi]
  rw [this]; exact h _ (List.getElem_mem hi)
 ·
  simp [List.getElem?_eq_none (Nat.le_of_not_lt hi)]; exact hB
theorem Dgs.append {B : Nat} {a b : List Nat} (ha : Dgs B a) (hb : Dgs B b) : Dgs B (a ++ b) := by
 intro x hx
 rcases List.mem_append.1 hx with h | h
 ·
  exact ha x h
 ·
  exact hb x h
theorem Dgs.take {B : Nat} {a : List Nat} (ha : Dgs B a) (k : Nat) : Dgs B (a.take k) := fun x hx => ha x (List.mem_of_mem_take hx)
theorem Dgs.drop {B : Nat} {a : List Nat} (ha : Dgs B a) (k : Nat) : Dgs B (a.drop k) := fun x hx => ha x (List.mem_of_mem_drop hx)
theorem Dgs.set {B : Nat} {a : List Nat} (ha : Dgs B a) (k x : Nat) (hx : x < B) : Dgs B (a.set k x) := by
 intro y hy
 rcases List.mem_or_eq_of_mem_set hy with h | rfl
 ·
  exact ha y h
 ·
  exact hx
theorem Dgs.replicate {B : Nat} (hB : 0 < B) (k : Nat) : Dgs B (List.replicate k 0) := by
 intro x hx
 rw [(List.mem_replicate.1 hx).2]; exact hB

theorem lv_cons (B d : Nat) (ds : List Nat) : lv B (d :: ds) = d + B * lv B ds := rfl

theorem lv_append (B : Nat) (a b : List Nat) : lv B (a ++ b) = lv B a + B ^ a.length * lv B b := by
 induction a with
 | nil => simp [lv]
 | cons d a ih =>
  simp only [List.cons_append, lv_cons, ih, List.length_cons, Nat.mul_add, Nat.pow_succ]
  rw [← Nat.mul_assoc, Nat.mul_comm B (B ^ a.length)]
  omega

theorem lv_replicate (B k : Nat) : lv B (List.replicate k 0) = 0 := by
 induction k with
 | zero => rfl
 | succ k ih => simp [List.replicate_succ, lv_cons, ih]

theorem lv_lt {B : Nat} {ds : List Nat} (h : Dgs B ds) : lv B ds < B ^ ds.length := by
 induction ds with
 | nil => simp [lv]
 | cons d ds ih =>
  have h1 := h.head
  have h2 := ih h.tail
  simp only [lv_cons, List.length_cons, Nat.pow_succ]
  have : B * (lv B ds + 1) ≤ B * B ^ ds.length := Nat.mul_le_mul_left _ h2
  rw [Nat.mul_add] at this
  rw [Nat.mul_comm (B ^ ds.length) B]
  omega

theorem lv_take_succ (B : Nat) (ds : List Nat) (k : Nat) (h : k < ds.length) : lv B (ds.take (k + 1)) = lv B (ds.take k) + B ^ k * ds.getD k 0 := by
 rw [List.take_succ_eq_append_getElem h, lv_append]
 have : (ds.take k).length = k := by simp; omega
 simp [this, lv, h]

theorem lv_take_drop (B : Nat) (ds : List Nat) (k : Nat) (h : k ≤ ds.length) : lv B ds = lv B (ds.take k) + B ^ k * lv B (ds.drop k) := by
 have h1 : (ds.take k).length = k := by simp; omega
 have := lv_append B (ds.take k) (ds.drop k)
 rw [List.take_append_drop, h1] at this
 exact this

theorem lv_set (B : Nat) (ds : List Nat) (k x : Nat) (h : k < ds.length) : lv B (ds.set k x) + B ^ k * ds.getD k 0 = lv B ds + B ^ k * x := by
 induction ds generalizing k with
 | nil => simp at h
 | cons d ds ih =>
  cases k with
  | zero => simp [lv_cons]; omega
  | succ k =>
   have := ih k (by simpa using h)
   simp only [List.set_cons_succ, lv_cons, Nat.pow_succ, List.getD_cons_succ] at *
   have e : ∀ y, B ^ k * B * y = B * (B ^ k * y) := fun y => by rw [Nat.mul_comm (B ^ k) B, Nat.mul_assoc]
   rw [e, e]
   have : B * (lv B (ds.set k x) + B ^ k * ds.getD k 0) = B * (lv B ds + B ^ k * x) := by rw [this]
   rw [Nat.mul_add, Nat.mul_add] at this
   omega

/-! ### The canonical digits -/
theorem digF_zero (B f : Nat) : digF B f 0 = [] := by cases f <;> simp [digF]

theorem digF_fuel {B : Nat} (hB : 2 ≤ B) : ∀ (f g n : Nat), n ≤ f → n ≤ g → digF B f n = digF B g n := by
  intro f
  induction f with
  | zero => intro g n hf hg; obtain rfl : n = 0 := by omega
            rw [digF_zero, digF_zero]
  | succ f ih =>
    intro g n hf hg
    cases g with
    | zero => obtain rfl : n = 0 := by omega
              rw [digF_zero, digF_zero]
    | succ g =>
      simp only [digF]
      by_cases hn : n = 0
      · simp [hn]
      · simp only [hn, if_false]
        have : n / B < n := Nat.div_lt_self (by omega) (by omega)
        rw [ih g (n / B) (by omega) (by omega)]

theorem dig_zero (B : Nat) : dig B 0 = [] := rfl
theorem dig_pos {B n : Nat} (hB : 2 ≤ B) (hn : n ≠ 0) : dig B n = n % B :: dig B (n / B) := by
 unfold dig
 cases n with
 | zero => exact absurd rfl hn
 | succ n =>
  simp only [digF, if_neg hn]
  have : (n + 1) / B < n + 1 := Nat.div_lt_self (by omega) (by omega)
  rw [digF_fuel hB n ((n + 1) / B) ((n + 1) / B) (by omega) (Nat.le_refl _)]

theorem lv_dig {B : Nat} (hB : 2 ≤ B) (n : Nat) : lv B (dig B n) = n := by
 induction n using Nat.strongRecOn with
 | _ n ih =>
  by_cases hn : n = 0
  ·
   subst hn; rfl
  ·
   rw [dig_pos hB hn, lv_cons, ih (n / B) (Nat.div_lt_self (by omega) (by omega))]
   exact Nat.mod_add_div n B

theorem dgs_dig {B : Nat} (hB : 2 ≤ B) (n : Nat) : Dgs B (dig B n) := by
 induction n using Nat.strongRecOn with
 | _ n ih =>
  by_cases hn : n = 0
  ·
   subst hn; exact Dgs.nil B
  ·
   rw [dig_pos hB hn]
   exact Dgs.cons (Nat.mod_lt _ (by omega)) (ih (n / B) (Nat.div_lt_self (by omega) (by omega)))

theorem dig_nil_iff {B : Nat} (hB : 2 ≤ B) (n : Nat) : dig B n = [] ↔ n = 0 := by
 constructor
 ·
  intro h
  have := lv_dig hB n
  rw [h] at this
  exact this.symm
 ·
  rintro rfl; rfl

theorem dig_one {B n : Nat} (hB : 2 ≤ B) (h0 : n ≠ 0) (h : n < B) : dig B n = [n] := by
 rw [dig_pos hB h0, Nat.mod_eq_of_lt h, Nat.div_eq_of_lt h, dig_zero]

theorem dig_of {B : Nat} (hB : 2 ≤ B) : ∀ (ds : List Nat), Dgs B ds → (∀ h : ds ≠ [], ds.getLast h ≠ 0) → dig B (lv B ds) = ds := by
 intro ds
 induction ds with
 | nil => intro _ _; rfl
 | cons d ds ih =>
  intro hd hl
  have hd1 := hd.head
  have ih' : dig B (lv B ds) = ds := ih hd.tail (fun h => by have := hl (by simp); rwa [List.getLast_cons h] at this)
  have hne : lv B (d :: ds) ≠ 0 := by
   intro h0
   have e : d + B * lv B ds = 0 := h0
   have hd0 : d = 0 := by omega
   have hm : B * lv B ds = 0 := by omega
   have hv0 : lv B ds = 0 := by
    rcases Nat.mul_eq_zero.1 hm with h | h
    ·
     omega
    ·
     exact h
   have hnil : ds = [] := by rw [← ih', hv0]; rfl
   subst hnil
   have := hl (by simp)
   simp at this
   exact this hd0
  rw [dig_pos hB hne, lv_cons]
  have e1 : (d + B * lv B ds) % B = d := by rw [Nat.add_mul_mod_self_left]; exact Nat.mod_eq_of_lt hd1
  have e2 : (d + B * lv B ds) / B = lv B ds := by rw [Nat.add_mul_div_left _ _ (by omega), Nat.div_eq_of_lt hd1]; omega
  rw [e1, e2, ih']

theorem dig_last {B : Nat} (hB : 2 ≤ B) (n : Nat) (h : dig B n ≠ []) : (dig B n).getLast h ≠ 0 := by
 induction n using Nat.strongRecOn with
 | _ n ih =>
  by_cases hn : n = 0
  ·
   subst hn; exact absurd rfl h
  ·
   by_cases hq : n / B = 0
   ·
    have e : dig B n = [n % B] := by rw [dig_pos hB hn, hq, dig_zero]
    have hlt : n < B := by
     rcases Nat.lt_or_ge n B with h | h
     ·
      exact h
     ·
      have := Nat.div_pos h (by omega); omega
    have : (dig B n).getLast h = n % B := by simp [e]
    rw [this, Nat.mod_eq_of_lt hlt]; exact hn
   ·
    have hq' : dig B (n / B) ≠ [] := fun h' => hq ((dig_nil_iff hB _).1 h')
    have := ih (n / B) (Nat.div_lt_self (by omega) (by omega)) hq'
    have e : (dig B n).getLast h = (dig B (n / B)).getLast hq' := by
     have e1 := dig_pos hB hn
     simp only [e1]
     rw [List.getLast_cons hq']
    rw [e]; exact this

theorem dig_lv_snoc_zero {B : Nat} (ds : List Nat) : lv B (ds ++ [0]) = lv B ds := by rw [lv_append]; simp [lv]

theorem dig_length_le {B : Nat} (hB : 2 ≤ B) : ∀ (k n : Nat), n < B ^ k → (dig B n).length ≤ k := by
  intro k
  induction k with
  | zero => intro n h; obtain rfl : n = 0 := by simpa using h
            simp [dig_zero]
  | succ k ih =>
    intro n h
    by_cases hn : n = 0
    · subst hn; simp [dig_zero]
    · rw [dig_pos hB hn]
      simp only [List.length_cons]
      have : n / B < B ^ k := by
        rw [Nat.div_lt_iff_lt_mul (by omega)]
        rw [Nat.pow_succ] at h; exact h
      have := ih _ this
      omega

theorem lt_pow_dig_length {B : Nat} (hB : 2 ≤ B) (n : Nat) : n < B ^ (dig B n).length := by
 have := lv_lt (dgs_dig hB n)
 rwa [lv_dig hB] at this

theorem pow_le_of_dig_length {B : Nat} (hB : 2 ≤ B) (n k : Nat) (h : k < (dig B n).length) : B ^ k ≤ n := by
 rcases Nat.lt_or_ge n (B ^ k) with h' | h'
 ·
  have := dig_length_le hB k n h'; omega
 ·
  exact h'

theorem dig_length_mono {B : Nat} (hB : 2 ≤ B) {m n : Nat} (h : m ≤ n) : (dig B m).length ≤ (dig B n).length :=
 dig_length_le hB _ _ (Nat.lt_of_le_of_lt h (lt_pow_dig_length hB n))

theorem dig_length_mul {B : Nat} (hB : 2 ≤ B) (m n : Nat) : (dig B (m * n)).length ≤ (dig B m).length + (dig B n).length := by
 by_cases hn : n = 0
 ·
  subst hn; simp [dig_zero]
 refine dig_length_le hB _ _ ?_
 rw [Nat.pow_add]
 exact Nat.mul_lt_mul_of_lt_of_le (lt_pow_dig_length hB m) (Nat.le_of_lt (lt_pow_dig_length hB n)) (Nat.pow_pos (by omega))

theorem dig_length_add {B : Nat} (hB : 2 ≤ B) (m n k : Nat) (hm : (dig B m).length ≤ k) (hn : (dig B n).length ≤ k) : (dig B (m + n)).length ≤ k + 1 := by
 refine dig_length_le hB _ _ ?_
 have h1 : m < B ^ k := Nat.lt_of_lt_of_le (lt_pow_dig_length hB m) (Nat.pow_le_pow_right (by omega) hm)
 have h2 : n < B ^ k := Nat.lt_of_lt_of_le (lt_pow_dig_length hB n) (Nat.pow_le_pow_right (by omega) hn)
 rw [Nat.pow_succ]
 have : B ^ k * 2 ≤ B ^ k * B := Nat.mul_le_mul_left _ hB
 omega

/-! ### Comparison from the greatest digit down -/
theorem lv_lt_of_digit {B : Nat} {a b : List Nat} (ha : Dgs B a) (i : Nat) (hi : i < a.length) (hlen : a.length = b.length)
  (heq : a.drop (i + 1) = b.drop (i + 1)) (hlt : a.getD i 0 < b.getD i 0) : lv B a < lv B b := by
 have h1 := lv_take_drop B a (i + 1) (by omega)
 have h2 := lv_take_drop B b (i + 1) (by omega)
 rw [lv_take_succ B a i hi] at h1
 rw [lv_take_succ B b i (by omega)] at h2
 rw [h1, h2, heq]
 have h3 : lv B (a.take i) < B ^ i := by
  have := lv_lt (ha.take i)
  have e : (a.take i).length = i := by simp; omega
  rwa [e] at this
 have h4 : B ^ i * (a.getD i 0 + 1) ≤ B ^ i * b.getD i 0 := Nat.mul_le_mul_left _ hlt
 rw [Nat.mul_add] at h4
 omega

theorem lt_of_dig_length {B : Nat} (hB : 2 ≤ B) {m n : Nat} (h : (dig B m).length < (dig B n).length) : m < n := by
 rcases Nat.lt_or_ge m n with h' | h'
 ·
  exact h'
 ·
  have := dig_length_mono hB h'; omega

def b64 : Nat := 18446744073709551616
def b32 : Nat := 4294967296
theorem b64_two : 2 ≤ b64 := by unfold b64; omega
theorem b32_two : 2 ≤ b32 := by unfold b32; omega
theorem b64_pos : 0 < b64 := by unfold b64; omega
theorem b32_pos : 0 < b32 := by unfold b32; omega
theorem b64_pow : b64 = 2 ^ 64 := by unfold b64; omega
theorem b32_pow : b32 = 2 ^ 32 := by unfold b32; omega
theorem b64_sq : b64 = b32 * b32 := by unfold b64 b32; omega

end Go.Proofs.Ytnjpkfccncjkhaa

namespace Go.Proofs.Ytnjpkfccncjkhaa
open Go.RowKit

def IsRow (k : IntKind) (w : World) (v : Value) (ds : List Nat) : Prop :=
 (ds = [] ∧ ∃ ao cap, v = .slice ao 0 cap ∧ cap ≤ maxLen ∧ (ao = none → cap = 0)) ∨
 (0 < ds.length ∧ ∃ b off cap, v = .slice (some ⟨b, off, none⟩) ds.length cap ∧ ds.length ≤ cap ∧ cap ≤ maxLen ∧ b < w.heap.size ∧
  ∀ j, j < ds.length → w.cell? ⟨b, off + j, none⟩ = some (.int k (ds.getD j 0 : Nat)))

def IsNat (k : IntKind) (B : Nat) (w : World) (v : Value) (n : Nat) : Prop := IsRow k w v (dig B n)

theorem IsRow.below {k : IntKind} {w w' : World} {v : Value} {ds : List Nat} (h : IsRow k w v ds) (hb : Below w.heap.size w w') : IsRow k w' v ds := by
 rcases h with h | ⟨h0, b, off, cap, rfl, h1, h2, h3, h4⟩
 ·
  exact .inl h
 ·
  exact .inr ⟨h0, b, off, cap, rfl, h1, h2, Nat.lt_of_lt_of_le h3 hb.size, fun j hj => (hb.cell (p := ⟨b, off + j, none⟩) h3).trans (h4 j hj)⟩

theorem IsNat.below {k : IntKind} {B : Nat} {w w' : World} {v : Value} {n : Nat} (h : IsNat k B w v n) (hb : Below w.heap.size w w') : IsNat k B w' v n :=
 IsRow.below h hb

theorem IsRow.nil (k : IntKind) (w : World) : IsRow k w (.slice none 0 0) [] := .inl ⟨rfl, _, _, rfl, by unfold maxLen; omega, fun _ => rfl⟩
theorem IsNat.zero (k : IntKind) (B : Nat) (w : World) : IsNat k B w (.slice none 0 0) 0 := IsRow.nil k w

theorem IsRow.len {k : IntKind} {w : World} {v : Value} {ds : List Nat} (h : IsRow k w v ds) : ds.length ≤ maxLen := by
 rcases h with ⟨rfl, _⟩ | ⟨_, _, _, _, _, h1, h2, _⟩
 ·
  simp
 ·
  omega

def RetNat (k : IntKind) (B n : Nat) (w : World) (e : Ending) (w' : World) : Prop :=
 ∃ v, e = .returned v ∧ IsNat k B w' v n ∧ Below w.heap.size w w'

def RetNatSame (k : IntKind) (B n : Nat) (w : World) (e : Ending) (w' : World) : Prop :=
 ∃ v, e = .returned v ∧ IsNat k B w v n ∧ w = w'


def Own (w : World) (g : Nat) (k : IntKind) (e : TypeId) (ds : List Nat) : Prop :=
 ∃ tl : List Value, w.heap[g]? = some (.cells (ds.map (fun d : Nat => Value.int k (d : Int)) ++ tl).toArray e (0, 0))

theorem Own.lt {w : World} {g : Nat} {k : IntKind} {e : TypeId} {ds : List Nat} (h : Own w g k e ds) : g < w.heap.size := by
 obtain ⟨tl, h⟩ := h; exact (Array.getElem?_eq_some_iff.1 h).1

theorem Own.cell {w : World} {g : Nat} {k : IntKind} {e : TypeId} {ds : List Nat} (h : Own w g k e ds) (j : Nat) (hj : j < ds.length) : w.cell? ⟨g, j, none⟩ = some (.int k (ds.getD j 0 : Nat)) := by
 obtain ⟨tl, h⟩ := h
 rw [cell_of_row w g j _ e (0, 0) h]
 simp [hj, List.getElem?_append_left]

theorem Own.frozen {w : World} {g : Nat} {k : IntKind} {e : TypeId} {ds : List Nat} (h : Own w g k e ds) (j : Nat) : w.frozen? ⟨g, j, none⟩ = false := by
 obtain ⟨tl, h⟩ := h; exact frozen_of_row w g j _ e h

theorem Own.store {w : World} {g : Nat} {k : IntKind} {e : TypeId} {ds : List Nat} (h : Own w g k e ds) (j x : Nat) : Own (w.setCell ⟨g, j, none⟩ (.int k x)) g k e (ds.set j x) := by
 obtain ⟨tl, h⟩ := h
 unfold Own
 rw [heap_setCell_same w g j _ e _ h]
 by_cases hj : j < ds.length
 ·
  refine ⟨tl, ?_⟩
  simp [List.map_set, List.set_append_left _ _ (show j < (ds.map (fun d : Nat => Value.int k (d : Int))).length by simpa using hj)]
 ·
  refine ⟨tl.set (j - ds.length) (.int k x), ?_⟩
  rw [List.set_eq_of_length_le (by omega)]
  have := List.set_append_right (s := ds.map (fun d : Nat => Value.int k (d : Int))) (t := tl) j (Value.int k x) (by simp; omega)
  simp only [List.length_map] at this
  simp [this]

theorem Own.other {w : World} {g : Nat} {k : IntKind} {e : TypeId} {ds : List Nat} (h : Own w g k e ds) {a : Addr} (ha : a.block ≠ g) (u : Value) : Own (w.setCell a u) g k e ds := by
 obtain ⟨tl, h⟩ := h
 refine ⟨tl, ?_⟩
 rw [heap_setCell_other w a g u (Ne.symm ha)]
 exact h

theorem Own.alloc {w : World} {g : Nat} {k : IntKind} {e : TypeId} {ds : List Nat} (h : Own w g k e ds) (o : Obj) : Own (w.alloc o) g k e ds := by
 have hl := h.lt
 obtain ⟨tl, h⟩ := h
 refine ⟨tl, ?_⟩
 rw [heap_alloc_old w o hl]
 exact h

theorem Own.below {w w' : World} {g : Nat} {k : IntKind} {e : TypeId} {ds : List Nat} (h : Own w g k e ds) {B : Nat} (hb : Below B w w') (hg : g < B) : Own w' g k e ds := by
 obtain ⟨tl, h⟩ := h
 refine ⟨tl, ?_⟩
 rw [hb.block g hg]
 exact h

theorem Own.grown {w w' : World} {g : Nat} {k : IntKind} {e : TypeId} {ds : List Nat} (h : Own w g k e ds) {row : Option Nat} (hb : w.grownBy w' row) (hg : some g ≠ row) : Own w' g k e ds := by
 have hl := h.lt
 obtain ⟨tl, h⟩ := h
 refine ⟨tl, ?_⟩
 rw [hb.block g hl hg]
 exact h

theorem Own.drewN {w : World} {g : Nat} {k : IntKind} {e : TypeId} {ds : List Nat} (h : Own w g k e ds) (n : Nat) : Own (w.drewN n) g k e ds := h
theorem Own.drew {w : World} {g : Nat} {k : IntKind} {e : TypeId} {ds : List Nat} (h : Own w g k e ds) : Own w.drew g k e ds := h

theorem Own.of_ownsRow {w : World} {g base cap n : Nat} {k : IntKind} {e : TypeId} {ds : List Nat} (hn : ds.length = n)
  (h : w.ownsRow base e 1 (.slice (some ⟨g, 0, none⟩) n cap) n (ds.map (fun d : Nat => Value.int k (d : Int)))) : Own w g k e ds ∧ n ≤ cap ∧ cap ≤ maxLen ∧ base ≤ g := by
 rcases h.2 with ⟨h', _⟩ | ⟨g', cap', cur, h', hb, hg, hnc, hcm, hcs, htake⟩
 ·
  simp at h'
 ·
  simp only [Value.slice.injEq, Option.some.injEq, Addr.mk.injEq, and_true, true_and] at h'
  obtain ⟨rfl, rfl⟩ := h'
  refine ⟨⟨cur.toList.drop n, ?_⟩, hnc, hcm, hb⟩
  rw [hg]
  rw [Nat.mul_one] at htake
  rw [← htake, List.take_append_drop]

theorem Own.of_made {w : World} {g base : Nat} {k : IntKind} {e : TypeId} {n : Nat}
  (h : w.ownsRow base e 1 (.slice (some ⟨g, 0, none⟩) n n) n (madeCells #[Value.int k 0] n).toList) : Own w g k e (List.replicate n 0) := by
 rw [toList_madeCells_one] at h
 exact (Own.of_ownsRow (cap := n) (n := n) (base := base) (ds := List.replicate n 0) (by simp) (by simpa using h)).1

theorem Own.isRowCap {w : World} {g : Nat} {k : IntKind} {e : TypeId} {ds : List Nat} (h : Own w g k e ds) (cap : Nat) (h1 : ds.length ≤ cap) (h2 : cap ≤ maxLen) : IsRow k w (.slice (some ⟨g, 0, none⟩) ds.length cap) ds := by
 rcases Nat.eq_zero_or_pos ds.length with h0 | hp
 ·
  left
  refine ⟨List.eq_nil_of_length_eq_zero h0, _, _, by rw [h0], h2, by simp⟩
 ·
  exact .inr ⟨hp, g, 0, cap, rfl, h1, h2, h.lt, fun j hj => by rw [Nat.zero_add]; exact h.cell j hj⟩

theorem Own.isRow {w : World} {g : Nat} {k : IntKind} {e : TypeId} {ds : List Nat} (h : Own w g k e ds) (hl : ds.length ≤ maxLen) : IsRow k w (.slice (some ⟨g, 0, none⟩) ds.length ds.length) ds :=
 h.isRowCap _ (Nat.le_refl _) hl

def addLo (x y c : Nat) : Nat := (x + y + c) % b64
def addHi (x y c : Nat) : Nat := (x + y + c) / b64
def mulLo (x y : Nat) : Nat := x * y % b64
def mulHi (x y : Nat) : Nat := x * y / b64
def subLo (x y b : Nat) : Nat := (b64 + x - y - b) % b64
def subHi (x y b : Nat) : Nat := if x < y + b then 1 else 0
theorem addLo_lt (x y c : Nat) : addLo x y c < b64 := Nat.mod_lt _ b64_pos
theorem mulLo_lt (x y : Nat) : mulLo x y < b64 := Nat.mod_lt _ b64_pos
theorem subLo_lt (x y c : Nat) : subLo x y c < b64 := Nat.mod_lt _ b64_pos
theorem add_eq (x y c : Nat) : addLo x y c + b64 * addHi x y c = x + y + c := Nat.mod_add_div _ _
theorem mul_eq (x y : Nat) : mulLo x y + b64 * mulHi x y = x * y := Nat.mod_add_div _ _
theorem addHi_le (x y c : Nat) (hx : x < b64) (hy : y < b64) (hc : c ≤ 1) : addHi x y c ≤ 1 := by
 unfold addHi
 have : x + y + c < b64 * 2 := by omega
 have := Nat.div_lt_of_lt_mul this
 omega
theorem subHi_le (x y c : Nat) : subHi x y c ≤ 1 := by unfold subHi; split <;> omega


def divQ (hi lo y : Nat) : Nat := (hi * b64 + lo) / y
def divR (hi lo y : Nat) : Nat := (hi * b64 + lo) % y

theorem below_dn {B : Nat} {a w : World} (h : Below B a w) (n : Nat) : Below B a (w.drewN n) := ⟨h.os, h.tape, h.output, h.size, h.block⟩

theorem IsRow.opened {k : IntKind} {w : World} {v : Value} {ds : List Nat} (h : IsRow k w v ds) : ∃ ao cap, v = .slice ao ds.length cap ∧
  (0 < ds.length → ∃ b off, ao = some ⟨b, off, none⟩ ∧ b < w.heap.size ∧ ∀ j, j < ds.length → w.cell? ⟨b, off + j, none⟩ = some (.int k (ds.getD j 0 : Nat))) := by
 rcases h with ⟨rfl, ao, cap, rfl, _⟩ | ⟨_, b, off, cap, rfl, _, _, hb, hc⟩
 ·
  exact ⟨_, _, rfl, fun h => absurd h (by simp)⟩
 ·
  exact ⟨_, _, rfl, fun _ => ⟨b, off, rfl, hb, hc⟩⟩


theorem meas_up {n i : Nat} (h : i < n) : n - (intOf (.int .i64 ((i : Int) + 1))).toNat < n - (intOf (.int .i64 (i : Int))).toNat := by simp [intOf]; omega


theorem ext_trans {w a b : World} (h : Below w.heap.size w a) (k : Below a.heap.size a b) : Below w.heap.size w b := h.trans (k.mono h.size)


theorem ownsRow_some {w : World} {base : Nat} {e : TypeId} {size : Nat} {v : Value} {n : Nat} {xs : List Value} (h : w.ownsRow base e size v n xs) (hn : 0 < n) : ∃ g cap, v = .slice (some ⟨g, 0, none⟩) n cap := by
 rcases h.2 with ⟨_, h0⟩ | ⟨g, cap, cur, rfl, _⟩
 ·
  omega
 ·
  exact ⟨g, cap, rfl⟩

theorem ownsRow_empty {w w' : World} {e : TypeId} (h : Below (w.heap.size + 1) (w.alloc (.cells #[] e)) w') : w'.ownsRow w.heap.size e 1 (.slice (some ⟨w.heap.size, 0, none⟩) 0 0) 0 [] := by
 refine ⟨rfl, .inr ⟨w.heap.size, 0, #[], rfl, Nat.le_refl _, ?_, Nat.le_refl _, by unfold maxLen; omega, rfl, rfl⟩⟩
 rw [h.block _ (Nat.lt_succ_self _)]
 exact heap_alloc_new w _

theorem row_cells {k : IntKind} {w : World} {b off : Nat} {ds : List Nat} (hc : ∀ j, j < ds.length → w.cell? ⟨b, off + j, none⟩ = some (.int k (ds.getD j 0 : Nat))) :
  ∀ (j : Nat) (u : Value), (ds.map (fun d : Nat => Value.int k (d : Int)))[j]? = some u → w.cell? ((⟨b, off, none⟩ : Addr).add j) = some u := by
 intro j u hu
 have hj : j < ds.length := by
  rcases Nat.lt_or_ge j ds.length with h | h
  ·
   exact h
  ·
   simp [List.getElem?_eq_none h] at hu
 have e : (⟨b, off, none⟩ : Addr).add j = ⟨b, off + j, none⟩ := by
  unfold Addr.add; split <;> simp_all
 rw [e, hc j hj]
 simp [hj] at hu ⊢
 exact hu
theorem row_one {k : IntKind} (ds : List Nat) : ∀ u ∈ ds.map (fun d : Nat => Value.int k (d : Int)), u.oneCell' = true := by
 intro u hu
 obtain ⟨d, _, rfl⟩ := List.mem_map.1 hu
 rfl

end Go.Proofs.Ytnjpkfccncjkhaa

namespace Go.Proofs.Ytnjpkfccncjkhaa
open Go.RowKit

theorem lv_cut_step (B : Nat) (ds : List Nat) (m : Nat) (hm : m + 1 ≤ ds.length) (h0 : ds.getD m 0 = 0) (h : lv B (ds.take (m + 1)) = lv B ds) : lv B (ds.take m) = lv B ds := by
 rw [lv_take_succ B ds m (by omega), h0] at h; omega

theorem isNat_take {k : IntKind} {B : Nat} (hB : 2 ≤ B) {w : World} {ds : List Nat} {b off cap : Nat} (hd : Dgs B ds) (h1 : ds.length ≤ cap) (h2 : cap ≤ maxLen) (h3 : b < w.heap.size)
  (h4 : ∀ j, j < ds.length → w.cell? ⟨b, off + j, none⟩ = some (.int k (ds.getD j 0 : Nat))) (m : Nat) (hm : m ≤ ds.length)
  (hl : m = 0 ∨ ds.getD (m - 1) 0 ≠ 0) (hv : lv B (ds.take m) = lv B ds) : IsNat k B w (.slice (some ⟨b, off, none⟩) m cap) (lv B ds) := by
 have hlen : (ds.take m).length = m := by simp; omega
 have hdig : dig B (lv B ds) = ds.take m := by
  rw [← hv]
  refine dig_of hB _ (hd.take m) fun hne => ?_
  have hm0 : m ≠ 0 := by rintro rfl; simp at hne
  have e : (ds.take m).getLast hne = ds.getD (m - 1) 0 := by
   rw [List.getLast_eq_getElem]
   simp [hlen]
   rw [List.getElem?_eq_getElem (by omega)]; rfl
  rw [e]; exact hl.resolve_left hm0
 unfold IsNat
 rw [hdig]
 rcases Nat.eq_zero_or_pos m with rfl | hp
 ·
  exact .inl ⟨by simp, _, _, rfl, h2, by simp⟩
 ·
  refine .inr ⟨by omega, b, off, cap, by rw [hlen], by omega, h2, h3, fun j hj => ?_⟩
  rw [hlen] at hj
  rw [h4 j (by omega)]
  simp [List.getElem?_take, hj]

set_option maxHeartbeats 400000 in
theorem cut_any (ds : List Nat) (v : Value) (w : World) (h : IsRow .u64 w v ds) (hd : Dgs b64 ds) :
  Calls Try.prog 50 #[v] w (RetNatSame .u64 b64 (lv b64 ds) w) := by
 rcases h with ⟨rfl, ao, cap, rfl, h2, h3⟩ | ⟨h0, b, off, cap, rfl, h1, h2, h3, h4⟩
 ·
  go_enter Try.func50, Try.ntmps50
  go_wp2
  refine wp_loop_rounds 1 ?_
  rw [rounds_succ]
  go_wp2
  go_ret
  exact ⟨_, rfl, .inl ⟨rfl, ao, cap, rfl, h2, h3⟩, rfl⟩
 ·
  have H2 := Lib.hid h2
  unfold maxLen at h2
  go_enter Try.func50, Try.ntmps50
  go_wp2
  go_loop [0] (fun s => ∃ m : Nat, m ≤ ds.length ∧ Hid (lv b64 (ds.take m) = lv b64 ds) ∧ s = .slice (some ⟨b, off, none⟩) m cap) (fun s => match s with | .slice _ n _ => n | _ => 0)
  case atStart => exact ⟨ds.length, Nat.le_refl _, by show _ = _; simp, rfl⟩
  case round =>
   obtain ⟨m, hm, hv, rfl⟩ := hrel
   rcases Nat.eq_zero_or_pos m with rfl | hpos
   ·
    go_wp2
    go_ret
    exact ⟨_, rfl, isNat_take b64_two hd h1 H2.out h3 h4 0 (by omega) (.inl rfl) hv.out, rfl⟩
   ·
    obtain ⟨m, rfl⟩ : ∃ m', m = m' + 1 := ⟨m - 1, by omega⟩
    have hc := h4 m (by omega)
    go_wp2
    ·
     have hz : (((ds[m]?.getD 0 : Nat) : Int) == 0) = true := by assumption
     have hz' : ds.getD m 0 = 0 := by simpa using hz
     exact ⟨⟨m, by omega, lv_cut_step _ _ _ hm hz' hv.out, rfl⟩, by simp⟩
    ·
     have hz : (((ds[m]?.getD 0 : Nat) : Int) == 0) = false := by assumption
     have hz' : ds.getD m 0 ≠ 0 := by intro e; simp at e; rw [e] at hz; simp at hz
     go_ret
     exact ⟨_, rfl, isNat_take b64_two hd h1 H2.out h3 h4 (m + 1) (by omega) (.inr hz') hv.out, rfl⟩


theorem dig_isOne {B : Nat} (hB : 2 ≤ B) (n : Nat) : n = 1 ↔ dig B n = [1] := by
 constructor
 ·
  rintro rfl; exact dig_one hB (by omega) (by omega)
 ·
  intro h
  have := lv_dig hB n
  rw [h] at this
  simpa [lv] using this.symm

set_option maxHeartbeats 400000 in
theorem word_any (n : Nat) (w : World) (h : n < b64) : Calls Try.prog 57 #[.int .u64 n] w (RetNat .u64 b64 n w) := by
 go_enter Try.func57, Try.ntmps57
 go_wp2_with fail
 refine (cut_any [n] _ _ (.inr ⟨by simp, w.heap.size, 0, 1, rfl, by simp, by unfold maxLen; omega, by simp, ?_⟩) ?_).mono ?_
 ·
  intro j hj
  obtain rfl : j = 0 := by simpa using hj
  simp
 ·
  exact Dgs.cons h (Dgs.nil _)
 ·
  rintro e w' ⟨v, rfl, hv, rfl⟩
  go_wp2
  go_ret
  exact ⟨_, rfl, by simpa [lv] using hv, (Below.refl _ _).alloc (Nat.le_refl _) _⟩

set_option maxHeartbeats 400000 in
theorem isOne_any (n : Nat) (v : Value) (w : World) (h : IsNat .u64 b64 w v n) :
    Calls Try.prog 58 #[v] w (fun e w' => e = .returned (.bool (decide (n = 1))) ∧ w = w') := by
  have hd := dig_isOne b64_two n
  have hdg := dgs_dig b64_two n
  unfold IsNat at h
  have hn : decide (n = 1) = decide (dig b64 n = [1]) := by simp [hd]
  rw [hn]
  clear hn hd
  generalize dig b64 n = ds at *
  rcases h with ⟨rfl, ao, cap, rfl, h2, h3⟩ | ⟨h0, b, off, cap, rfl, h1, h2, h3, h4⟩
  · go_enter Try.func58, Try.ntmps58
    go_wp2
    go_ret
    exact ⟨by simp, rfl⟩
  · by_cases hl : ds.length = 1
    · obtain ⟨d, rfl⟩ : ∃ d, ds = [d] := by
        match ds, hl with
        | [d], _ => exact ⟨d, rfl⟩
      have hc := h4 0 (by simp)
      simp at hc
      clear h4 h0 h1 hl
      go_enter Try.func58, Try.ntmps58
      go_wp2
      go_ret
      exact ⟨by have : ((d : Int) == 1) = decide (d = 1) := by rw [Bool.eq_iff_iff]; simp; omega
                rw [this]; simp, rfl⟩
    · have hb : ((ds.length : Int) == 1) = false := by simp; omega
      have hne : decide (ds = [1]) = false := by
        simp; rintro rfl; simp at hl
      go_enter Try.func58, Try.ntmps58
      go_wp2
      go_ret
      rw [hne]
      exact ⟨rfl, rfl⟩


def cmpN (a b : Nat) : Int := if a < b then -1 else if b < a then 1 else 0

theorem cmp_all {B : Nat} {a b : List Nat} (hlen : a.length = b.length) (h : a.drop 0 = b.drop 0) : cmpN (lv B a) (lv B b) = 0 := by
 simp at h; subst h; simp [cmpN]
theorem cmp_lss {B : Nat} {a b : List Nat} (ha : Dgs B a) (i : Nat) (hi : i < a.length) (hlen : a.length = b.length)
  (heq : a.drop (i + 1) = b.drop (i + 1)) (hlt : a.getD i 0 < b.getD i 0) : cmpN (lv B a) (lv B b) = -1 := by
 have := lv_lt_of_digit ha i hi hlen heq hlt
 simp [cmpN, this]
theorem cmp_gtr {B : Nat} {a b : List Nat} (hb : Dgs B b) (i : Nat) (hi : i < a.length) (hlen : a.length = b.length)
  (heq : a.drop (i + 1) = b.drop (i + 1)) (hlt : b.getD i 0 < a.getD i 0) : cmpN (lv B a) (lv B b) = 1 := by
 have := lv_lt_of_digit hb i (by omega) hlen.symm heq.symm hlt
 have h2 : ¬ lv B a < lv B b := by omega
 simp [cmpN, this, h2]
theorem drop_step {a b : List Nat} (i : Nat) (hi : i < a.length) (hlen : a.length = b.length) (heq : a.drop (i + 1) = b.drop (i + 1)) (h1 : ¬ a.getD i 0 < b.getD i 0) (h2 : ¬ b.getD i 0 < a.getD i 0) : a.drop i = b.drop i := by
 have e : a.getD i 0 = b.getD i 0 := by omega
 rw [List.drop_eq_getElem_cons hi, List.drop_eq_getElem_cons (by omega : i < b.length), heq]
 simp [hi, (by omega : i < b.length)] at e
 rw [e]
theorem cmpN_len_lt {B : Nat} (hB : 2 ≤ B) {m n : Nat} (h : (dig B m).length < (dig B n).length) : cmpN m n = -1 := by
 simp [cmpN, lt_of_dig_length hB h]
theorem cmpN_len_gt {B : Nat} (hB : 2 ≤ B) {m n : Nat} (h : (dig B n).length < (dig B m).length) : cmpN m n = 1 := by
 have := lt_of_dig_length hB h
 have h2 : ¬ m < n := by omega
 simp [cmpN, this, h2]

def Quiet (w w' : World) : Prop := ∃ n, w' = w.drewN n
theorem Quiet.refl (w : World) : Quiet w w := ⟨0, rfl⟩
theorem Quiet.step {w w' : World} (h : Quiet w w') (n : Nat) : Quiet w (w'.drewN n) := by
 obtain ⟨m, rfl⟩ := h; exact ⟨m + n, by simp⟩
theorem Quiet.below {w w' : World} (h : Quiet w w') : Below w.heap.size w w' := by
 obtain ⟨m, rfl⟩ := h; exact ⟨rfl, rfl, rfl, Nat.le_refl _, fun _ _ => rfl⟩

theorem quiet_at {P : Program} {f : FuncId} {args : Array Value} {w : World} {n a : Nat} {v : Value}
  (h : Calls P f args (w.drewN (n + a)) fun e w' => e = .returned v ∧ Quiet (w.drewN (n + a)) w') : Calls P f args (w.drewN (n + a)) fun e w'' => e = .returned v ∧ ∃ m, w'' = w.drewN (n + m) :=
 h.mono fun _ _ ⟨he, m, hm⟩ => ⟨he, a + m, by rw [hm, World.drewN_drewN, Nat.add_assoc]⟩
theorem quiet_at0 {P : Program} {f : FuncId} {args : Array Value} {w : World} {a : Nat} {v : Value}
  (h : Calls P f args (w.drewN a) fun e w' => e = .returned v ∧ Quiet (w.drewN a) w') : Calls P f args (w.drewN a) fun e w'' => e = .returned v ∧ ∃ m, w'' = w.drewN m :=
 h.mono fun _ _ ⟨he, m, hm⟩ => ⟨he, a + m, by rw [hm, World.drewN_drewN]⟩

def RetIntQ (n : Int) (w : World) (e : Ending) (w' : World) : Prop := e = .returned (.int .i64 n) ∧ Quiet w w'


set_option maxHeartbeats 1000000 in
theorem cmp_row (da db : List Nat) (va vb : Value) (w : World) (r : Int) (ha : IsRow .u64 w va da) (hb : IsRow .u64 w vb db) (hda : Dgs b64 da) (hdb : Dgs b64 db)
  (h1 : da.length < db.length → r = -1) (h2 : db.length < da.length → r = 1) (h3 : da.length = db.length → cmpN (lv b64 da) (lv b64 db) = r) :
  Calls Try.prog 44 #[va, vb] w (RetIntQ r w) := by
 have hla := ha.len
 have hlb := hb.len
 unfold maxLen at hla hlb
 obtain ⟨aa, ca, rfl⟩ : ∃ aa ca, va = .slice aa da.length ca := by
  rcases ha with ⟨rfl, ao, cap, rfl, _⟩ | ⟨_, b, off, cap, rfl, _⟩ <;> exact ⟨_, _, rfl⟩
 obtain ⟨ab, cb, rfl⟩ : ∃ ab cb, vb = .slice ab db.length cb := by
  rcases hb with ⟨rfl, ao, cap, rfl, _⟩ | ⟨_, b, off, cap, rfl, _⟩ <;> exact ⟨_, _, rfl⟩
 rcases Nat.lt_trichotomy da.length db.length with hlt | heq | hgt
 ·
  have hr := h1 hlt
  subst hr
  have hne : ((da.length : Int) != db.length) = true := by rw [bne_iff_ne]; omega
  clear h1 h2 h3 ha hb
  go_enter Try.func44, Try.ntmps44
  go_wp2
  go_ret
  exact ⟨rfl, .refl _⟩
 ·
  have H3 := Lib.hid (h3 heq)
  clear h1 h2 h3
  have Heq := Lib.hid heq
  have hne : ((da.length : Int) != db.length) = false := by simp; omega
  have hle : da.length ≤ db.length := by omega
  have hge : db.length ≤ da.length := by omega
  clear heq
  rcases Nat.eq_zero_or_pos da.length with h0 | hpos
  ·
   have hr : r = 0 := by
    rw [← H3.out]
    exact cmp_all Heq.out (by rw [List.eq_nil_of_length_eq_zero h0, List.eq_nil_of_length_eq_zero (by omega : db.length = 0)])
   have h0' : db.length = 0 := by omega
   clear H3 Heq ha hb
   subst hr
   have e0 : da.length = 0 := h0
   rw [e0, h0'] 
   rw [e0, h0'] at hne
   clear h0 h0' e0 hle hge hla hlb hda hdb
   go_enter Try.func44, Try.ntmps44
   go_wp2
   refine wp_loop_rounds 1 ?_
   rw [rounds_succ]
   go_wp2
   go_ret
   exact ⟨rfl, .refl _⟩
  ·
   rcases ha with ⟨rfl, _⟩ | ⟨_, b, off, cap, hv, _, _, hba, hca⟩
   ·
    simp at hpos
   rcases hb with ⟨rfl, _⟩ | ⟨_, b', off', cap', hv', _, _, hbb, hcb⟩
   ·
    simp only [List.length_nil] at hle; omega
   simp only [Value.slice.injEq] at hv hv'
   obtain ⟨rfl, _, rfl⟩ := hv
   obtain ⟨rfl, _, rfl⟩ := hv'
   go_enter Try.func44, Try.ntmps44
   go_wp2
   go_loopw [5] (fun s wr => ∃ i : Nat, i ≤ da.length ∧ Hid (da.drop i = db.drop i) ∧ s = .int .i64 ((i : Int) - 1) ∧ Quiet w wr) (fun s _ => ((intOf s) + 1).toNat)
   case atStart => exact ⟨da.length, Nat.le_refl _, by show _ = _; simp; omega, by go_num, .refl _⟩
   case round =>
    obtain ⟨i, hi, hdr, rfl, nq, rfl⟩ := hrel
    rcases Nat.eq_zero_or_pos i with rfl | hip
    ·
     go_wp2
     go_ret
     have := cmp_all (B := b64) Heq.out hdr.out
     rw [H3.out] at this
     subst this
     exact ⟨rfl, nq, rfl⟩
    ·
     obtain ⟨j, rfl⟩ : ∃ j, i = j + 1 := ⟨i - 1, by omega⟩
     have hc1 := hca j (by omega)
     have hc2 := hcb j (by omega)
     have e1 : ((j + 1 : Nat) : Int) - 1 = (j : Int) := by omega
     rw [e1]
     have hj1 : (j : Int) < da.length := by omega
     have hj2 : (j : Int) < db.length := by omega
     go_wp2
     go_quiet (fail)
     go_wp2
     ·
      have hlt : da[j]?.getD 0 < db[j]?.getD 0 := by assumption
      have := cmp_lss hda j (by omega) Heq.out hdr.out (by simpa using hlt)
      rw [H3.out] at this
      subst this
      go_ret
      exact ⟨rfl, Quiet.step ⟨_, rfl⟩ _⟩
     ·
      have hlt : ¬ da[j]?.getD 0 < db[j]?.getD 0 := by assumption
      go_quiet (fail)
      go_wp2
      ·
       have hgt : db[j]?.getD 0 < da[j]?.getD 0 := by assumption
       have := cmp_gtr hdb j (by omega) Heq.out hdr.out (by simpa using hgt)
       rw [H3.out] at this
       subst this
       go_ret
       exact ⟨rfl, Quiet.step (Quiet.step ⟨_, rfl⟩ _) _⟩
      ·
       have hgt : ¬ db[j]?.getD 0 < da[j]?.getD 0 := by assumption
       go_roundw
       case rel => exact ⟨j, by omega, drop_step j (by omega) Heq.out hdr.out (by simpa using hlt) (by simpa using hgt), by go_num, _, rfl⟩
       case measure => simp [intOf]
 ·
  have hr := h2 hgt
  subst hr
  have hne : ((da.length : Int) != db.length) = true := by rw [bne_iff_ne]; omega
  clear h1 h2 h3 ha hb
  go_enter Try.func44, Try.ntmps44
  go_wp2
  go_ret
  exact ⟨rfl, .refl _⟩


theorem cmp_any (m n : Nat) (va vb : Value) (w : World) (ha : IsNat .u64 b64 w va m) (hb : IsNat .u64 b64 w vb n) :
  Calls Try.prog 44 #[va, vb] w (RetIntQ (cmpN m n) w) := by
 refine cmp_row _ _ va vb w (cmpN m n) ha hb (dgs_dig b64_two m) (dgs_dig b64_two n) (cmpN_len_lt b64_two) (cmpN_len_gt b64_two) ?_
 rw [lv_dig b64_two, lv_dig b64_two]
 exact fun _ => rfl

end Go.Proofs.Ytnjpkfccncjkhaa

namespace Go.Proofs.Ytnjpkfccncjkhaa
open Go.RowKit

theorem IsRow.other {k : IntKind} {w : World} {v : Value} {ds : List Nat} (h : IsRow k w v ds) (a : Addr) (ha : v.ownBlock ≠ some a.block) (u : Value) : IsRow k (w.setCell a u) v ds := by
 rcases h with ⟨rfl, ao, cap, rfl, h2, h3⟩ | ⟨h0, b, off, cap, rfl, h1, h2, h3, h4⟩
 ·
  exact .inl ⟨rfl, ao, cap, rfl, h2, h3⟩
 ·
  refine .inr ⟨h0, b, off, cap, rfl, h1, h2, by simpa using h3, fun j hj => ?_⟩
  rw [← h4 j hj]
  exact World.cell?_setCell_other _ _ _ _ (fun e => ha (by rw [e]; rfl))

end Go.Proofs.Ytnjpkfccncjkhaa

namespace Go.Proofs.Ytnjpkfccncjkhaa
open Go.RowKit

theorem info_u64 : (Try.prog.info? 80).map (fun i => (i.zero, i.size, i.bytes)) = some (some (.int .u64 0), 1, 8) := by kernel_rfl

theorem mul64_any (x y : Nat) (w : World) (hx : x < b64) (hy : y < b64) :
  Calls Try.prog 59 #[.int .u64 x, .int .u64 y] w fun e w' => e = .returned (.tuple #[.int .u64 (mulHi x y : Nat), .int .u64 (mulLo x y : Nat)]) ∧ w = w' := by
 unfold mulHi mulLo
 unfold b64 at *
 exact (Try.bits_Mul64 x y hx hy w).mono fun e w' ⟨h1, h2⟩ => ⟨h1, h2.symm⟩

theorem run_Add64 (x y c : Nat) (hc : c ≤ 1) (w : World) :
  (callFunc 60 #[.int .u64 x, .int .u64 y, .int .u64 c]).run Try.prog w = .ok (.value (.tuple #[.int .u64 (addLo x y c : Nat), .int .u64 (addHi x y c : Nat)])) w := by
 unfold addLo addHi b64
 rw [run_callFunc_extern Try.func60 (by kernel_rfl) (by kernel_rfl) (by kernel_rfl) (e := add64Entry) (by kernel_rfl), run_add64 x y c (by omega) (by omega) (by omega) (by omega)]
 simp only [Result.andThen]
 congr 5 <;> omega
theorem run_Add64_0 (x y : Nat) (w : World) :
  (callFunc 60 #[.int .u64 x, .int .u64 y, .int .u64 0]).run Try.prog w = .ok (.value (.tuple #[.int .u64 (addLo x y 0 : Nat), .int .u64 (addHi x y 0 : Nat)])) w :=
 run_Add64 x y 0 (by omega) w
theorem run_Sub64 (x y c : Nat) (hc : c ≤ 1) (w : World) :
  (callFunc 63 #[.int .u64 x, .int .u64 y, .int .u64 c]).run Try.prog w = .ok (.value (.tuple #[.int .u64 (subLo x y c : Nat), .int .u64 (subHi x y c : Nat)])) w := by
 have e : subLo x y c = (x + 18446744073709551616 - y - c) % 18446744073709551616 := by unfold subLo b64; rw [Nat.add_comm]
 rw [e]
 unfold subHi
 rw [run_callFunc_extern Try.func63 (by kernel_rfl) (by kernel_rfl) (by kernel_rfl) (e := sub64Entry) (by kernel_rfl), run_sub64 x y c hc]
 rfl

theorem mul_step (o c x y : Nat) (ho : o < b64) (hc : c < b64) (hx : x < b64) (hy : y < b64) :
  addLo (addLo (mulLo x y) o 0) c 0 + b64 * (mulHi x y + addHi (mulLo x y) o 0 + addHi (addLo (mulLo x y) o 0) c 0) = x * y + o + c ∧
  mulHi x y + addHi (mulLo x y) o 0 + addHi (addLo (mulLo x y) o 0) c 0 < b64 ∧ mulHi x y + addHi (mulLo x y) o 0 < b64 := by
 have e : addLo (addLo (mulLo x y) o 0) c 0 + b64 * (mulHi x y + addHi (mulLo x y) o 0 + addHi (addLo (mulLo x y) o 0) c 0) = x * y + o + c := by
  have h1 := mul_eq x y
  have h2 := add_eq (mulLo x y) o 0
  have h3 := add_eq (addLo (mulLo x y) o 0) c 0
  rw [Nat.mul_add, Nat.mul_add]
  omega
 have hm : x * y + o + c < b64 * b64 := by
  have h1 : x ≤ b64 - 1 := by omega
  have h2 : y ≤ b64 - 1 := by omega
  have h3 : x * y ≤ (b64 - 1) * (b64 - 1) := Nat.mul_le_mul h1 h2
  have hp := b64_pos
  generalize b64 = B at *
  obtain ⟨b, rfl⟩ : ∃ b, B = b + 1 := ⟨B - 1, by omega⟩
  simp only [Nat.add_sub_cancel] at h3
  have e2 : (b + 1) * (b + 1) = b * b + b + b + 1 := by rw [Nat.add_mul, Nat.mul_add]; omega
  omega
 have hq : mulHi x y + addHi (mulLo x y) o 0 + addHi (addLo (mulLo x y) o 0) c 0 < b64 := by
  rcases Nat.lt_or_ge (mulHi x y + addHi (mulLo x y) o 0 + addHi (addLo (mulLo x y) o 0) c 0) b64 with h | h
  ·
   exact h
  ·
   have := Nat.mul_le_mul_left b64 h
   omega
 exact ⟨e, hq, Nat.lt_of_le_of_lt (Nat.le_add_right _ _) hq⟩

structure MulIn (a b : List Nat) (i k : Nat) (o : List Nat) (c : Nat) : Prop where
 len : o.length = a.length + b.length
 dgs : Dgs b64 o
 car : c < b64
 val : lv b64 o + c * b64 ^ (i + k) = lv b64 (a.take i) * lv b64 b + a.getD i 0 * b64 ^ i * lv b64 (b.take k)
 top : ∀ j, i + b.length ≤ j → o.getD j 0 = 0

structure MulOut (a b : List Nat) (i : Nat) (o : List Nat) : Prop where
 len : o.length = a.length + b.length
 dgs : Dgs b64 o
 val : lv b64 o = lv b64 (a.take i) * lv b64 b
 top : ∀ j, i + b.length ≤ j → o.getD j 0 = 0

theorem MulOut.start (a b : List Nat) : MulOut a b 0 (List.replicate (a.length + b.length) 0) :=
 ⟨by simp, Dgs.replicate b64_pos _, by simp [lv_replicate, lv], fun j _ => by simp [List.getElem?_replicate]; split <;> rfl⟩

theorem MulOut.inner {a b : List Nat} {i : Nat} {o : List Nat} (h : MulOut a b i o) : MulIn a b i 0 o 0 :=
 ⟨h.len, h.dgs, b64_pos, by simp [h.val, lv], h.top⟩

theorem MulIn.step {a b : List Nat} {i k : Nat} {o : List Nat} {c : Nat} (h : MulIn a b i k o c) (_ha : Dgs b64 a) (_hb : Dgs b64 b) (hi : i < a.length) (hk : k < b.length) (lo hi' : Nat)
  (e : lo + b64 * hi' = a.getD i 0 * b.getD k 0 + o.getD (i + k) 0 + c) (hlo : lo < b64) (hhi : hi' < b64) : MulIn a b i (k + 1) (o.set (i + k) lo) hi' := by
 refine ⟨by simpa using h.len, h.dgs.set _ _ hlo, hhi, ?_, fun j hj => ?_⟩
 ·
  have h1 := lv_set b64 o (i + k) lo (by rw [h.len]; omega)
  have h2 := h.val
  rw [lv_take_succ b64 b k hk]
  have h3 : b64 ^ (i + (k + 1)) = b64 * b64 ^ (i + k) := by rw [← Nat.add_assoc, Nat.pow_succ, Nat.mul_comm]
  rw [h3, Nat.mul_add, ← Nat.add_assoc, ← h2]
  have h4 : hi' * (b64 * b64 ^ (i + k)) = b64 ^ (i + k) * (b64 * hi') := by ac_rfl
  have h5 : a.getD i 0 * b64 ^ i * (b64 ^ k * b.getD k 0) = b64 ^ (i + k) * (a.getD i 0 * b.getD k 0) := by
   rw [Nat.pow_add]
   ac_rfl
  have h6 : c * b64 ^ (i + k) = b64 ^ (i + k) * c := Nat.mul_comm _ _
  rw [h4, h5, h6]
  have h7 : b64 ^ (i + k) * (lo + b64 * hi') = b64 ^ (i + k) * (a.getD i 0 * b.getD k 0 + o.getD (i + k) 0 + c) := by rw [e]
  simp only [Nat.mul_add] at h7
  omega
 ·
  have := h.top j hj
  rw [List.getD_eq_getElem?_getD] at *
  rw [List.getElem?_set_ne (by omega)]
  exact this

theorem MulIn.done {a b : List Nat} {i : Nat} {o : List Nat} {c : Nat} (h : MulIn a b i b.length o c) (hi : i < a.length) : MulOut a b (i + 1) (o.set (i + b.length) c) := by
 refine ⟨by simpa using h.len, h.dgs.set _ _ h.car, ?_, fun j hj => ?_⟩
 ·
  have h1 := lv_set b64 o (i + b.length) c (by rw [h.len]; omega)
  rw [h.top _ (Nat.le_refl _)] at h1
  have h2 := h.val
  rw [List.take_length] at h2
  rw [lv_take_succ b64 a i hi, Nat.add_mul]
  have h3 : c * b64 ^ (i + b.length) = b64 ^ (i + b.length) * c := Nat.mul_comm _ _
  have h4 : a.getD i 0 * b64 ^ i * lv b64 b = b64 ^ i * a.getD i 0 * lv b64 b := by rw [Nat.mul_comm (a.getD i 0)]
  omega
 ·
  have := h.top j (by omega)
  rw [List.getD_eq_getElem?_getD] at *
  rw [List.getElem?_set_ne (by omega)]
  exact this


set_option maxRecDepth 100000 in
set_option maxHeartbeats 1000000 in
theorem times_any (m n : Nat) (va vb : Value) (w : World) (ha : IsNat .u64 b64 w va m) (hb : IsNat .u64 b64 w vb n) (hsz : (dig b64 m).length + (dig b64 n).length ≤ 1099511627776) :
  Calls Try.prog 41 #[va, vb] w (RetNat .u64 b64 (m * n) w) := by
 by_cases hm : m = 1
 ·
  have hd : decide (m = 1) = true := by simp [hm]
  have Hm := Lib.hid hm
  clear hm
  go_enter Try.func41, Try.ntmps41
  go_wp2_with fail
  refine (isOne_any m va _ ha).mono ?_
  rw [hd]
  rintro e w' ⟨rfl, rfl⟩
  go_wp2_with fail
  go_ret
  exact ⟨_, rfl, by rw [Hm.out, Nat.one_mul]; exact hb, Below.refl _ _⟩
 ·
  have hd : decide (m = 1) = false := by simp [hm]
  clear hm
  by_cases hn : n = 1
  ·
   have hd2 : decide (n = 1) = true := by simp [hn]
   have Hn := Lib.hid hn
   clear hn
   go_enter Try.func41, Try.ntmps41
   go_wp2_with fail
   refine (isOne_any m va _ ha).mono ?_
   rw [hd]
   rintro e w' ⟨rfl, rfl⟩
   go_wp2_with fail
   refine (isOne_any n vb _ hb).mono ?_
   rw [hd2]
   rintro e w' ⟨rfl, rfl⟩
   go_wp2_with fail
   go_ret
   exact ⟨_, rfl, by rw [Hn.out, Nat.mul_one]; exact ha, Below.refl _ _⟩
  ·
   have hd2 : decide (n = 1) = false := by simp [hn]
   clear hn
   obtain ⟨aa, ca, rfl, hA⟩ := IsRow.opened ha
   obtain ⟨ab, cb, rfl, hB⟩ := IsRow.opened hb
   have hda := dgs_dig b64_two m
   have hdb := dgs_dig b64_two n
   have hva := lv_dig b64_two m
   have hvb := lv_dig b64_two n
   have Hva := Lib.hid hva
   have Hvb := Lib.hid hvb
   have Ha := Lib.hid ha
   have Hb := Lib.hid hb
   clear hva hvb ha hb
   generalize dig b64 m = da at *
   generalize dig b64 n = db at *
   obtain ⟨i0, hi, hz0, hz1, hz2⟩ := info_parts info_u64
   go_enter Try.func41, Try.ntmps41
   go_wp2_with fail
   refine (isOne_any m _ _ Ha.out).mono ?_
   rw [hd]
   rintro e w' ⟨rfl, rfl⟩
   go_wp2_with fail
   refine (isOne_any n _ _ Hb.out).mono ?_
   rw [hd2]
   rintro e w' ⟨rfl, rfl⟩
   go_wp2_with (at_make; refine wpList_make_full _ rfl _ _ 43 rfl w.heap.size 80 i0 (.int .u64 0) 1 Try.underlying43 hi hz0 hz1 _ _ _ _ (da.length + db.length) rfl rfl (by omega) (by omega) (by rw [hz2]; omega) (by unfold maxLen; omega) (by omega) ?_)
   intro w1 hown hgrow
   have ho := Own.of_made hown
   have hbel := (Below.refl w.heap.size w).grown hgrow (Nat.le_refl _) (by simp)
   clear hown hgrow
   clear hi hz0 hz1 hz2
   go_wp2_with fail
   go_loopw [28] (fun c wr => ∃ (i : Nat) (o : List Nat), i ≤ da.length ∧ c = .int .i64 i ∧ Own wr w.heap.size .u64 80 o ∧ Hid (MulOut da db i o) ∧ Below w.heap.size w wr)
    (fun c _ => da.length - (intOf c).toNat)
   case atStart => exact ⟨0, _, Nat.zero_le _, rfl, ho, MulOut.start da db, hbel⟩
   case round =>
    clear ho hbel
    obtain ⟨i, o, hile, rfl, ho, hM, hbel⟩ := hrel
    by_cases hlt : i < da.length
    ·
     obtain ⟨b, off, rfl, hbA, hcA⟩ := hA (by omega)
     have hca : wr.cell? ⟨b, off + i, none⟩ = some (.int .u64 (da.getD i 0 : Nat)) := (hbel.cell (p := ⟨b, off + i, none⟩) hbA).trans (hcA i hlt)
     obtain ⟨x, hx⟩ : ∃ x, x = da.getD i 0 := ⟨_, rfl⟩
     rw [← hx] at hca
     have Hx := Lib.hid hx
     have Hxlt : Hid (x < b64) := by show x < b64; rw [hx]; exact hda.getD b64_pos i
     clear hx
     go_wp2_with fail
     obtain ⟨wo, hwo⟩ : ∃ wo : World, wo = wr := ⟨_, rfl⟩
     subst hwo
     go_loopw [8, 35] (fun cv kv wr => ∃ (k : Nat) (o : List Nat) (c : Nat), k ≤ db.length ∧ kv = .int .i64 k ∧ cv = .int .u64 c ∧ Own wr w.heap.size .u64 80 o ∧ Hid (MulIn da db i k o c) ∧ Below w.heap.size w wr)
      (fun _ kv _ => db.length - (intOf kv).toNat)
     case atStart => exact ⟨0, o, 0, Nat.zero_le _, rfl, rfl, ho, hM.out.inner, hbel⟩
     case round =>
      clear hca hM ho hbel
      obtain ⟨k, o, c, hkl, rfl, rfl, ho, hM, hbel⟩ := hrel
      by_cases hlk : k < db.length
      ·
       obtain ⟨b', off', rfl, hbB, hcB⟩ := hB (by omega)
       have hcb : wr.cell? ⟨b', off' + k, none⟩ = some (.int .u64 (db.getD k 0 : Nat)) := (hbel.cell (p := ⟨b', off' + k, none⟩) hbB).trans (hcB k hlk)
       obtain ⟨y, hy⟩ : ∃ y, y = db.getD k 0 := ⟨_, rfl⟩
       rw [← hy] at hcb
       have Hy := Lib.hid hy
       have Hylt : Hid (y < b64) := by show y < b64; rw [hy]; exact hdb.getD b64_pos k
       clear hy
       have hco := ho.cell (i + k) (by rw [hM.out.len]; omega)
       have hfo := ho.frozen (i + k)
       obtain ⟨z, hz⟩ : ∃ z, z = o.getD (i + k) 0 := ⟨_, rfl⟩
       rw [← hz] at hco
       have Hz := Lib.hid hz
       have Hzlt : Hid (z < b64) := by show z < b64; rw [hz]; exact hM.out.dgs.getD b64_pos _
       clear hz
       go_wp2_with fail
       refine (mul64_any x y _ Hxlt.out Hylt.out).mono ?_
       have hadd := run_Add64_0
       have hstep := mul_step z c x y Hzlt.out hM.out.car Hxlt.out Hylt.out
       unfold b64 at hstep
       have hb1 := hstep.2.1
       have hb2 := hstep.2.2
       clear hstep
       rintro e w' ⟨rfl, rfl⟩
       go_wp2_with fail
       have hstep := mul_step z c x y Hzlt.out hM.out.car Hxlt.out Hylt.out
       refine ⟨⟨k + 1, _, mulHi x y + addHi (mulLo x y) z 0 + addHi (addLo (mulLo x y) z 0) c 0, by omega, by go_num, by go_num, ho.store _ _, ?_, hbel.setCell (p := ⟨w.heap.size, i + k, none⟩) (Nat.le_refl _) _⟩, by simp [intOf]; omega⟩
       refine hM.out.step hda hdb hlt hlk _ _ ?_ (addLo_lt _ _ _) hstep.2.1
       rw [hstep.1, Hx.out, Hy.out, Hz.out]
      ·
       obtain rfl : k = db.length := by omega
       have hco := ho.cell (i + db.length) (by rw [hM.out.len]; omega)
       have hfo := ho.frozen (i + db.length)
       go_wp2_with fail
       refine ⟨⟨i + 1, _, by omega, by go_num, ho.store _ _, hM.out.done hlt, hbel.setCell (p := ⟨w.heap.size, i + db.length, none⟩) (Nat.le_refl _) _⟩, by simp [intOf]; omega⟩
    ·
     obtain rfl : i = da.length := by omega
     have hlen := Lib.hid hM.out.len
     go_wp2_with fail
     have hrow := ho.isRow (by unfold maxLen; rw [hlen.out]; omega)
     rw [hlen.out] at hrow
     refine (cut_any o _ _ hrow hM.out.dgs).mono ?_
     rintro e w' ⟨v, rfl, hv, rfl⟩
     go_wp2_with fail
     go_ret
     refine ⟨v, rfl, ?_, hbel⟩
     have := hM.out.val
     rw [List.take_length, Hva.out, Hvb.out] at this
     rw [← this]
     exact hv

end Go.Proofs.Ytnjpkfccncjkhaa

namespace Go.Proofs.Ytnjpkfccncjkhaa
open Go.RowKit

structure PrIn (a b : List Nat) (i k : Nat) (o : List Nat) (c : Nat) : Prop where
 len : o.length = a.length + b.length
 dgs : Dgs b32 o
 car : c < b32
 val : lv b32 o + c * b32 ^ (i + k) = lv b32 (a.take i) * lv b32 b + a.getD i 0 * b32 ^ i * lv b32 (b.take k)

structure PrOut (a b : List Nat) (i : Nat) (o : List Nat) : Prop where
 len : o.length = a.length + b.length
 dgs : Dgs b32 o
 val : lv b32 o = lv b32 (a.take i) * lv b32 b

theorem PrOut.start (a b : List Nat) : PrOut a b 0 (List.replicate (a.length + b.length) 0) :=
 ⟨by simp, Dgs.replicate b32_pos _, by simp [lv_replicate, lv]⟩
theorem PrOut.inner {a b : List Nat} {i : Nat} {o : List Nat} (h : PrOut a b i o) : PrIn a b i 0 o 0 :=
 ⟨h.len, h.dgs, b32_pos, by simp [h.val, lv]⟩

theorem PrIn.step {a b : List Nat} {i k : Nat} {o : List Nat} {c : Nat} (h : PrIn a b i k o c) (X : Nat) (hk : i + k < a.length + b.length)
  (hX : X = o.getD (i + k) 0 + c + a.getD i 0 * b.getD k 0) (hlt : X / b32 < b32) : PrIn a b i (k + 1) (o.set (i + k) (X % b32)) (X / b32) := by
 refine ⟨by simpa using h.len, h.dgs.set _ _ (Nat.mod_lt _ b32_pos), hlt, ?_⟩
 have h1 := lv_set b32 o (i + k) (X % b32) (by rw [h.len]; exact hk)
 have h2 := h.val
 have h3 : lv b32 (b.take (k + 1)) = lv b32 (b.take k) + b32 ^ k * b.getD k 0 := by
  by_cases hkb : k < b.length
  ·
   exact lv_take_succ b32 b k hkb
  ·
   rw [List.take_of_length_le (by omega), List.take_of_length_le (by omega)]
   simp [List.getElem?_eq_none (Nat.le_of_not_lt hkb)]
 rw [h3]
 have h4 : b32 ^ (i + (k + 1)) = b32 * b32 ^ (i + k) := by rw [← Nat.add_assoc, Nat.pow_succ, Nat.mul_comm]
 rw [h4, Nat.mul_add, ← Nat.add_assoc, ← h2]
 have e1 : X / b32 * (b32 * b32 ^ (i + k)) = b32 ^ (i + k) * (b32 * (X / b32)) := by ac_rfl
 have e2 : a.getD i 0 * b32 ^ i * (b32 ^ k * b.getD k 0) = b32 ^ (i + k) * (a.getD i 0 * b.getD k 0) := by rw [Nat.pow_add]; ac_rfl
 have e3 : c * b32 ^ (i + k) = b32 ^ (i + k) * c := Nat.mul_comm _ _
 have e4 := Nat.mod_add_div X b32
 have e5 : b32 ^ (i + k) * (X % b32 + b32 * (X / b32)) = b32 ^ (i + k) * (o.getD (i + k) 0 + c + a.getD i 0 * b.getD k 0) := by rw [e4, hX]
 rw [e1, e2, e3]
 simp only [Nat.mul_add] at e5
 omega

theorem PrIn.room {a b : List Nat} {i k : Nat} {o : List Nat} {c : Nat} (h : PrIn a b i k o c) (ha : Dgs b32 a) (hb : Dgs b32 b) (hi : i < a.length) (hc : 0 < c) : i + k < i + 1 + b.length := by
 rcases Nat.lt_or_ge (i + k) (i + 1 + b.length) with h' | h'
 ·
  exact h'
 ·
  exfalso
  have h1 : lv b32 (a.take i) * lv b32 b + a.getD i 0 * b32 ^ i * lv b32 (b.take k) = lv b32 (a.take (i + 1)) * lv b32 b := by
   rw [List.take_of_length_le (by omega : b.length ≤ k), lv_take_succ b32 a i hi, Nat.add_mul, Nat.mul_comm (a.getD i 0)]
  have h2 := h.val
  rw [h1] at h2
  have h3 : lv b32 (a.take (i + 1)) * lv b32 b < b32 ^ (i + 1 + b.length) := by
   have h4 := lv_lt (ha.take (i + 1))
   have e : (a.take (i + 1)).length = i + 1 := by simp; omega
   rw [e] at h4
   have h5 := lv_lt hb
   rw [Nat.pow_add]
   exact Nat.mul_lt_mul_of_lt_of_le h4 (Nat.le_of_lt h5) (Nat.pow_pos b32_pos)
  have h6 : b32 ^ (i + 1 + b.length) ≤ b32 ^ (i + k) := Nat.pow_le_pow_right b32_pos h'
  have h7 : b32 ^ (i + k) ≤ c * b32 ^ (i + k) := Nat.le_mul_of_pos_left _ hc
  omega

theorem PrIn.done {a b : List Nat} {i k : Nat} {o : List Nat} {c : Nat} (h : PrIn a b i k o c) (hi : i < a.length) (hk : b.length ≤ k) (hc : c = 0) : PrOut a b (i + 1) o := by
 refine ⟨h.len, h.dgs, ?_⟩
 have h2 := h.val
 rw [hc, Nat.zero_mul, Nat.add_zero, List.take_of_length_le hk] at h2
 rw [h2, lv_take_succ b32 a i hi, Nat.add_mul, Nat.mul_comm (a.getD i 0)]

end Go.Proofs.Ytnjpkfccncjkhaa

namespace Go.Proofs.Ytnjpkfccncjkhaa
open Go.RowKit

structure SmIn (a b : List Nat) (n i : Nat) (o : List Nat) (c : Nat) : Prop where
 len : o.length = n
 dgs : Dgs b32 o
 car : c ≤ 1
 val : lv b32 o + c * b32 ^ i = lv b32 (a.take i) + lv b32 (b.take i)
 top : ∀ j, i ≤ j → o.getD j 0 = 0

theorem take_step (B : Nat) (a : List Nat) (i : Nat) : lv B (a.take (i + 1)) = lv B (a.take i) + B ^ i * a.getD i 0 := by
 by_cases h : i < a.length
 ·
  exact lv_take_succ B a i h
 ·
  rw [List.take_of_length_le (by omega), List.take_of_length_le (by omega)]
  simp [List.getElem?_eq_none (Nat.le_of_not_lt h)]

theorem SmIn.step {a b : List Nat} {n i : Nat} {o : List Nat} {c : Nat} (h : SmIn a b n i o c) (ha : Dgs b32 a) (hb : Dgs b32 b) (hi : i < n) (X : Nat) (hX : X = c + a.getD i 0 + b.getD i 0) :
  SmIn a b n (i + 1) (o.set i (X % b32)) (X / b32) := by
 have hx := ha.getD b32_pos i
 have hy := hb.getD b32_pos i
 have hc := h.car
 refine ⟨by simpa using h.len, h.dgs.set _ _ (Nat.mod_lt _ b32_pos), ?_, ?_, fun j hj => ?_⟩
 ·
  have : X / b32 < 2 := by rw [Nat.div_lt_iff_lt_mul b32_pos]; omega
  omega
 ·
  have h1 := lv_set b32 o i (X % b32) (by rw [h.len]; exact hi)
  rw [h.top i (Nat.le_refl _)] at h1
  have h2 := h.val
  rw [take_step, take_step, Nat.pow_succ]
  have e1 : X / b32 * (b32 ^ i * b32) = b32 ^ i * (b32 * (X / b32)) := by ac_rfl
  have e4 := Nat.mod_add_div X b32
  have e5 : b32 ^ i * (X % b32 + b32 * (X / b32)) = b32 ^ i * (c + a.getD i 0 + b.getD i 0) := by rw [e4, hX]
  have e6 : c * b32 ^ i = b32 ^ i * c := Nat.mul_comm _ _
  rw [e1]
  simp only [Nat.mul_add] at e5
  omega
 ·
  have := h.top j (by omega)
  rw [List.getD_eq_getElem?_getD] at *
  rw [List.getElem?_set_ne (by omega)]
  exact this

theorem SmIn.done {a b : List Nat} {m : Nat} {o : List Nat} {c : Nat} (h : SmIn a b (m + 1) (m + 1) o c) (ha : Dgs b32 a) (hb : Dgs b32 b) (h1 : a.length ≤ m) (h2 : b.length ≤ m) : lv b32 o = lv b32 a + lv b32 b := by
 have hv := h.val
 rw [List.take_of_length_le (by omega), List.take_of_length_le (by omega)] at hv
 have ha' : lv b32 a < b32 ^ m := Nat.lt_of_lt_of_le (lv_lt ha) (Nat.pow_le_pow_right b32_pos h1)
 have hb' : lv b32 b < b32 ^ m := Nat.lt_of_lt_of_le (lv_lt hb) (Nat.pow_le_pow_right b32_pos h2)
 rcases Nat.eq_zero_or_pos c with h0 | h0
 ·
  subst h0; omega
 ·
  exfalso
  have e : b32 ^ (m + 1) ≤ c * b32 ^ (m + 1) := Nat.le_mul_of_pos_left _ h0
  rw [Nat.pow_succ] at e
  have e2 : b32 ^ m * 2 ≤ b32 ^ m * b32 := Nat.mul_le_mul_left _ b32_two
  rw [Nat.pow_succ] at hv
  omega

structure D32 (a b : List Nat) (n i : Nat) (o : List Nat) (c : Nat) : Prop where
 len : o.length = n
 dgs : Dgs b32 o
 bor : c ≤ 1
 val : lv b32 o + lv b32 (b.take i) = lv b32 (a.take i) + c * b32 ^ i
 top : ∀ j, i ≤ j → o.getD j 0 = 0

theorem D32.step {a b : List Nat} {n i : Nat} {o : List Nat} {c : Nat} (h : D32 a b n i o c) (hi : i < n) (X c' : Nat) (hX : X < b32) (hc' : c' ≤ 1) (e : X + b.getD i 0 + c = a.getD i 0 + b32 * c') :
  D32 a b n (i + 1) (o.set i X) c' := by
 refine ⟨by simpa using h.len, h.dgs.set _ _ hX, hc', ?_, fun j hj => ?_⟩
 ·
  have h1 := lv_set b32 o i X (by rw [h.len]; exact hi)
  rw [h.top i (Nat.le_refl _)] at h1
  have h2 := h.val
  rw [take_step, take_step, Nat.pow_succ]
  have e1 : c' * (b32 ^ i * b32) = b32 ^ i * (b32 * c') := by ac_rfl
  have e5 : b32 ^ i * (X + b.getD i 0 + c) = b32 ^ i * (a.getD i 0 + b32 * c') := by rw [e]
  have e6 : c * b32 ^ i = b32 ^ i * c := Nat.mul_comm _ _
  rw [e1]
  simp only [Nat.mul_add] at e5
  omega
 ·
  have := h.top j (by omega)
  rw [List.getD_eq_getElem?_getD] at *
  rw [List.getElem?_set_ne (by omega)]
  exact this

theorem D32.done {a b : List Nat} {o : List Nat} {c : Nat} (h : D32 a b a.length a.length o c) (hl : b.length ≤ a.length) (hle : lv b32 b ≤ lv b32 a) : lv b32 o = lv b32 a - lv b32 b := by
 have hv := h.val
 rw [List.take_length, List.take_of_length_le hl] at hv
 have h2 := lv_lt h.dgs
 rw [h.len] at h2
 have hb : c = 0 := by
  rcases Nat.eq_zero_or_pos c with h0 | h0
  ·
   exact h0
  ·
   have : b32 ^ a.length ≤ c * b32 ^ a.length := Nat.le_mul_of_pos_left _ h0
   omega
 subst hb
 omega

end Go.Proofs.Ytnjpkfccncjkhaa

namespace Go.Proofs.Ytnjpkfccncjkhaa

structure Guess (b v1 v0 u d q r : Nat) : Prop where
 eq : u = q * v1 + r
 lo : (u * b + d) / (v1 * b + v0) ≤ q
 hi : q ≤ b + 1

theorem Guess.first {b v1 v0 u d : Nat} (hb : 2 ≤ b) (hv1 : b ≤ 2 * v1) (hv0 : v0 < b) (hu : u < v1 * b + v0) (hd : d < b) : Guess b v1 v0 u d (u / v1) (u % v1) := by
 have hp : 0 < v1 := by omega
 refine ⟨by rw [Nat.mul_comm]; exact (Nat.div_add_mod u v1).symm, ?_, ?_⟩
 ·
  have h1 : u * b + d < (u / v1 + 1) * (v1 * b + v0) := by
   have h2 : u < (u / v1 + 1) * v1 := by
    have h3 := Nat.div_add_mod u v1
    have h4 := Nat.mod_lt u hp
    rw [Nat.add_mul, Nat.one_mul, Nat.mul_comm]; omega
   have h5 : (u + 1) * b ≤ (u / v1 + 1) * v1 * b := Nat.mul_le_mul_right b h2
   rw [Nat.add_mul, Nat.one_mul] at h5
   have h6 : (u / v1 + 1) * (v1 * b + v0) = (u / v1 + 1) * v1 * b + (u / v1 + 1) * v0 := by rw [Nat.mul_add, Nat.mul_assoc]
   omega
  have h7 : 0 < v1 * b + v0 := by have := Nat.mul_pos hp (by omega : 0 < b); omega
  have := (Nat.div_lt_iff_lt_mul h7).2 h1
  omega
 ·
  have h1 : u < (b + 2) * v1 := by
   have e : (b + 2) * v1 = b * v1 + 2 * v1 := by rw [Nat.add_mul]
   have e2 : v1 * b = b * v1 := Nat.mul_comm _ _
   omega
  have := (Nat.div_lt_iff_lt_mul hp).2 h1
  omega

theorem quo_lt {b V u d : Nat} (hV : 0 < V) (hu : u < V) (hd : d < b) : (u * b + d) / V < b := by
 rw [Nat.div_lt_iff_lt_mul hV]
 have : (u + 1) * b ≤ V * b := Nat.mul_le_mul_right b hu
 rw [Nat.add_mul, Nat.one_mul] at this
 rw [Nat.mul_comm b V]
 omega

theorem Guess.less {b v1 v0 u d q r : Nat} (h : Guess b v1 v0 u d q r) (hV : 0 < v1 * b + v0) (hu : u < v1 * b + v0) (hd : d < b) (ht : b ≤ q ∨ b * r + d < q * v0) :
  1 ≤ q ∧ Guess b v1 v0 u d (q - 1) (r + v1) := by
 have hq : (u * b + d) / (v1 * b + v0) < q := by
  rcases ht with ht | ht
  ·
   exact Nat.lt_of_lt_of_le (quo_lt hV hu hd) ht
  ·
   rw [Nat.div_lt_iff_lt_mul hV]
   have e := h.eq
   have e2 : u * b = q * v1 * b + r * b := by rw [e, Nat.add_mul]
   have e3 : q * (v1 * b + v0) = q * v1 * b + q * v0 := by rw [Nat.mul_add, Nat.mul_assoc]
   have e4 : r * b = b * r := Nat.mul_comm _ _
   omega
 have h1 : 1 ≤ q := Nat.lt_of_le_of_lt (Nat.zero_le _) hq
 refine ⟨h1, ?_, by omega, by have := h.hi; omega⟩
 have e := h.eq
 obtain ⟨q, rfl⟩ : ∃ q', q = q' + 1 := ⟨q - 1, by omega⟩
 simp only [Nat.add_sub_cancel]
 rw [Nat.add_mul, Nat.one_mul] at e
 omega

theorem Guess.done {b v1 v0 u d q r : Nat} (h : Guess b v1 v0 u d q r) (hV : 0 < v1 * b + v0) (ht : q * v0 ≤ b * r + d) : q = (u * b + d) / (v1 * b + v0) := by
 apply Nat.le_antisymm _ h.lo
 rw [Nat.le_div_iff_mul_le hV]
 have e := h.eq
 have e2 : u * b = q * v1 * b + r * b := by rw [e, Nat.add_mul]
 have e3 : q * (v1 * b + v0) = q * v1 * b + q * v0 := by rw [Nat.mul_add, Nat.mul_assoc]
 have e4 : r * b = b * r := Nat.mul_comm _ _
 omega

theorem Guess.broke {b v1 v0 u d q r : Nat} (h : Guess b v1 v0 u d q r) (hV : 0 < v1 * b + v0) (hv0 : v0 < b) (hq : q ≤ b) (hr : b ≤ r) : q = (u * b + d) / (v1 * b + v0) := by
 refine h.done hV ?_
 have h1 : q * v0 ≤ b * v0 := Nat.mul_le_mul_right _ hq
 have h2 : b * v0 ≤ b * r := Nat.mul_le_mul_left _ (by omega)
 omega

theorem two_halves {b V u d1 d0 q1 q0 r : Nat} (hV : 0 < V) (hu : u < V) (hd0 : d0 < b) (h1 : q1 = (u * b + d1) / V) (hr : r = (u * b + d1) % V) (h0 : q0 = (r * b + d0) / V) :
  q1 * b + q0 = (u * (b * b) + d1 * b + d0) / V ∧ (r * b + d0) % V = (u * (b * b) + d1 * b + d0) % V := by
 have e1 := Nat.div_add_mod (u * b + d1) V
 rw [← h1, ← hr] at e1
 have e2 : u * (b * b) + d1 * b + d0 = (q1 * b) * V + (r * b + d0) := by
  have : (u * b + d1) * b = (V * q1 + r) * b := by rw [e1]
  rw [Nat.add_mul, Nat.add_mul] at this
  have e3 : u * b * b = u * (b * b) := Nat.mul_assoc _ _ _
  have e4 : V * q1 * b = q1 * b * V := by ac_rfl
  omega
 rw [e2, h0]
 constructor
 ·
  rw [Nat.add_comm (q1 * b * V), Nat.add_mul_div_right _ _ hV, Nat.add_comm]
 ·
  rw [Nat.add_comm (q1 * b * V), Nat.add_mul_mod_self_right]

theorem or_disjoint (a x s : Nat) (hx : x < 2 ^ s) : a * 2 ^ s ||| x = a * 2 ^ s + x := by
 rw [Nat.mul_comm]
 exact (Nat.two_pow_add_eq_or_of_lt hx a).symm

end Go.Proofs.Ytnjpkfccncjkhaa

namespace Go.Proofs.Ytnjpkfccncjkhaa
open Go.RowKit

def dvQ (hi lo y : Nat) : Nat := (b32 * hi + lo) / y
def dvR (hi lo y : Nat) : Nat := (b32 * hi + lo) % y
theorem quo_lt' {b V u d : Nat} (hV : 0 < V) (hu : u < V) (hd : d < b) : (b * u + d) / V < b := by rw [Nat.mul_comm]; exact quo_lt hV hu hd

structure By32 (a : List Nat) (d j : Nat) (o : List Nat) (r : Nat) : Prop where
 len : o.length = a.length
 dgs : Dgs b32 o
 rem : r < d
 val : lv b32 (a.drop j) = lv b32 (o.drop j) * d + r
 low : ∀ i, i < j → o.getD i 0 = 0

theorem By32.start (a : List Nat) (d : Nat) (hd : 0 < d) : By32 a d a.length (List.replicate a.length 0) 0 :=
 ⟨by simp, Dgs.replicate b32_pos _, hd, by simp [lv], fun i _ => by simp [List.getElem?_replicate]; split <;> rfl⟩

theorem dvQ_lt (hi lo y : Nat) (hy : 0 < y) (hlo : lo < b32) (hh : hi < y) : dvQ hi lo y < b32 := quo_lt' hy hh hlo

theorem By32.step {a : List Nat} {d j : Nat} {o : List Nat} {r : Nat} (h : By32 a d (j + 1) o r) (ha : Dgs b32 a) (hj : j < a.length) :
  By32 a d j (o.set j (dvQ r (a.getD j 0) d)) (dvR r (a.getD j 0) d) := by
 have hd : 0 < d := by have := h.rem; omega
 have hx := ha.getD b32_pos j
 refine ⟨by simpa using h.len, h.dgs.set _ _ (dvQ_lt _ _ _ hd hx h.rem), Nat.mod_lt _ hd, ?_, fun i hi => ?_⟩
 ·
  have h1 : (o.set j (dvQ r (a.getD j 0) d)).drop j = dvQ r (a.getD j 0) d :: o.drop (j + 1) := by
   rw [List.drop_eq_getElem_cons (by simp [h.len]; exact hj)]
   simp [List.drop_set]
  rw [h1, List.drop_eq_getElem_cons hj, lv_cons, lv_cons, h.val]
  have hg : a.getD j 0 = a[j] := by simp [hj]
  rw [← hg]
  have e := Nat.div_add_mod (b32 * r + a.getD j 0) d
  have e2 : d * dvQ r (a.getD j 0) d + dvR r (a.getD j 0) d = b32 * r + a.getD j 0 := e
  rw [Nat.mul_add, Nat.add_mul]
  have e3 : b32 * lv b32 (o.drop (j + 1)) * d = b32 * (lv b32 (o.drop (j + 1)) * d) := Nat.mul_assoc _ _ _
  have e4 : dvQ r (a.getD j 0) d * d = d * dvQ r (a.getD j 0) d := Nat.mul_comm _ _
  omega
 ·
  have := h.low i (by omega)
  rw [List.getD_eq_getElem?_getD] at *
  rw [List.getElem?_set_ne (by omega)]
  exact this

theorem By32.done {a : List Nat} {d : Nat} {o : List Nat} {r : Nat} (h : By32 a d 0 o r) : lv b32 o = lv b32 a / d ∧ r = lv b32 a % d := by
 have hd : 0 < d := by have := h.rem; omega
 have hv := h.val
 simp only [List.drop_zero] at hv
 rw [hv]
 constructor
 ·
  rw [Nat.add_comm, Nat.add_mul_div_right _ _ hd, Nat.div_eq_of_lt h.rem, Nat.zero_add]
 ·
  rw [Nat.add_comm, Nat.add_mul_mod_self_right, Nat.mod_eq_of_lt h.rem]


def hw (x y : Nat) : Nat := 2147483648 * (y % 2) + x / 2
theorem hw_lt (x y : Nat) (h : x < b32) : hw x y < b32 := by unfold hw; unfold b32 at *; omega
theorem hw_lv (x T : Nat) : hw x T + b32 * (T / 2) = (x + b32 * T) / 2 := by unfold hw b32; omega
def hlL : List Nat → List Nat
 | [] => []
 | x :: t => hw x (t.headD 0) :: hlL t
theorem hlL_length (a : List Nat) : (hlL a).length = a.length := by
 induction a with
 | nil => rfl
 | cons x t ih => simp [hlL, ih]
theorem hlL_getD (a : List Nat) (i : Nat) (hi : i < a.length) : (hlL a).getD i 0 = hw (a.getD i 0) (a.getD (i + 1) 0) := by
 induction a generalizing i with
 | nil => simp at hi
 | cons x t ih =>
  cases i with
  | zero => cases t <;> simp [hlL]
  | succ i => simpa [hlL] using ih i (by simpa using hi)
theorem hlL_dgs (a : List Nat) (ha : Dgs b32 a) : Dgs b32 (hlL a) := by
 induction a with
 | nil => exact Dgs.nil _
 | cons x t ih =>
  exact Dgs.cons (hw_lt _ _ ha.head) (ih ha.tail)
theorem lv_mod2 (t : List Nat) : lv b32 t % 2 = t.headD 0 % 2 := by
 cases t with
 | nil => rfl
 | cons y u =>
  rw [lv_cons]
  generalize lv b32 u = U
  show (y + b32 * U) % 2 = y % 2
  unfold b32
  omega
theorem lv_hlL (a : List Nat) : lv b32 (hlL a) = lv b32 a / 2 := by
 induction a with
 | nil => simp [hlL, lv]
 | cons x t ih =>
  rw [hlL, lv_cons, lv_cons, ih]
  have e : hw x (t.headD 0) = hw x (lv b32 t) := by unfold hw; rw [lv_mod2 t]
  rw [e]
  exact hw_lv x _

structure HlIn (a : List Nat) (i : Nat) (o : List Nat) : Prop where
 len : o.length = a.length
 dgs : Dgs b32 o
 val : ∀ j, j < i → o.getD j 0 = (hlL a).getD j 0
theorem HlIn.done {a : List Nat} {o : List Nat} (h : HlIn a a.length o) : lv b32 o = lv b32 a / 2 := by
 have e : o = hlL a := by
  apply List.ext_getElem
  ·
   rw [h.len, hlL_length]
  ·
   intro j h1 h2
   have := h.val j (by rw [h.len] at h1; exact h1)
   simpa [h1, h2] using this
 rw [e, lv_hlL]
theorem HlIn.step {a : List Nat} {i : Nat} {o : List Nat} (h : HlIn a i o) (ha : Dgs b32 a) (hi : i < a.length) (x : Nat) (hx : x = hw (a.getD i 0) (a.getD (i + 1) 0)) : HlIn a (i + 1) (o.set i x) := by
 have e : x = (hlL a).getD i 0 := by rw [hlL_getD a i hi, hx]
 refine ⟨by simpa using h.len, h.dgs.set _ _ (by rw [e]; exact (hlL_dgs a ha).getD b32_pos i), fun j hj => ?_⟩
 by_cases hji : j = i
 ·
  subst hji
  rw [List.getD_eq_getElem?_getD, List.getElem?_set_self (by rw [h.len]; exact hi)]
  exact e
 ·
  have := h.val j (by omega)
  rw [← this, List.getD_eq_getElem?_getD, List.getElem?_set_ne (by omega), List.getD_eq_getElem?_getD]

end Go.Proofs.Ytnjpkfccncjkhaa

namespace Go.Proofs.Ytnjpkfccncjkhaa
open Go.RowKit

def bl (m : Nat) : Nat := if m = 0 then 0 else Nat.log2 m + 1
theorem bl_spec (m : Nat) (h : m ≠ 0) : 1 ≤ bl m ∧ 2 ^ (bl m - 1) ≤ m ∧ m < 2 ^ bl m := by
 unfold bl
 rw [if_neg h]
 exact ⟨by omega, by simpa using Nat.log2_self_le h, Nat.lt_log2_self⟩
theorem bl_lt (m : Nat) : m < 2 ^ bl m := by
 rcases Nat.eq_zero_or_pos m with rfl | h
 ·
  exact Nat.two_pow_pos _
 ·
  exact (bl_spec m (by omega)).2.2
theorem b32_pow32 (L : Nat) : b32 ^ L = 2 ^ (32 * L) := by rw [b32_pow, ← Nat.pow_mul]
end Go.Proofs.Ytnjpkfccncjkhaa

namespace Go.Proofs.Ytnjpkfccncjkhaa
open Go.RowKit

structure QuIn (m d n j : Nat) (o : List Nat) (a : Nat) : Prop where
 len : o.length = n / 32 + 1
 dgs : Dgs b32 o
 val : m = lv b32 o * d + a
 lt : a < d * 2 ^ j
 dvd : ∀ k, 2 ^ (j - 32 * k) ∣ o.getD k 0

theorem QuIn.start (m d : Nat) (hd : d ≠ 0) (n : Nat) (hn : bl d + n = bl m) : QuIn m d n (n + 1) (List.replicate (n / 32 + 1) 0) m := by
 refine ⟨by simp, Dgs.replicate b32_pos _, by simp [lv_replicate], ?_, fun k => ?_⟩
 ·
  have h1 := bl_lt m
  obtain ⟨h2, h3, _⟩ := bl_spec d hd
  have e : bl m = (bl d - 1) + (n + 1) := by omega
  rw [e, Nat.pow_add] at h1
  exact Nat.lt_of_lt_of_le h1 (Nat.mul_le_mul_right _ h3)
 ·
  have : (List.replicate (n / 32 + 1) 0).getD k 0 = 0 := by simp [List.getElem?_replicate]; split <;> rfl
  rw [this]
  exact Nat.dvd_zero _

theorem QuIn.skip {m d n i : Nat} {o : List Nat} {a : Nat} (h : QuIn m d n (i + 1) o a) (ha : a < d * 2 ^ i) : QuIn m d n i o a :=
 ⟨h.len, h.dgs, h.val, ha, fun k => Nat.dvd_trans (Nat.pow_dvd_pow 2 (by omega)) (h.dvd k)⟩

theorem QuIn.room {m d n i : Nat} {o : List Nat} {a : Nat} (h : QuIn m d n (i + 1) o a) : o.getD (i / 32) 0 + 2 ^ (i % 32) < b32 := by
 have h1 := h.dgs.getD b32_pos (i / 32)
 have h2 := h.dvd (i / 32)
 have e : i + 1 - 32 * (i / 32) = i % 32 + 1 := by omega
 rw [e] at h2
 generalize o.getD (i / 32) 0 = x at *
 have h3 : 2 ^ (i % 32 + 1) ∣ b32 := by rw [b32_pow]; exact Nat.pow_dvd_pow 2 (by omega)
 obtain ⟨c, rfl⟩ := h2
 obtain ⟨c2, hc2⟩ := h3
 rw [hc2] at h1 ⊢
 have h4 := Nat.lt_of_mul_lt_mul_left h1
 have h5 := Nat.mul_le_mul_left (2 ^ (i % 32 + 1)) h4
 have h6 : 2 ^ (i % 32 + 1) = 2 * 2 ^ (i % 32) := by rw [Nat.pow_succ]; omega
 have h7 := Nat.two_pow_pos (i % 32)
 rw [Nat.mul_succ] at h5
 omega

theorem QuIn.take {m d n i : Nat} {o : List Nat} {a : Nat} (h : QuIn m d n (i + 1) o a) (hi : i ≤ n) (ha : d * 2 ^ i ≤ a) (X : Nat) (hX : X = o.getD (i / 32) 0 + 2 ^ (i % 32)) :
  QuIn m d n i (o.set (i / 32) X) (a - d * 2 ^ i) := by
 have hlen : i / 32 < o.length := by rw [h.len]; have := Nat.div_le_div_right (c := 32) hi; omega
 have hroom := h.room
 refine ⟨by simpa using h.len, h.dgs.set _ _ (by omega), ?_, ?_, fun k => ?_⟩
 ·
  have h1 := lv_set b32 o (i / 32) X hlen
  have e : b32 ^ (i / 32) * X = b32 ^ (i / 32) * o.getD (i / 32) 0 + 2 ^ i := by
   rw [hX, Nat.mul_add, b32_pow32, ← Nat.pow_add, Nat.div_add_mod]
  rw [e] at h1
  have e2 : lv b32 (o.set (i / 32) X) = lv b32 o + 2 ^ i := by omega
  rw [e2, Nat.add_mul, Nat.mul_comm (2 ^ i) d]
  have := h.val
  omega
 ·
  have := h.lt
  rw [Nat.pow_succ, ← Nat.mul_assoc] at this
  omega
 ·
  by_cases hk : k = i / 32
  ·
   subst hk
   have e3 : (o.set (i / 32) X).getD (i / 32) 0 = X := by rw [List.getD_eq_getElem?_getD, List.getElem?_set_self hlen]; rfl
   rw [e3, hX]
   have e : i - 32 * (i / 32) = i % 32 := by omega
   rw [e]
   refine Nat.dvd_add (Nat.dvd_trans (Nat.pow_dvd_pow 2 ?_) (h.dvd (i / 32))) (Nat.dvd_refl _)
   omega
  ·
   have e3 : (o.set (i / 32) X).getD k 0 = o.getD k 0 := by
    rw [List.getD_eq_getElem?_getD, List.getElem?_set_ne (by omega), List.getD_eq_getElem?_getD]
   rw [e3]
   exact Nat.dvd_trans (Nat.pow_dvd_pow 2 (by omega)) (h.dvd k)

theorem QuIn.done {m d n : Nat} {o : List Nat} {a : Nat} (h : QuIn m d n 0 o a) : lv b32 o = m / d ∧ a = m % d := by
 have hl := h.lt
 rw [Nat.pow_zero, Nat.mul_one] at hl
 have hd : 0 < d := by omega
 rw [h.val]
 constructor
 ·
  rw [Nat.add_comm, Nat.add_mul_div_right _ _ hd, Nat.div_eq_of_lt hl, Nat.zero_add]
 ·
  rw [Nat.add_comm, Nat.add_mul_mod_self_right, Nat.mod_eq_of_lt hl]

theorem cmpN_ge {a b : Nat} (h : b ≤ a) : decide (cmpN a b ≥ 0) = true := by
 unfold cmpN
 rw [if_neg (by omega)]
 split <;> rfl
theorem cmpN_nge {a b : Nat} (h : ¬ b ≤ a) : decide (cmpN a b ≥ 0) = false := by
 unfold cmpN
 rw [if_pos (by omega)]
 rfl
end Go.Proofs.Ytnjpkfccncjkhaa

namespace Go.Proofs.Ytnjpkfccncjkhaa
open Go.RowKit

def sg (neg : Bool) (n : Nat) : Int := if neg then -(n : Int) else n
def mkQ (neg : Bool) (n d : Nat) : Rat := mkRat (sg neg n) d

theorem sg_natAbs (neg : Bool) (n : Nat) : (sg neg n).natAbs = n := by unfold sg; split <;> simp
theorem sg_zero (neg : Bool) : sg neg 0 = 0 := by unfold sg; split <;> simp
theorem sg_lt (neg : Bool) (n : Nat) (h : n ≠ 0) : decide (sg neg n < 0) = neg := by cases neg <;> simp [sg] <;> omega

theorem mkQ_num (neg : Bool) (n d : Nat) (hd : 0 < d) : (mkQ neg n d).num.natAbs = n / Nat.gcd n d := by
 unfold mkQ
 rw [Rat.num_mkRat, if_neg (by omega), sg_natAbs, Nat.gcd_comm]
 rw [Int.natAbs_ediv_of_dvd, sg_natAbs, Int.natAbs_natCast]
 refine Int.natAbs_dvd_natAbs.1 ?_
 rw [sg_natAbs, Int.natAbs_natCast]
 exact Nat.gcd_dvd_left n d

theorem mkQ_den (neg : Bool) (n d : Nat) (hd : 0 < d) : (mkQ neg n d).den = d / Nat.gcd n d := by
 unfold mkQ
 rw [Rat.den_mkRat, if_neg (by omega), sg_natAbs, Nat.gcd_comm]

theorem mkQ_zero (neg : Bool) (d : Nat) : mkQ neg 0 d = 0 := by unfold mkQ; rw [sg_zero]; simp

theorem mkQ_neg (neg : Bool) (n d : Nat) (hd : 0 < d) (hn : n ≠ 0) : decide ((mkQ neg n d).num < 0) = neg := by
 have hg : 0 < Nat.gcd n d := Nat.gcd_pos_of_pos_right n hd
 have e : (mkQ neg n d).num = sg neg n / (Nat.gcd n d : Nat) := by
  unfold mkQ
  rw [Rat.num_mkRat, if_neg (by omega), sg_natAbs, Nat.gcd_comm]
 have h2 : decide ((mkQ neg n d).num < 0) = decide (sg neg n < 0) := by
  rw [e, decide_eq_decide]
  generalize sg neg n = z
  constructor
  ·
   intro h
   rcases Int.lt_or_le z 0 with h1 | h1
   ·
    exact h1
   ·
    have := Int.ediv_nonneg h1 (show (0 : Int) ≤ (Nat.gcd n d : Nat) by omega); omega
  ·
   intro h
   exact Int.ediv_neg_of_neg_of_pos h (by omega)
 rw [h2, sg_lt neg n hn]

def dn (d : Nat) : Nat := if d = 1 then 0 else d

def IsRat (w : World) (v : Value) (q : Rat) : Prop :=
 ∃ vn vd, v = .agg #[.bool (decide (q.num < 0)), vn, vd] ∧ IsNat .u64 b64 w vn q.num.natAbs ∧ IsNat .u64 b64 w vd (dn q.den)

theorem IsRat.below {w w' : World} {v : Value} {q : Rat} (h : IsRat w v q) (hb : Below w.heap.size w w') : IsRat w' v q := by
 obtain ⟨vn, vd, rfl, h1, h2⟩ := h
 exact ⟨vn, vd, rfl, h1.below hb, h2.below hb⟩

def RetRat (q : Rat) (w : World) (e : Ending) (w' : World) : Prop := ∃ v, e = .returned v ∧ IsRat w' v q ∧ Below w.heap.size w w'

theorem IsRat.zero (w : World) : IsRat w (.agg #[.bool false, .slice none 0 0, .slice none 0 0]) 0 :=
 ⟨_, _, rfl, IsNat.zero _ _ _, IsNat.zero _ _ _⟩

def szR (q : Rat) (k : Nat) : Prop := (dig b64 q.num.natAbs).length ≤ k ∧ (dig b64 q.den).length ≤ k

theorem blk_cell {w : World} {B T : Nat} {cs : Array Value} (h : w.heap[B]? = some (.cells cs T (0, 0))) (j : Nat) (v : Value) (hv : cs[j]? = some v) : w.cell? ⟨B, j, none⟩ = some v := by
 rw [cell_of_row w B j cs T (0, 0) h]; exact hv
theorem blk_frozen {w : World} {B T : Nat} {cs : Array Value} (h : w.heap[B]? = some (.cells cs T (0, 0))) (j : Nat) : w.frozen? ⟨B, j, none⟩ = false := frozen_of_row w B j cs T h
theorem blk_new (w : World) (cs : Array Value) (T : Nat) : (w.alloc (.cells cs T)).heap[w.heap.size]? = some (.cells cs T (0, 0)) := heap_alloc_new w _
theorem blk_keep {w w' : World} {B T n : Nat} {cs : Array Value} (h : w.heap[B]? = some (.cells cs T (0, 0))) (hb : Below n w w') (hB : B < n) : w'.heap[B]? = some (.cells cs T (0, 0)) := by
 rw [hb.block B hB]; exact h
theorem blk_lt {w : World} {B : Nat} {o : Obj} (h : w.heap[B]? = some o) : B < w.heap.size := (Array.getElem?_eq_some_iff.1 h).1
theorem blk_set {w : World} {B T : Nat} {cs : Array Value} (h : w.heap[B]? = some (.cells cs T (0, 0))) (j : Nat) (v : Value) : (w.setCell ⟨B, j, none⟩ v).heap[B]? = some (.cells (cs.setIfInBounds j v) T (0, 0)) :=
 heap_setCell_same w B j cs T v h


def noInt (cs : Array Value) : Prop := ∀ (i : Nat) (k : IntKind) (x : Int), cs[i]? ≠ some (Value.int k x)
theorem IsRow.set_other {k : IntKind} {w : World} {v : Value} {ds : List Nat} {B T : Nat} {cs : Array Value} (h : IsRow k w v ds) (hB : w.heap[B]? = some (.cells cs T (0, 0))) (hn : noInt cs) (j : Nat) (u : Value) :
  IsRow k (w.setCell ⟨B, j, none⟩ u) v ds := by
 rcases h with h | ⟨h0, b, off, cap, rfl, h1, h2, h3, h4⟩
 ·
  exact .inl h
 ·
  have hne : b ≠ B := by
   rintro rfl
   have := h4 0 h0
   rw [cell_of_row w b (off + 0) cs T (0, 0) hB] at this
   exact hn _ _ _ this
  refine .inr ⟨h0, b, off, cap, rfl, h1, h2, by simpa [World.setCell] using h3, fun i hi => ?_⟩
  rw [← h4 i hi]
  exact World.cell?_of_block (w := w) (heap_setCell_other w ⟨B, j, none⟩ b u hne)
theorem noInt3 (b : Bool) (x y : Option Addr) (i j k l : Nat) : noInt #[.bool b, .slice x i j, .slice y k l] := by
 intro n k x
 match n with
 | 0 => simp
 | 1 => simp
 | 2 => simp
 | n + 3 => simp

theorem store3 {w : World} {B T : Nat} {b0 neg : Bool} {x0 y0 x1 y1 : Option Addr} {i0 j0 k0 l0 i1 j1 k1 l1 : Nat} {k : IntKind} {v : Value} {ds : List Nat}
  (hB : w.heap[B]? = some (.cells #[.bool b0, .slice x0 i0 j0, .slice y0 k0 l0] T (0, 0))) (h : IsRow k w v ds) :
  IsRow k (((w.setCell ⟨B, 0, none⟩ (.bool neg)).setCell ⟨B, 1, none⟩ (.slice x1 i1 j1)).setCell ⟨B, 2, none⟩ (.slice y1 k1 l1)) v ds := by
 have h1 := h.set_other hB (noInt3 b0 x0 y0 i0 j0 k0 l0) 0 (.bool neg)
 have hB1 := blk_set hB 0 (.bool neg)
 have h2 := h1.set_other hB1 (by exact noInt3 neg x0 y0 i0 j0 k0 l0) 1 (.slice x1 i1 j1)
 have hB2 := blk_set hB1 1 (.slice x1 i1 j1)
 exact h2.set_other hB2 (by exact noInt3 neg x1 y0 i1 j1 k0 l0) 2 (.slice y1 k1 l1)
theorem below_store3 {n : Nat} {w0 w : World} {B : Nat} {u0 u1 u2 : Value} (h : Below n w0 w) (hB : n ≤ B) :
  Below n w0 (((w.setCell ⟨B, 0, none⟩ u0).setCell ⟨B, 1, none⟩ u1).setCell ⟨B, 2, none⟩ u2) :=
 ((h.setCell (p := ⟨B, 0, none⟩) hB u0).setCell (p := ⟨B, 1, none⟩) hB u1).setCell (p := ⟨B, 2, none⟩) hB u2


theorem IsRat.opened {w : World} {v : Value} {q : Rat} (h : IsRat w v q) : ∃ a1 c1 a2 c2, v = .agg #[.bool (decide (q.num < 0)), .slice a1 (dig b64 q.num.natAbs).length c1, .slice a2 (dig b64 (dn q.den)).length c2] ∧
  IsNat .u64 b64 w (.slice a1 (dig b64 q.num.natAbs).length c1) q.num.natAbs ∧ IsNat .u64 b64 w (.slice a2 (dig b64 (dn q.den)).length c2) (dn q.den) := by
 obtain ⟨vn, vd, rfl, h1, h2⟩ := h
 have h1' := h1
 have h2' := h2
 obtain ⟨a1, c1, rfl, _⟩ := IsRow.opened h1
 obtain ⟨a2, c2, rfl, _⟩ := IsRow.opened h2
 exact ⟨a1, c1, a2, c2, rfl, h1', h2'⟩

def cmpR (x y : Rat) : Int := if x < y then -1 else if y < x then 1 else 0

def RetInt (n : Int) (w : World) (e : Ending) (w' : World) : Prop := e = .returned (.int .i64 n) ∧ Below w.heap.size w w'
def RetBool (b : Bool) (w : World) (e : Ending) (w' : World) : Prop := e = .returned (.bool b) ∧ Below w.heap.size w w'


end Go.Proofs.Ytnjpkfccncjkhaa

namespace Go.Proofs.Ytnjpkfccncjkhaa
open Go.RowKit

theorem lz64_any (x : Nat) (w : World) (hx : x < b64) (s : Nat) (hs : s + Lib.bitLen x = 64) :
  Calls Try.prog 66 #[.int .u64 x] w fun e w' => e = .returned (.int .i64 (s : Nat)) ∧ w = w' := by
 unfold b64 at hx
 refine (Try.bits_LeadingZeros64 x w (by omega) (by omega)).mono fun e w' ⟨h1, h2⟩ => ⟨?_, h2.symm⟩
 rw [h1, Int.toNat_natCast]
 congr 2
 omega


structure Nums (hi lo y s Y v1 v0 U M d1 d0 : Nat) : Prop where
 eY : Y = y * 2 ^ s
 eYd : Y = v1 * b32 + v0
 v1l : b32 ≤ 2 * v1
 v1u : v1 < b32
 v0u : v0 < b32
 eU : U = hi * 2 ^ s + lo / 2 ^ (64 - s)
 UY : U < Y
 eM : M = lo * 2 ^ s % b64
 eMd : M = d1 * b32 + d0
 d1u : d1 < b32
 d0u : d0 < b32
 all : U * (b32 * b32) + d1 * b32 + d0 = (hi * b64 + lo) * 2 ^ s

theorem wrapR {U d1 q1 Y R : Nat} (h : U * b32 + d1 = Y * q1 + R) (hR : R < Y) (hY : Y < b64) :
  IntKind.u64.wrap (IntKind.u64.wrap (IntKind.u64.wrap ((U : Int) * 4294967296) + d1) - IntKind.u64.wrap ((q1 : Int) * Y)) = (R : Int) := by
 simp only [IntKind.wrap_u64]
 unfold b32 at h
 unfold b64 at hY
 have h2 : ((Y * q1 : Nat) : Int) = (q1 : Int) * Y := by rw [Int.natCast_mul, Int.mul_comm]
 omega

theorem wrapQ {q1 q0 Q : Nat} (h : q1 * b32 + q0 = Q) (hQ : Q < b64) : IntKind.u64.wrap (IntKind.u64.wrap ((q1 : Int) * 4294967296) + q0) = (Q : Int) := by
 simp only [IntKind.wrap_u64]
 unfold b32 at h
 unfold b64 at hQ
 omega

theorem Nums.last {hi lo y s Y v1 v0 U M d1 d0 q1 R q0 R0 : Nat} (hn : Nums hi lo y s Y v1 v0 U M d1 d0) (hy : 0 < y) (h1 : q1 = (U * b32 + d1) / Y) (hR : R = (U * b32 + d1) % Y) (h0 : q0 = (R * b32 + d0) / Y) (hR0 : R0 = (R * b32 + d0) % Y) :
  q1 * b32 + q0 = (hi * b64 + lo) / y ∧ R0 / 2 ^ s = (hi * b64 + lo) % y := by
 have hp : 0 < 2 ^ s := Nat.two_pow_pos s
 have hY : 0 < Y := by rw [hn.eY]; exact Nat.mul_pos hy hp
 have h := two_halves hY hn.UY hn.d0u h1 hR h0
 rw [hn.all, hn.eY] at h
 rw [Nat.mul_div_mul_right _ _ hp, Nat.mul_mod_mul_right] at h
 refine ⟨h.1, ?_⟩
 rw [hR0, hn.eY, h.2, Nat.mul_div_cancel _ hp]

set_option maxRecDepth 100000 in
set_option maxHeartbeats 1000000 in
theorem div64_walk (hi lo y s Y v1 v0 U M d1 d0 H L : Nat) (w : World) (hs : s + Lib.bitLen y = 64) (hs1 : s ≤ 63) (hn : Nums hi lo y s Y v1 v0 U M d1 d0)
    (hy : y < b64) (hh : hi < y) (h0 : 0 < hi)
    (e1 : IntKind.u64.wrap ((y : Int) * 2 ^ s) = (Y : Int)) (e2 : (Y : Int) / 4294967296 = v1) (e3 : bits .and .u64 (Y : Int) 4294967295 = v0)
    (e4 : IntKind.u64.wrap ((hi : Int) * 2 ^ s) = (H : Int)) (e5 : (lo : Int) / 2 ^ (64 - s) = (L : Int)) (e6 : bits .or .u64 (H : Int) (L : Int) = (U : Int))
    (e7 : IntKind.u64.wrap ((lo : Int) * 2 ^ s) = (M : Int)) (e8 : (M : Int) / 4294967296 = d1) (e9 : bits .and .u64 (M : Int) 4294967295 = d0)
    (q r : Nat) (e10 : (U : Int) / v1 = q) (e11 : (U : Int) - q * v1 = r) (g1 : (q : Int) * v1 ≤ U) (g2 : (U : Int) ≤ 18446744073709551615) (g3 : 1 ≤ (v1 : Int)) (g4 : 0 ≤ (q : Int) * v1) (g5 : (q : Int) ≤ 4294967297) (G : Guess b32 v1 v0 U d1 q r) (hr : r ≤ 4294967295) (hY : Y < b64) (hlo : lo < b64) :
    Calls Try.prog 49 #[.int .u64 hi, .int .u64 lo, .int .u64 y] w fun e w' => e = .returned (.tuple #[.int .u64 ((hi * b64 + lo) / y : Nat), .int .u64 ((hi * b64 + lo) % y : Nat)]) ∧ Quiet w w' := by
  have c1 : ((y : Int) == 0) = false := by simp; omega
  have c2 : ((hi : Int) == 0) = false := by simp; omega
  have c3 : (hi : Int) < y := by omega
  have Hs := Lib.hid hs
  have Hy := Lib.hid hy
  have Hn := Lib.hid hn
  clear hs hy hn
  go_enter Try.func49, Try.ntmps49
  go_wp2_with fail
  refine (lz64_any y _ Hy.out s Hs.out).mono ?_
  rintro e w' ⟨rfl, rfl⟩
  have HG := Lib.hid G
  clear G
  go_upto_block 0 with (fail)
  have G5 : Hid (q ≤ 4294967297) := by show _ ≤ _; omega
  have G6 := Lib.hid hr
  have HY := Lib.hid hY
  have Hlo := Lib.hid hlo
  clear hlo
  clear hr hY
  clear e1 e2 e3 e4 e5 e6 e7 e8 e9 e10 e11 g1 g2 g4 g5
  have V0 := Lib.hid (show 0 < v1 * b32 + v0 by have := Hn.out.UY; rw [Hn.out.eYd] at this; omega)
  have b1 : (v1 : Int) ≤ 4294967295 := by have := Hn.out.v1u; unfold b32 at this; omega
  have b2 : (v0 : Int) ≤ 4294967295 := by have := Hn.out.v0u; unfold b32 at this; omega
  have b3 : (d1 : Int) ≤ 4294967295 := by have := Hn.out.d1u; unfold b32 at this; omega
  go_cut [15, 16] (fun qv rv wx => wx = w ∧ (∃ x, rv = x) ∧ qv = .int .u64 ((U * b32 + d1) / (v1 * b32 + v0) : Nat))
  case first =>
    go_wp2_with fail
    go_loop [15, 16] (fun qv rv => ∃ q r : Nat, qv = .int .u64 q ∧ rv = .int .u64 r ∧ r ≤ 4294967295 ∧ q ≤ 4294967297 ∧ Hid (Guess b32 v1 v0 U d1 q r)) (fun qv _ => (intOf qv).toNat)
    case atStart => exact ⟨q, r, rfl, rfl, G6.out, G5.out, HG.out⟩
    case round =>
      obtain ⟨q, r, rfl, rfl, hr, hq, hG⟩ := hrel
      by_cases t1 : (4294967296 : Int) ≤ q
      · have t1' : decide ((4294967296 : Int) ≤ q) = true := by simpa using t1
        have f := hG.out.less V0.out (by rw [← Hn.out.eYd]; exact Hn.out.UY) Hn.out.d1u (.inl (by unfold b32; omega))
        have f1 := f.1
        have F := Lib.hid f.2
        clear f t1
        by_cases t2 : (4294967296 : Int) ≤ (r : Int) + v1
        · have t2' : decide ((4294967296 : Int) ≤ (r : Int) + v1) = true := by simpa using t2
          have t2x := Lib.hid t2
          clear t2
          go_upto_region 20 with (fail)
          go_wp2_with fail
          go_meet
          case rel =>
            have hb := F.out.broke V0.out Hn.out.v0u (by have := F.out.hi; unfold b32 at *; have := t2x.out; omega) (by have := t2x.out; unfold b32; omega)
            exact ⟨rfl, ⟨_, rfl⟩, by rw [← hb]; go_num⟩
        · have t2' : decide ((4294967296 : Int) ≤ (r : Int) + v1) = false := by simpa using t2
          go_upto_region 20 with (fail)
          go_wp2_with fail
          exact ⟨⟨q - 1, r + v1, by go_num, by go_num, by omega, by omega, F.out⟩, by simp [intOf]; omega⟩
      · have t1' : decide ((4294967296 : Int) ≤ q) = false := by simpa using t1
        have m1 : (q : Int) * v0 ≤ 18446744073709551615 := by
          have : q * v0 ≤ 4294967295 * 4294967295 := Nat.mul_le_mul (by omega) (by omega)
          have : ((q * v0 : Nat) : Int) ≤ 18446744073709551615 := by omega
          rwa [Int.natCast_mul] at this
        have m2 : 0 ≤ (q : Int) * v0 := by rw [← Int.natCast_mul]; omega
        by_cases t3 : (4294967296 : Int) * r + d1 < (q : Int) * v0
        · have t3' : decide ((4294967296 : Int) * r + d1 < (q : Int) * v0) = true := by simpa using t3
          have T3 : b32 * r + d1 < q * v0 := by
            unfold b32
            have : ((q * v0 : Nat) : Int) = (q : Int) * v0 := Int.natCast_mul _ _
            omega
          have f := hG.out.less V0.out (by rw [← Hn.out.eYd]; exact Hn.out.UY) Hn.out.d1u (.inr T3)
          have f1 := f.1
          have F := Lib.hid f.2
          clear f t1 t3 T3
          by_cases t2 : (4294967296 : Int) ≤ (r : Int) + v1
          · have t2' : decide ((4294967296 : Int) ≤ (r : Int) + v1) = true := by simpa using t2
            have t2x := Lib.hid t2
            have hqx : Hid (q ≤ 4294967296) := by show _ ≤ _; have : ¬ ((4294967296 : Int) ≤ q) := by simpa using t1'
                                                  omega
            clear t2
            go_upto_region 20 with (fail)
            go_wp2_with fail
            go_meet
            case rel =>
              have hb := F.out.broke V0.out Hn.out.v0u (by have := hqx.out; unfold b32; omega) (by have := t2x.out; unfold b32; omega)
              exact ⟨rfl, ⟨_, rfl⟩, by rw [← hb]; go_num⟩
          · have t2' : decide ((4294967296 : Int) ≤ (r : Int) + v1) = false := by simpa using t2
            go_upto_region 20 with (fail)
            go_wp2_with fail
            exact ⟨⟨q - 1, r + v1, by go_num, by go_num, by omega, by omega, F.out⟩, by simp [intOf]; omega⟩
        · have t3' : decide ((4294967296 : Int) * r + d1 < (q : Int) * v0) = false := by simpa using t3
          have T3 : Hid (q * v0 ≤ b32 * r + d1) := by
            show q * v0 ≤ b32 * r + d1
            unfold b32
            have : ((q * v0 : Nat) : Int) = (q : Int) * v0 := Int.natCast_mul _ _
            omega
          clear t1 t3
          go_wp2_with fail
          go_meet
          case rel =>
            have hb := hG.out.done V0.out T3.out
            exact ⟨rfl, ⟨_, rfl⟩, by rw [← hb]⟩
  case rest =>
    obtain ⟨rfl, ⟨rv, rfl⟩, rfl⟩ := hcut
    rw [← Hn.out.eYd]
    obtain ⟨q1, hq1⟩ : ∃ q1, q1 = (U * b32 + d1) / Y := ⟨_, rfl⟩
    obtain ⟨R, hR⟩ : ∃ R, R = (U * b32 + d1) % Y := ⟨_, rfl⟩
    have hYp : 0 < Y := by rw [Hn.out.eYd]; exact V0.out
    have hRY : R < Y := by rw [hR]; exact Nat.mod_lt _ hYp
    have e12 := wrapR (U := U) (d1 := d1) (q1 := q1) (Y := Y) (R := R) (by rw [hq1, hR]; exact (Nat.div_add_mod _ _).symm) hRY HY.out
    obtain ⟨qq, hqq⟩ : ∃ qq, qq = R / v1 := ⟨_, rfl⟩
    obtain ⟨rr, hrr⟩ : ∃ rr, rr = R % v1 := ⟨_, rfl⟩
    have hv1p : 0 < v1 := by omega
    have hdm := Nat.div_add_mod R v1
    rw [← hqq, ← hrr] at hdm
    have hdm' : (v1 : Int) * qq + rr = R := by rw [← Int.natCast_mul]; omega
    have e13 : (R : Int) / v1 = qq := by rw [hqq]; rfl
    have e14 : (R : Int) - qq * v1 = rr := by rw [Int.mul_comm (qq : Int)]; omega
    have g6 : (qq : Int) * v1 ≤ R := by rw [Int.mul_comm (qq : Int)]; omega
    have g7 : (R : Int) ≤ 18446744073709551615 := by have := HY.out; unfold b64 at this; omega
    have g8 : 0 ≤ (qq : Int) * v1 := by rw [← Int.natCast_mul]; omega
    have G2 := Guess.first (b := b32) (v1 := v1) (v0 := v0) (u := R) (d := d0) b32_two Hn.out.v1l Hn.out.v0u (by rw [← Hn.out.eYd]; exact hRY) Hn.out.d0u
    rw [← hqq, ← hrr] at G2
    have g9 : (qq : Int) ≤ 4294967297 := by have := G2.hi; unfold b32 at this; omega
    have HG2 := Lib.hid G2
    have Hq1 := Lib.hid hq1
    have HR := Lib.hid hR
    have HRY := Lib.hid hRY
    have Hrr : Hid (rr ≤ 4294967295) := by
      show rr ≤ 4294967295
      have := Nat.mod_lt R hv1p
      have h2 := Hn.out.v1u
      unfold b32 at h2
      omega
    have G9 : Hid (qq ≤ 4294967297) := by show _ ≤ _; omega
    clear G2 hqq hrr hdm hdm' hR hYp hRY hv1p
    rw [← hq1]
    clear hq1
    go_upto_block 2 with (fail)
    clear e12 e13 e14 g6 g7 g8
    have b4 : (d0 : Int) ≤ 4294967295 := by have := Hn.out.d0u; unfold b32 at this; omega
    go_cut [18, 16] (fun qv rv wx => wx = wc ∧ (∃ x, rv = x) ∧ qv = .int .u64 ((R * b32 + d0) / (v1 * b32 + v0) : Nat))
    case first =>
      go_wp2_with fail
      go_loop [18, 16] (fun qv rv => ∃ q r : Nat, qv = .int .u64 q ∧ rv = .int .u64 r ∧ r ≤ 4294967295 ∧ q ≤ 4294967297 ∧ Hid (Guess b32 v1 v0 R d0 q r)) (fun qv _ => (intOf qv).toNat)
      case atStart => exact ⟨qq, rr, rfl, rfl, Hrr.out, G9.out, HG2.out⟩
      case round =>
        obtain ⟨q, r, rfl, rfl, hr, hq, hG⟩ := hrel
        by_cases t1 : (4294967296 : Int) ≤ q
        · have t1' : decide ((4294967296 : Int) ≤ q) = true := by simpa using t1
          have f := hG.out.less V0.out (by rw [← Hn.out.eYd]; exact HRY.out) Hn.out.d0u (.inl (by unfold b32; omega))
          have f1 := f.1
          have F := Lib.hid f.2
          clear f t1
          by_cases t2 : (4294967296 : Int) ≤ (r : Int) + v1
          · have t2' : decide ((4294967296 : Int) ≤ (r : Int) + v1) = true := by simpa using t2
            have t2x := Lib.hid t2
            clear t2
            go_upto_region 27 with (fail)
            go_wp2_with fail
            go_meet
            case rel =>
              have hb := F.out.broke V0.out Hn.out.v0u (by have := F.out.hi; unfold b32 at *; have := t2x.out; omega) (by have := t2x.out; unfold b32; omega)
              exact ⟨rfl, ⟨_, rfl⟩, by rw [← hb]; go_num⟩
          · have t2' : decide ((4294967296 : Int) ≤ (r : Int) + v1) = false := by simpa using t2
            go_upto_region 27 with (fail)
            go_wp2_with fail
            exact ⟨⟨q - 1, r + v1, by go_num, by go_num, by omega, by omega, F.out⟩, by simp [intOf]; omega⟩
        · have t1' : decide ((4294967296 : Int) ≤ q) = false := by simpa using t1
          have m1 : (q : Int) * v0 ≤ 18446744073709551615 := by
            have : q * v0 ≤ 4294967295 * 4294967295 := Nat.mul_le_mul (by omega) (by omega)
            have : ((q * v0 : Nat) : Int) ≤ 18446744073709551615 := by omega
            rwa [Int.natCast_mul] at this
          have m2 : 0 ≤ (q : Int) * v0 := by rw [← Int.natCast_mul]; omega
          by_cases t3 : (4294967296 : Int) * r + d0 < (q : Int) * v0
          · have t3' : decide ((4294967296 : Int) * r + d0 < (q : Int) * v0) = true := by simpa using t3
            have T3 : b32 * r + d0 < q * v0 := by
              unfold b32
              have : ((q * v0 : Nat) : Int) = (q : Int) * v0 := Int.natCast_mul _ _
              omega
            have f := hG.out.less V0.out (by rw [← Hn.out.eYd]; exact HRY.out) Hn.out.d0u (.inr T3)
            have f1 := f.1
            have F := Lib.hid f.2
            clear f t1 t3 T3
            by_cases t2 : (4294967296 : Int) ≤ (r : Int) + v1
            · have t2' : decide ((4294967296 : Int) ≤ (r : Int) + v1) = true := by simpa using t2
              have t2x := Lib.hid t2
              have hqx : Hid (q ≤ 4294967296) := by show _ ≤ _; have : ¬ ((4294967296 : Int) ≤ q) := by simpa using t1'
                                                    omega
              clear t2
              go_upto_region 27 with (fail)
              go_wp2_with fail
              go_meet
              case rel =>
                have hb := F.out.broke V0.out Hn.out.v0u (by have := hqx.out; unfold b32; omega) (by have := t2x.out; unfold b32; omega)
                exact ⟨rfl, ⟨_, rfl⟩, by rw [← hb]; go_num⟩
            · have t2' : decide ((4294967296 : Int) ≤ (r : Int) + v1) = false := by simpa using t2
              go_upto_region 27 with (fail)
              go_wp2_with fail
              exact ⟨⟨q - 1, r + v1, by go_num, by go_num, by omega, by omega, F.out⟩, by simp [intOf]; omega⟩
          · have t3' : decide ((4294967296 : Int) * r + d0 < (q : Int) * v0) = false := by simpa using t3
            have T3 : Hid (q * v0 ≤ b32 * r + d0) := by
              show q * v0 ≤ b32 * r + d0
              unfold b32
              have : ((q * v0 : Nat) : Int) = (q : Int) * v0 := Int.natCast_mul _ _
              omega
            clear t1 t3
            go_wp2_with fail
            go_meet
            case rel =>
              have hb := hG.out.done V0.out T3.out
              exact ⟨rfl, ⟨_, rfl⟩, by rw [← hb]⟩
    case rest =>
      obtain ⟨rfl, ⟨rv, rfl⟩, rfl⟩ := hcut
      rw [← Hn.out.eYd]
      obtain ⟨q0, hq0⟩ : ∃ q0, q0 = (R * b32 + d0) / Y := ⟨_, rfl⟩
      obtain ⟨R0, hR0⟩ : ∃ R0, R0 = (R * b32 + d0) % Y := ⟨_, rfl⟩
      have hYp : 0 < Y := by rw [Hn.out.eYd]; exact V0.out
      have hyp : 0 < y := by omega
      have hl := Hn.out.last hyp Hq1.out HR.out hq0 hR0
      have e15 := wrapR (U := R) (d1 := d0) (q1 := q0) (Y := Y) (R := R0) (by rw [hq0, hR0]; exact (Nat.div_add_mod _ _).symm) (by rw [hR0]; exact Nat.mod_lt _ hYp) HY.out
      have hQ : (hi * b64 + lo) / y < b64 := quo_lt hyp hh Hlo.out
      have e16 := wrapQ hl.1 hQ
      have e17 : (R0 : Int) / 2 ^ s = (((hi * b64 + lo) % y : Nat) : Int) := by
        have := hl.2
        rw [← this, Int.natCast_ediv]
        rfl
      obtain ⟨Q, hQq⟩ : ∃ Q, Q = (hi * b64 + lo) / y := ⟨_, rfl⟩
      obtain ⟨Rm, hRm⟩ : ∃ Rm, Rm = (hi * b64 + lo) % y := ⟨_, rfl⟩
      have HQ := Lib.hid hQq
      have HRm := Lib.hid hRm
      rw [← hQq] at e16
      rw [← hRm] at e17
      rw [← hq0]
      clear hQq hRm hl hQ hq0 hR0 hYp hyp
      go_wp2_with fail
      go_ret2
      refine ⟨?_, .refl _⟩
      rw [← HQ.out, ← HRm.out]
      rfl


theorem bits_or_nat (a b : Nat) (ha : a < b64) (hb : b < b64) : bits .or .u64 (a : Int) (b : Int) = ((a ||| b : Nat) : Int) := by
 unfold b64 at *
 have hx : a ||| b < 2 ^ 64 := Nat.or_lt_two_pow (by omega) (by omega)
 have h1 : (BitVec.ofInt 64 (a : Int)).toNat = a := by
  rw [BitVec.ofInt_natCast, BitVec.toNat_ofNat]; exact Nat.mod_eq_of_lt (by omega)
 have h2 : (BitVec.ofInt 64 (b : Int)).toNat = b := by
  rw [BitVec.ofInt_natCast, BitVec.toNat_ofNat]; exact Nat.mod_eq_of_lt (by omega)
 show IntKind.u64.wrap ((BitVec.ofInt 64 (a : Int) ||| BitVec.ofInt 64 (b : Int)).toNat : Int) = _
 rw [BitVec.toNat_or, h1, h2, IntKind.wrap_u64]
 omega

theorem bits_and_nat (a b : Nat) (ha : a < b64) (hb : b < b64) : bits .and .u64 (a : Int) (b : Int) = ((a &&& b : Nat) : Int) := by
 unfold b64 at *
 have hx : a &&& b ≤ a := Nat.and_le_left
 have h1 : (BitVec.ofInt 64 (a : Int)).toNat = a := by
  rw [BitVec.ofInt_natCast, BitVec.toNat_ofNat]; exact Nat.mod_eq_of_lt (by omega)
 have h2 : (BitVec.ofInt 64 (b : Int)).toNat = b := by
  rw [BitVec.ofInt_natCast, BitVec.toNat_ofNat]; exact Nat.mod_eq_of_lt (by omega)
 show IntKind.u64.wrap ((BitVec.ofInt 64 (a : Int) &&& BitVec.ofInt 64 (b : Int)).toNat : Int) = _
 rw [BitVec.toNat_and, h1, h2, IntKind.wrap_u64]
 omega

theorem bits_low32 (a : Nat) (ha : a < b64) : bits .and .u64 (a : Int) 4294967295 = ((a % 4294967296 : Nat) : Int) := by
 have := bits_and_nat a 4294967295 ha (by unfold b64; omega)
 have e : a &&& 4294967295 = a % 4294967296 := Nat.and_two_pow_sub_one_eq_mod a 32
 rw [e] at this
 exact this

theorem bitLenAux_spec : ∀ (f x : Nat), x < 2 ^ f → x < 2 ^ Lib.bitLenAux f x ∧ (x ≠ 0 → 1 ≤ Lib.bitLenAux f x ∧ 2 ^ (Lib.bitLenAux f x - 1) ≤ x) ∧ Lib.bitLenAux f x ≤ f := by
 intro f
 induction f with
 | zero => intro x hx; simp at hx; subst hx; simp [Lib.bitLenAux]
 | succ f ih =>
  intro x hx
  by_cases h0 : x = 0
  ·
   subst h0; simp [Lib.bitLenAux]
  ·
   have e : Lib.bitLenAux (f + 1) x = 1 + Lib.bitLenAux f (x / 2) := by simp [Lib.bitLenAux, h0]
   obtain ⟨h1, h2, h3⟩ := ih (x / 2) (by rw [Nat.pow_succ] at hx; omega)
   rw [e]
   refine ⟨by rw [Nat.add_comm, Nat.pow_succ]; omega, fun _ => ⟨by omega, ?_⟩, by omega⟩
   rw [Nat.add_comm, Nat.add_sub_cancel]
   by_cases hx2 : x / 2 = 0
   ·
    have : x = 1 := by omega
    subst this
    have : Lib.bitLenAux f 0 = 0 := by cases f <;> simp [Lib.bitLenAux]
    simp [this]
   ·
    obtain ⟨h4, h5⟩ := h2 hx2
    have e2 : 2 ^ Lib.bitLenAux f (x / 2) = 2 * 2 ^ (Lib.bitLenAux f (x / 2) - 1) := by
     rw [← Nat.pow_succ']; congr 1; omega
    rw [e2]; omega

theorem bitLen_spec64 (x : Nat) (hx : x < b64) : x < 2 ^ Lib.bitLen x ∧ (x ≠ 0 → 1 ≤ Lib.bitLen x ∧ 2 ^ (Lib.bitLen x - 1) ≤ x) ∧ Lib.bitLen x ≤ 64 :=
 bitLenAux_spec 64 x (by rw [b64_pow] at hx; exact hx)

theorem div64_nums (hi lo y s : Nat) (hs : s + Lib.bitLen y = 64) (hs1 : s ≤ 63) (hy : y < b64) (hy0 : y ≠ 0) (hlo : lo < b64) (hh : hi < y) :
  ∃ Y v1 v0 U M d1 d0 : Nat, Nums hi lo y s Y v1 v0 U M d1 d0 ∧ Y < b64 ∧ hi * 2 ^ s < b64 ∧ v1 = Y / b32 ∧ v0 = Y % b32 ∧ d1 = M / b32 ∧ d0 = M % b32 := by
 obtain ⟨k1, k2, _⟩ := bitLen_spec64 y hy
 obtain ⟨k3, k4⟩ := k2 hy0
 have hp : 0 < 2 ^ s := Nat.two_pow_pos s
 have e64 : b64 = 2 ^ s * 2 ^ Lib.bitLen y := by rw [b64_pow, ← Nat.pow_add, hs]
 have e64' : b64 = 2 ^ s * 2 ^ (64 - s) := by rw [b64_pow, ← Nat.pow_add]; congr 1; omega
 have hYlt : y * 2 ^ s < b64 := by rw [e64, Nat.mul_comm]; exact Nat.mul_lt_mul_of_pos_left k1 hp
 have hYge : b64 ≤ 2 * (y * 2 ^ s) := by
  have : 2 ^ Lib.bitLen y = 2 * 2 ^ (Lib.bitLen y - 1) := by rw [← Nat.pow_succ']; congr 1; omega
  rw [e64, this]
  have h := Nat.mul_le_mul_left (2 ^ s) k4
  have e : 2 ^ s * (2 * 2 ^ (Lib.bitLen y - 1)) = 2 * (2 ^ s * 2 ^ (Lib.bitLen y - 1)) := by ac_rfl
  rw [e, Nat.mul_comm y]
  omega
 have hlo2 : lo / 2 ^ (64 - s) < 2 ^ s := by
  rw [Nat.div_lt_iff_lt_mul (Nat.two_pow_pos _), ← e64']; exact hlo
 have hUY : hi * 2 ^ s + lo / 2 ^ (64 - s) < y * 2 ^ s := by
  have : (hi + 1) * 2 ^ s ≤ y * 2 ^ s := Nat.mul_le_mul_right _ hh
  rw [Nat.add_mul, Nat.one_mul] at this
  omega
 have hM : lo * 2 ^ s % b64 = (lo % 2 ^ (64 - s)) * 2 ^ s := by
  rw [e64', Nat.mul_comm (2 ^ s) (2 ^ (64 - s)), Nat.mul_mod_mul_right]
 refine ⟨y * 2 ^ s, y * 2 ^ s / b32, y * 2 ^ s % b32, hi * 2 ^ s + lo / 2 ^ (64 - s), lo * 2 ^ s % b64, lo * 2 ^ s % b64 / b32, lo * 2 ^ s % b64 % b32, ?_, hYlt, Nat.lt_of_le_of_lt (Nat.le_add_right _ _) (Nat.lt_trans hUY hYlt), rfl, rfl, rfl, rfl⟩
 have hsq := b64_sq
 refine ⟨rfl, by rw [Nat.mul_comm (y * 2 ^ s / b32)]; exact (Nat.div_add_mod _ _).symm, ?_, ?_, Nat.mod_lt _ b32_pos, rfl, hUY, rfl, by rw [Nat.mul_comm (lo * 2 ^ s % b64 / b32)]; exact (Nat.div_add_mod _ _).symm, ?_, Nat.mod_lt _ b32_pos, ?_⟩
 ·
  unfold b64 b32 at *; omega
 ·
  rw [Nat.div_lt_iff_lt_mul b32_pos, ← hsq]; exact hYlt
 ·
  rw [Nat.div_lt_iff_lt_mul b32_pos, ← hsq]; exact Nat.mod_lt _ b64_pos
 ·
  have h1 : lo * 2 ^ s % b64 / b32 * b32 + lo * 2 ^ s % b64 % b32 = lo * 2 ^ s % b64 := by rw [Nat.mul_comm (lo * 2 ^ s % b64 / b32)]; exact Nat.div_add_mod _ _
  rw [Nat.add_assoc, h1, hM, ← hsq, Nat.add_mul]
  have h2 := Nat.div_add_mod lo (2 ^ (64 - s))
  have h3 : lo / 2 ^ (64 - s) * b64 + lo % 2 ^ (64 - s) * 2 ^ s = lo * 2 ^ s := by
   have : lo * 2 ^ s = (2 ^ (64 - s) * (lo / 2 ^ (64 - s)) + lo % 2 ^ (64 - s)) * 2 ^ s := by rw [h2]
   rw [this, Nat.add_mul, e64']
   have e5 : lo / 2 ^ (64 - s) * (2 ^ s * 2 ^ (64 - s)) = 2 ^ (64 - s) * (lo / 2 ^ (64 - s)) * 2 ^ s := by ac_rfl
   rw [e5]
  rw [Nat.add_mul, Nat.add_assoc, h3]
  have e6 : hi * 2 ^ s * b64 = hi * b64 * 2 ^ s := by ac_rfl
  rw [e6]

set_option maxRecDepth 100000 in
set_option maxHeartbeats 1000000 in
theorem div64_any (hi lo y : Nat) (w : World) (hy : y < b64) (hlo : lo < b64) (hh : hi < y) :
  Calls Try.prog 49 #[.int .u64 hi, .int .u64 lo, .int .u64 y] w fun e w' => e = .returned (.tuple #[.int .u64 ((hi * b64 + lo) / y : Nat), .int .u64 ((hi * b64 + lo) % y : Nat)]) ∧ Quiet w w' := by
 rcases Nat.eq_zero_or_pos hi with h0 | h0
 ·
  subst h0
  have c1 : ((y : Int) == 0) = false := by simp; omega
  have c3 : (0 : Int) < y := by omega
  have c4 : ¬ (y : Int) ≤ 0 := by omega
  have hq : lo / y < b64 := Nat.lt_of_le_of_lt (Nat.div_le_self _ _) hlo
  have g1 : (lo : Int) ≤ 18446744073709551615 := by unfold b64 at hlo; omega
  have e1 : IntKind.u64.wrap ((lo : Int) / y) = ((lo / y : Nat) : Int) := by
   rw [IntKind.wrap_u64, ← Int.natCast_ediv]
   generalize lo / y = z at *
   unfold b64 at hq
   omega
  obtain ⟨q, hqq⟩ : ∃ q, q = lo / y := ⟨_, rfl⟩
  obtain ⟨r, hrr⟩ : ∃ r, r = lo % y := ⟨_, rfl⟩
  have e2 : (lo : Int) % y = (r : Int) := by rw [hrr]; rfl
  rw [← hqq] at e1
  have e3 : (0 * b64 + lo) / y = q := by rw [hqq, Nat.zero_mul, Nat.zero_add]
  have e4 : (0 * b64 + lo) % y = r := by rw [hrr, Nat.zero_mul, Nat.zero_add]
  rw [e3, e4]
  clear e3 e4 hqq hrr hq hlo hy
  go_enter Try.func49, Try.ntmps49
  go_wp2_with fail
  go_quiet (fail)
  go_wp2_with fail
  go_ret2
  refine ⟨?_, _, rfl⟩
  rw [← e2]
  rfl
 ·
  obtain ⟨k1, k2, k5⟩ := bitLen_spec64 y hy
  obtain ⟨k3, k4⟩ := k2 (by omega)
  obtain ⟨Y, v1, v0, U, M, d1, d0, hn, hY, hH, rv1, rv0, rd1, rd0⟩ := div64_nums hi lo y (64 - Lib.bitLen y) (by omega) (by omega) hy (by omega) hlo hh
  generalize hse : 64 - Lib.bitLen y = s at *
  have hp : 0 < 2 ^ s := Nat.two_pow_pos s
  have hUb : U < b64 := Nat.lt_trans hn.UY hY
  have hLb : lo / 2 ^ (64 - s) < 2 ^ s := by
   have e64' : b64 = 2 ^ s * 2 ^ (64 - s) := by rw [b64_pow, ← Nat.pow_add]; congr 1; omega
   rw [Nat.div_lt_iff_lt_mul (Nat.two_pow_pos _), ← e64']; exact hlo
  have hG := Guess.first (b := b32) (v1 := v1) (v0 := v0) (u := U) (d := d1) b32_two hn.v1l hn.v0u (by rw [← hn.eYd]; exact hn.UY) hn.d1u
  have hv1p : 0 < v1 := by have := hn.v1l; unfold b32 at this; omega
  have hdm := Nat.div_add_mod U v1
  have hMb : M < b64 := by rw [hn.eM]; exact Nat.mod_lt _ b64_pos
  refine div64_walk hi lo y s Y v1 v0 U M d1 d0 (hi * 2 ^ s) (lo / 2 ^ (64 - s)) w (by omega) (by omega) hn hy hh h0 ?_ ?_ ?_ ?_ ?_ ?_ ?_ ?_ ?_ (U / v1) (U % v1) ?_ ?_ ?_ ?_ ?_ ?_ ?_ hG ?_ hY hlo
  ·
   rw [IntKind.wrap_u64, hn.eY]
   have e : ((y * 2 ^ s : Nat) : Int) = (y : Int) * 2 ^ s := by simp
   rw [← e]
   rw [hn.eY] at hY
   unfold b64 at hY
   omega
  ·
   rw [rv1]; unfold b32; simp
  ·
   rw [bits_low32 Y hY, rv0]; unfold b32; rfl
  ·
   rw [IntKind.wrap_u64]
   have e : ((hi * 2 ^ s : Nat) : Int) = (hi : Int) * 2 ^ s := by simp
   rw [← e]
   unfold b64 at hH
   omega
  ·
   simp
  ·
   rw [bits_or_nat _ _ hH (by rw [hn.eU] at hUb; omega), or_disjoint _ _ _ hLb, ← hn.eU]
  ·
   rw [IntKind.wrap_u64, hn.eM]
   unfold b64
   simp
  ·
   rw [rd1]; unfold b32; simp
  ·
   rw [bits_low32 M hMb, rd0]; unfold b32; rfl
  ·
   simp
  ·
   have : (v1 : Int) * ((U / v1 : Nat) : Int) + ((U % v1 : Nat) : Int) = U := by rw [← Int.natCast_mul]; omega
   rw [Int.mul_comm]; omega
  ·
   rw [← Int.natCast_mul, Nat.mul_comm]; omega
  ·
   unfold b64 at hUb; omega
  ·
   omega
  ·
   rw [← Int.natCast_mul]; omega
  ·
   have := hG.hi; unfold b32 at this; omega
  ·
   have h1 := Nat.mod_lt U hv1p
   have h2 := hn.v1u
   unfold b32 at h2
   omega


theorem div64_named (hi lo y : Nat) (w : World) (hy : y < b64) (hlo : lo < b64) (hh : hi < y) :
  Calls Try.prog 49 #[.int .u64 hi, .int .u64 lo, .int .u64 y] w fun e w' => e = .returned (.tuple #[.int .u64 (divQ hi lo y : Nat), .int .u64 (divR hi lo y : Nat)]) ∧ Quiet w w' :=
 div64_any hi lo y w hy hlo hh

end Go.Proofs.Ytnjpkfccncjkhaa

namespace Go.Proofs.Ytnjpkfccncjkhaa
open Go.RowKit

structure ByIn (a : List Nat) (d j : Nat) (o : List Nat) (r : Nat) : Prop where
 len : o.length = a.length
 dgs : Dgs b64 o
 rem : r < d
 val : lv b64 (a.drop j) = lv b64 (o.drop j) * d + r
 low : ∀ i, i < j → o.getD i 0 = 0

theorem ByIn.start (a : List Nat) (d : Nat) (hd : 0 < d) : ByIn a d a.length (List.replicate a.length 0) 0 :=
 ⟨by simp, Dgs.replicate b64_pos _, hd, by simp [lv], fun i _ => by simp [List.getElem?_replicate]; split <;> rfl⟩

theorem divQ_lt (hi lo y : Nat) (hy : 0 < y) (hlo : lo < b64) (hh : hi < y) : divQ hi lo y < b64 := quo_lt hy hh hlo

theorem ByIn.step {a : List Nat} {d j : Nat} {o : List Nat} {r : Nat} (h : ByIn a d (j + 1) o r) (ha : Dgs b64 a) (hj : j < a.length) :
  ByIn a d j (o.set j (divQ r (a.getD j 0) d)) (divR r (a.getD j 0) d) := by
 have hd : 0 < d := by have := h.rem; omega
 have hx := ha.getD b64_pos j
 refine ⟨by simpa using h.len, h.dgs.set _ _ (divQ_lt _ _ _ hd hx h.rem), Nat.mod_lt _ hd, ?_, fun i hi => ?_⟩
 ·
  have h1 : (o.set j (divQ r (a.getD j 0) d)).drop j = divQ r (a.getD j 0) d :: o.drop (j + 1) := by
   rw [List.drop_eq_getElem_cons (by simp [h.len]; exact hj)]
   simp [List.drop_set]
  rw [h1, List.drop_eq_getElem_cons hj, lv_cons, lv_cons, h.val]
  have hg : a.getD j 0 = a[j] := by simp [hj]
  rw [← hg]
  have e := Nat.div_add_mod (r * b64 + a.getD j 0) d
  have e2 : d * divQ r (a.getD j 0) d + divR r (a.getD j 0) d = r * b64 + a.getD j 0 := e
  rw [Nat.mul_add, Nat.add_mul]
  have e3 : b64 * lv b64 (o.drop (j + 1)) * d = b64 * (lv b64 (o.drop (j + 1)) * d) := Nat.mul_assoc _ _ _
  have e4 : divQ r (a.getD j 0) d * d = d * divQ r (a.getD j 0) d := Nat.mul_comm _ _
  have e5 : b64 * r = r * b64 := Nat.mul_comm _ _
  omega
 ·
  have := h.low i (by omega)
  rw [List.getD_eq_getElem?_getD] at *
  rw [List.getElem?_set_ne (by omega)]
  exact this

theorem ByIn.done {a : List Nat} {d : Nat} {o : List Nat} {r : Nat} (h : ByIn a d 0 o r) : lv b64 o = lv b64 a / d ∧ r = lv b64 a % d := by
 have hd : 0 < d := by have := h.rem; omega
 have hv := h.val
 simp only [List.drop_zero] at hv
 rw [hv]
 constructor
 ·
  rw [Nat.add_comm, Nat.add_mul_div_right _ _ hd, Nat.div_eq_of_lt h.rem, Nat.zero_add]
 ·
  rw [Nat.add_comm, Nat.add_mul_mod_self_right, Nat.mod_eq_of_lt h.rem]

def RetNatWord (q r : Nat) (w : World) (e : Ending) (w' : World) : Prop :=
 ∃ v, e = .returned (.tuple #[v, .int .u64 (r : Nat)]) ∧ IsNat .u64 b64 w' v q ∧ Below w.heap.size w w'

set_option maxRecDepth 100000 in
set_option maxHeartbeats 1000000 in
theorem byWord_any (m d : Nat) (va : Value) (w : World) (ha : IsNat .u64 b64 w va m) (hsz : (dig b64 m).length ≤ 1099511627776) (hd0 : 0 < d) (hd1 : d < b64) :
  Calls Try.prog 31 #[va, .int .u64 d] w (RetNatWord (m / d) (m % d) w) := by
 obtain ⟨aa, ca, rfl, hA⟩ := IsRow.opened ha
 have hda := dgs_dig b64_two m
 have Hva := Lib.hid (lv_dig b64_two m)
 clear ha
 generalize dig b64 m = da at *
 obtain ⟨i0, hi, hz0, hz1, hz2⟩ := info_parts info_u64
 have Hd := Lib.hid hd1
 clear hd1
 go_enter Try.func31, Try.ntmps31
 go_wp2_with (at_make; refine wpList_make_full _ rfl _ _ 43 rfl w.heap.size 80 i0 (.int .u64 0) 1 Try.underlying43 hi hz0 hz1 _ _ _ _ da.length rfl rfl (by omega) (by omega) (by rw [hz2]; omega) (by unfold maxLen; omega) (by omega) ?_)
 intro w1 hown hgrow
 have ho := Own.of_made hown
 have hbel := (Below.refl w.heap.size w).grown hgrow (Nat.le_refl _) (by simp)
 clear hown hgrow hi hz0 hz1 hz2
 go_wp2_with fail
 go_loopw [7, 8] (fun rv jv wr => ∃ (j : Nat) (o : List Nat) (r : Nat), j ≤ da.length ∧ jv = .int .i64 ((j : Int) - 1) ∧ rv = .int .u64 r ∧ Own wr w.heap.size .u64 80 o ∧ Hid (ByIn da d j o r) ∧ Below w.heap.size w wr)
  (fun _ jv _ => ((intOf jv) + 1).toNat)
 case atStart => exact ⟨da.length, _, 0, Nat.le_refl _, by go_num, rfl, ho, ByIn.start da d hd0, hbel⟩
 case round =>
  clear ho hbel
  obtain ⟨j, o, r, hj, rfl, rfl, ho, hB, hbel⟩ := hrel
  rcases Nat.eq_zero_or_pos j with rfl | hjp
  ·
   have hlen := Lib.hid hB.out.len
   go_wp2_with fail
   have hrow := ho.isRow (by unfold maxLen; rw [hlen.out]; omega)
   rw [hlen.out] at hrow
   refine (cut_any o _ _ hrow hB.out.dgs).mono ?_
   rintro e w' ⟨v, rfl, hv, rfl⟩
   go_wp2_with fail
   go_ret2
   have hdn := hB.out.done
   rw [Hva.out] at hdn
   rw [← hdn.1, ← hdn.2]
   exact ⟨v, rfl, hv, hbel⟩
  ·
   obtain ⟨i, rfl⟩ : ∃ i, j = i + 1 := ⟨j - 1, by omega⟩
   obtain ⟨b, off, rfl, hbA, hcA⟩ := hA (by omega)
   have hca : wr.cell? ⟨b, off + i, none⟩ = some (.int .u64 (da.getD i 0 : Nat)) := (hbel.cell (p := ⟨b, off + i, none⟩) hbA).trans (hcA i (by omega))
   have hco := ho.cell i (by rw [hB.out.len]; omega)
   have hfo := ho.frozen i
   have Hx : Hid (da.getD i 0 < b64) := hda.getD b64_pos i
   obtain ⟨x, hx⟩ : ∃ x, x = da.getD i 0 := ⟨_, rfl⟩
   rw [← hx] at hca Hx
   have HX := Lib.hid hx
   clear hx
   have e1 : ((i + 1 : Nat) : Int) - 1 = (i : Int) := by omega
   rw [e1]
   have hi1 : (i : Int) < da.length := by omega
   go_wp2_with fail
   refine (div64_named r x d _ Hd.out Hx.out hB.out.rem).mono ?_
   rintro e w' ⟨rfl, nq, rfl⟩
   go_wp2_with fail
   refine ⟨⟨i, _, divR r x d, by omega, rfl, rfl, (ho.drewN nq).store _ _, ?_, (below_dn hbel nq).setCell (p := ⟨w.heap.size, i, none⟩) (Nat.le_refl _) _⟩, by simp [intOf]⟩
   rw [HX.out]
   exact hB.out.step hda (by omega)

end Go.Proofs.Ytnjpkfccncjkhaa

namespace Go.Proofs.Ytnjpkfccncjkhaa
open Go.RowKit

structure ScIn (v : List Nat) (q k : Nat) (o : List Nat) (c : Nat) : Prop where
 len : o.length = v.length + 1
 dgs : Dgs b64 o
 car : c < b64
 val : lv b64 o + c * b64 ^ k = lv b64 (v.take k) * q
 top : ∀ j, k ≤ j → o.getD j 0 = 0

theorem sc_step (x q c : Nat) (hx : x < b64) (hq : q < b64) (hc : c < b64) :
  addLo (mulLo x q) c 0 + b64 * (mulHi x q + addHi (mulLo x q) c 0) = x * q + c ∧ mulHi x q + addHi (mulLo x q) c 0 < b64 := by
 have h := mul_step 0 c x q b64_pos hc hx hq
 have e1 : addLo (mulLo x q) 0 0 = mulLo x q := by unfold addLo; simp; exact Nat.mod_eq_of_lt (mulLo_lt x q)
 have e2 : addHi (mulLo x q) 0 0 = 0 := by unfold addHi; simp; exact .inr (mulLo_lt x q)
 rw [e1, e2] at h
 simp only [Nat.add_zero] at h
 exact ⟨h.1, h.2.1⟩

theorem ScIn.start (v : List Nat) (q : Nat) : ScIn v q 0 (List.replicate (v.length + 1) 0) 0 :=
 ⟨by simp, Dgs.replicate b64_pos _, b64_pos, by simp [lv_replicate, lv], fun j _ => by simp [List.getElem?_replicate]; split <;> rfl⟩

theorem ScIn.step {v : List Nat} {q k : Nat} {o : List Nat} {c : Nat} (h : ScIn v q k o c) (hv : Dgs b64 v) (hq : q < b64) (hk : k < v.length) :
  ScIn v q (k + 1) (o.set k (addLo (mulLo (v.getD k 0) q) c 0)) (mulHi (v.getD k 0) q + addHi (mulLo (v.getD k 0) q) c 0) := by
 have hs := sc_step (v.getD k 0) q c (hv.getD b64_pos k) hq h.car
 refine ⟨by simpa using h.len, h.dgs.set _ _ (addLo_lt _ _ _), hs.2, ?_, fun j hj => ?_⟩
 ·
  have h1 := lv_set b64 o k (addLo (mulLo (v.getD k 0) q) c 0) (by rw [h.len]; omega)
  rw [h.top k (Nat.le_refl _)] at h1
  have h2 := h.val
  have e0 : (lv b64 (v.take k) + b64 ^ k * v.getD k 0) * q = lv b64 (v.take k) * q + b64 ^ k * v.getD k 0 * q := Nat.add_mul _ _ _
  rw [lv_take_succ b64 v k hk, e0, ← h2, Nat.pow_succ]
  have e1 : (mulHi (v.getD k 0) q + addHi (mulLo (v.getD k 0) q) c 0) * (b64 ^ k * b64) = b64 ^ k * (b64 * (mulHi (v.getD k 0) q + addHi (mulLo (v.getD k 0) q) c 0)) := by ac_rfl
  have e2 : b64 ^ k * v.getD k 0 * q = b64 ^ k * (v.getD k 0 * q) := Nat.mul_assoc _ _ _
  have e3 : c * b64 ^ k = b64 ^ k * c := Nat.mul_comm _ _
  have e4 : b64 ^ k * (addLo (mulLo (v.getD k 0) q) c 0 + b64 * (mulHi (v.getD k 0) q + addHi (mulLo (v.getD k 0) q) c 0)) = b64 ^ k * (v.getD k 0 * q + c) := by rw [hs.1]
  rw [e1, e2, e3]
  rw [Nat.mul_add (b64 ^ k), Nat.mul_add (b64 ^ k)] at e4
  omega
 ·
  have := h.top j (by omega)
  rw [List.getD_eq_getElem?_getD] at *
  rw [List.getElem?_set_ne (by omega)]
  exact this

theorem ScIn.done {v : List Nat} {q : Nat} {o : List Nat} {c : Nat} (h : ScIn v q v.length o c) : lv b64 (o.set v.length c) = lv b64 v * q ∧ Dgs b64 (o.set v.length c) := by
 refine ⟨?_, h.dgs.set _ _ h.car⟩
 have h1 := lv_set b64 o v.length c (by rw [h.len]; omega)
 rw [h.top _ (Nat.le_refl _)] at h1
 have h2 := h.val
 rw [List.take_length] at h2
 have : c * b64 ^ v.length = b64 ^ v.length * c := Nat.mul_comm _ _
 omega

structure DfIn (u p : List Nat) (i : Nat) (x : List Nat) (b : Nat) : Prop where
 len : x.length = i
 dgs : Dgs b64 x
 bor : b ≤ 1
 val : lv b64 x + lv b64 (p.take i) = lv b64 (u.take i) + b * b64 ^ i

theorem sub_eq_any (B x y b : Nat) (hx : x < B) (hy : y < B) (hb : b ≤ 1) : (B + x - y - b) % B + y + b = x + B * (if x < y + b then 1 else 0) := by
 by_cases h : x < y + b
 ·
  rw [if_pos h, Nat.mul_one]
  rw [Nat.mod_eq_of_lt (by omega)]
  omega
 ·
  rw [if_neg h, Nat.mul_zero]
  have : B + x - y - b = (x - y - b) + B := by omega
  rw [this, Nat.add_mod_right, Nat.mod_eq_of_lt (by omega)]
  omega

theorem sub_eq (x y b : Nat) (hx : x < b64) (hy : y < b64) (hb : b ≤ 1) : subLo x y b + y + b = x + b64 * subHi x y b := by
 unfold subLo subHi
 generalize b64 = B at *
 exact sub_eq_any B x y b hx hy hb

theorem DfIn.start (u p : List Nat) : DfIn u p 0 [] 0 := ⟨rfl, Dgs.nil _, by omega, by simp [lv]⟩

theorem DfIn.step {u p : List Nat} {i : Nat} {x : List Nat} {b : Nat} (h : DfIn u p i x b) (hu : Dgs b64 u) (hp : Dgs b64 p) (hlen : u.length = p.length) (hi : i < u.length) :
  DfIn u p (i + 1) (x ++ [subLo (u.getD i 0) (p.getD i 0) b]) (subHi (u.getD i 0) (p.getD i 0) b) := by
 refine ⟨by simp [h.len], h.dgs.append (Dgs.cons (subLo_lt _ _ _) (Dgs.nil _)), subHi_le _ _ _, ?_⟩
 have e := sub_eq (u.getD i 0) (p.getD i 0) b (hu.getD b64_pos i) (hp.getD b64_pos i) h.bor
 rw [lv_append, lv_take_succ b64 p i (by omega), lv_take_succ b64 u i hi, h.len, Nat.pow_succ]
 have h1 := h.val
 have e1 : lv b64 [subLo (u.getD i 0) (p.getD i 0) b] = subLo (u.getD i 0) (p.getD i 0) b := by simp [lv]
 rw [e1]
 have e2 : b64 ^ i * (subLo (u.getD i 0) (p.getD i 0) b + p.getD i 0 + b) = b64 ^ i * (u.getD i 0 + b64 * subHi (u.getD i 0) (p.getD i 0) b) := by rw [e]
 simp only [Nat.mul_add] at e2
 have e3 : subHi (u.getD i 0) (p.getD i 0) b * (b64 ^ i * b64) = b64 ^ i * (b64 * subHi (u.getD i 0) (p.getD i 0) b) := by ac_rfl
 have e4 : b * b64 ^ i = b64 ^ i * b := Nat.mul_comm _ _
 rw [e3]
 omega

theorem DfIn.done {u p : List Nat} {x : List Nat} {b : Nat} (h : DfIn u p u.length x b) (hlen : u.length = p.length) (hle : lv b64 p ≤ lv b64 u) : lv b64 x = lv b64 u - lv b64 p := by
 have h1 := h.val
 rw [List.take_length, hlen, List.take_length] at h1
 have h2 := lv_lt h.dgs
 rw [h.len, hlen] at h2
 have hb : b = 0 := by
  rcases Nat.eq_zero_or_pos b with h0 | h0
  ·
   exact h0
  ·
   have : b64 ^ p.length ≤ b * b64 ^ p.length := Nat.le_mul_of_pos_left _ h0
   omega
 subst hb
 omega

theorem set_mid (pre x : List Nat) (u : List Nat) (i : Nat) (post : List Nat) (hx : x.length = i) (hi : i < u.length) (y : Nat) :
  (pre ++ (x ++ u.drop i) ++ post).set (pre.length + i) y = pre ++ ((x ++ [y]) ++ u.drop (i + 1)) ++ post := by
 subst hx
 have e : u.drop x.length = u[x.length] :: u.drop (x.length + 1) := List.drop_eq_getElem_cons hi
 rw [e]
 generalize u.drop (x.length + 1) = t
 rw [List.append_assoc, List.set_append_right _ _ (by omega), Nat.add_sub_cancel_left, List.append_assoc, List.set_append_right _ _ (by omega), Nat.sub_self]
 simp

theorem getD_mid (pre x : List Nat) (u : List Nat) (i : Nat) (post : List Nat) (hx : x.length = i) (hi : i < u.length) :
  (pre ++ (x ++ u.drop i) ++ post).getD (pre.length + i) 0 = u.getD i 0 := by
 subst hx
 have e : u.drop x.length = u[x.length] :: u.drop (x.length + 1) := List.drop_eq_getElem_cons hi
 rw [e]
 generalize u.drop (x.length + 1) = t
 have e2 : u.getD x.length 0 = u[x.length] := by simp [hi]
 rw [e2, List.append_assoc, List.getD_eq_getElem?_getD, List.getElem?_append_right (by omega), Nat.add_sub_cancel_left, List.append_assoc, List.getElem?_append_right (by omega), Nat.sub_self]
 rfl

def RetMid (w : World) (bu : Nat) (e : TypeId) (pre : List Nat) (val : Nat) (n : Nat) (post : List Nat) (r : Value) (en : Ending) (w' : World) : Prop :=
 ∃ u', en = .returned r ∧ u'.length = n ∧ Dgs b64 u' ∧ lv b64 u' = val ∧ Own w' bu .u64 e (pre ++ u' ++ post) ∧ w.grownBy w' (some bu)

theorem grownBy_trans {w a b : World} {row : Option Nat} (h : w.grownBy a row) (k : a.grownBy b row) : w.grownBy b row :=
 ⟨k.os.trans h.os, k.tape.trans h.tape, k.output.trans h.output, Nat.le_trans h.size k.size, fun i hi hne => (k.block i (Nat.lt_of_lt_of_le hi h.size) hne).trans (h.block i hi hne)⟩
theorem grownBy_below {w a : World} (h : Below w.heap.size w a) (row : Option Nat) : w.grownBy a row :=
 ⟨h.os, h.tape, h.output, h.size, fun i hi _ => h.block i hi⟩
theorem grownBy_set {w a : World} {g : Nat} (h : w.grownBy a (some g)) (j : Nat) (v : Value) : w.grownBy (a.setCell ⟨g, j, none⟩ v) (some g) :=
 grownBy_trans h ⟨rfl, rfl, rfl, by simp, fun k _ hk => heap_setCell_other a ⟨g, j, none⟩ k v (fun e => hk (by simp [e]))⟩
theorem grownBy_dn {w a : World} {row : Option Nat} (h : w.grownBy a row) (n : Nat) : w.grownBy (a.drewN n) row := ⟨h.os, h.tape, h.output, h.size, h.block⟩
theorem grownBy_dr {w a : World} {row : Option Nat} (h : w.grownBy a row) : w.grownBy a.drew row := ⟨h.os, h.tape, h.output, h.size, h.block⟩

end Go.Proofs.Ytnjpkfccncjkhaa

namespace Go.Proofs.Ytnjpkfccncjkhaa
open Go.RowKit

theorem mid_row {w : World} {g : Nat} {e : TypeId} {pre u post : List Nat} (h : Own w g .u64 e (pre ++ u ++ post)) (cap : Nat) (h1 : u.length ≤ cap) (h2 : cap ≤ maxLen) (h0 : 0 < u.length) :
  IsRow .u64 w (.slice (some ⟨g, pre.length, none⟩) u.length cap) u := by
 refine .inr ⟨h0, g, pre.length, cap, rfl, h1, h2, h.lt, fun j hj => ?_⟩
 rw [h.cell (pre.length + j) (by simp; omega)]
 congr 2
 have : (pre ++ u ++ post).getD (pre.length + j) 0 = u.getD j 0 := by
  simp [List.getElem?_append_right, List.getElem?_append_left, hj]
 rw [this]

def tkOk (a b : Nat) : Bool := decide (a ≤ b)
def tkVal (a b : Nat) : Nat := if a ≤ b then b - a else b

set_option maxRecDepth 100000 in
set_option maxHeartbeats 2000000 in
theorem take_any (pre u post dv : List Nat) (bu capu bv offv capv q : Nat) (w : World) (hown : Own w bu .u64 80 (pre ++ u ++ post))
  (hlen : u.length = dv.length + 1) (hu : Dgs b64 u) (hv : Dgs b64 dv) (hq : q < b64) (hcap : u.length ≤ capu) (hcap2 : capu ≤ maxLen) (hne : bv ≠ bu) (hbv : bv < w.heap.size)
  (hcv : ∀ j, j < dv.length → w.cell? ⟨bv, offv + j, none⟩ = some (.int .u64 (dv.getD j 0 : Nat))) (hsz : dv.length ≤ 1099511627776) (hsz2 : pre.length ≤ 1099511627776) :
  Calls Try.prog 78 #[.slice (some ⟨bu, pre.length, none⟩) (dv.length + 1) capu, .slice (some ⟨bv, offv, none⟩) dv.length capv, .int .u64 q] w
   (RetMid w bu 80 pre (tkVal (lv b64 dv * q) (lv b64 u)) (dv.length + 1) post (.bool (tkOk (lv b64 dv * q) (lv b64 u)))) := by
 have Hcap := Lib.hid hcap
 have Hcap2 := Lib.hid hcap2
 have Hq := Lib.hid hq
 have Hown := Lib.hid hown
 have hbul := hown.lt
 clear hcap hcap2 hq hown
 obtain ⟨i0, hi, hz0, hz1, hz2⟩ := info_parts info_u64
 have Hlen := Lib.hid hlen
 clear hlen
 go_enter Try.func78, Try.ntmps78
 go_wp2_with (at_make; refine wpList_make_full _ rfl _ _ 43 rfl w.heap.size 80 i0 (.int .u64 0) 1 Try.underlying43 hi hz0 hz1 _ _ _ _ (dv.length + 1) rfl rfl (by omega) (by omega) (by rw [hz2]; omega) (by unfold maxLen; omega) (by omega) ?_)
 intro w1 hwn hgrow
 have ho := Own.of_made hwn
 have hbel := (Below.refl w.heap.size w).grown hgrow (Nat.le_refl _) (by simp)
 clear hwn hgrow hi hz0 hz1 hz2
 go_wp2_with fail
 go_loopw [8, 22] (fun cv kv wr => ∃ (k : Nat) (o : List Nat) (c : Nat), k ≤ dv.length ∧ kv = .int .i64 k ∧ cv = .int .u64 c ∧ Own wr w.heap.size .u64 80 o ∧ Hid (ScIn dv q k o c) ∧ Below w.heap.size w wr)
  (fun _ kv _ => dv.length - (intOf kv).toNat)
 case atStart => exact ⟨0, _, 0, Nat.zero_le _, rfl, rfl, ho, ScIn.start dv q, hbel⟩
 case round =>
  clear ho hbel
  obtain ⟨k, o, c, hkl, rfl, rfl, ho, hM, hbel⟩ := hrel
  by_cases hlt : k < dv.length
  ·
   have hca : wr.cell? ⟨bv, offv + k, none⟩ = some (.int .u64 (dv.getD k 0 : Nat)) := (hbel.cell (p := ⟨bv, offv + k, none⟩) hbv).trans (hcv k hlt)
   have hco := ho.cell k (by rw [hM.out.len]; omega)
   have hfo := ho.frozen k
   have Hstep := Lib.hid (hM.out.step hv Hq.out hlt)
   have hss := sc_step (dv.getD k 0) q c (hv.getD b64_pos k) Hq.out hM.out.car
   have Hx : Hid (dv.getD k 0 < b64) := hv.getD b64_pos k
   obtain ⟨x, hx⟩ : ∃ x, x = dv.getD k 0 := ⟨_, rfl⟩
   rw [← hx] at hca Hx hss
   have HX := Lib.hid hx
   clear hx
   have hb1 := hss.2
   unfold b64 at hb1
   clear hss
   have hadd := run_Add64_0
   go_wp2_with fail
   refine (mul64_any x q _ Hx.out Hq.out).mono ?_
   rintro e w' ⟨rfl, rfl⟩
   go_wp2_with fail
   refine ⟨⟨k + 1, _, mulHi x q + addHi (mulLo x q) c 0, by omega, by go_num, by go_num, ho.store _ _, ?_, hbel.setCell (p := ⟨w.heap.size, k, none⟩) (Nat.le_refl _) _⟩, meas_up hlt⟩
   rw [HX.out]
   exact Hstep.out
  ·
   obtain rfl : k = dv.length := by omega
   clear hlt hkl
   have hco := ho.cell dv.length (by rw [hM.out.len]; omega)
   have hfo := ho.frozen dv.length
   have hdn := hM.out.done
   have hol : (o.set dv.length c).length = dv.length + 1 := by simp [hM.out.len]
   have ho2 := ho.store dv.length c
   have hbel2 := hbel.setCell (p := ⟨w.heap.size, dv.length, none⟩) (Nat.le_refl _) (.int .u64 c)
   have Ho2 := Lib.hid ho2
   have Hbel2 := Lib.hid hbel2
   have Hdn := Lib.hid hdn
   have Hol := Lib.hid hol
   clear ho2 hbel2 hdn hol ho hbel hM
   go_wp2_with fail
   generalize wr.setCell ⟨w.heap.size, dv.length, none⟩ (.int .u64 (c : Nat)) = W at *
   have hB := Hbel2.out
   have hoU : Own W bu .u64 80 (pre ++ u ++ post) := Hown.out.below hB hbul
   have hoP := Ho2.out
   generalize o.set dv.length c = p at *
   have hrU := mid_row hoU capu Hcap.out Hcap2.out (by rw [Hlen.out]; omega)
   rw [Hlen.out] at hrU
   have hrP := hoP.isRow (by unfold maxLen; rw [Hol.out]; omega)
   rw [Hol.out] at hrP
   clear hco hfo Ho2 Hbel2
   refine (cut_any u _ _ hrU hu).mono ?_
   rintro e w' ⟨vU, rfl, hvU, rfl⟩
   go_wp2_with fail
   refine (cut_any p _ _ hrP Hdn.out.2).mono ?_
   rintro e w' ⟨vP, rfl, hvP, rfl⟩
   go_wp2_with fail
   refine (cmp_any _ _ _ _ _ hvU hvP).mono ?_
   rintro e w' ⟨rfl, nq, rfl⟩
   rw [Hdn.out.1]
   by_cases hle : lv b64 dv * q ≤ lv b64 u
   ·
    have Hle := Lib.hid hle
    have hcm : ¬ cmpN (lv b64 u) (lv b64 dv * q) < 0 := by unfold cmpN; split <;> (try split) <;> omega
    have hok : tkOk (lv b64 dv * q) (lv b64 u) = true := by simp [tkOk, hle]
    have hval : tkVal (lv b64 dv * q) (lv b64 u) = lv b64 u - lv b64 dv * q := by simp [tkVal, hle]
    have Hok := Lib.hid hok
    have Hval := Lib.hid hval
    generalize cmpN (lv b64 u) (lv b64 dv * q) = cm at *
    clear hle hok hval hvU hvP hrU hrP
    have HB := Lib.hid hB
    clear hB
    go_wp2_with fail
    go_loopw [14, 59] (fun bv' kv wr => ∃ (k : Nat) (x : List Nat) (b : Nat), k ≤ dv.length + 1 ∧ kv = .int .i64 k ∧ bv' = .int .u64 b ∧ Own wr bu .u64 80 (pre ++ (x ++ u.drop k) ++ post) ∧
      Own wr w.heap.size .u64 80 p ∧ Hid (DfIn u p k x b) ∧ w.grownBy wr (some bu))
     (fun _ kv _ => dv.length + 1 - (intOf kv).toNat)
    case atStart => exact ⟨0, [], 0, Nat.zero_le _, rfl, rfl, by simpa using hoU.drewN nq, hoP.drewN nq, DfIn.start u p, grownBy_dn (grownBy_below HB.out _) _⟩
    case round =>
     clear hoU hoP HB
     obtain ⟨k, x, b, hkl, rfl, rfl, hoU, hoP, hD, hgr⟩ := hrel
     by_cases hlt : k < dv.length + 1
     ·
      have hku : k < u.length := by rw [Hlen.out]; exact hlt
      have hlen1 : pre.length + k < (pre ++ (x ++ u.drop k) ++ post).length := by simp [hD.out.len]; omega
      have hcu := hoU.cell (pre.length + k) hlen1
      rw [getD_mid pre x u k post hD.out.len hku] at hcu
      have hfu := hoU.frozen (pre.length + k)
      have hcp := hoP.cell k (by rw [Hol.out]; exact hlt)
      have Hstep := Lib.hid (hD.out.step hu Hdn.out.2 (by rw [Hlen.out, Hol.out]) hku)
      have hbor := hD.out.bor
      obtain ⟨y, hy⟩ : ∃ y, y = u.getD k 0 := ⟨_, rfl⟩
      obtain ⟨z, hz⟩ : ∃ z, z = p.getD k 0 := ⟨_, rfl⟩
      rw [← hy] at hcu
      rw [← hz] at hcp
      have HY := Lib.hid hy
      have HZ := Lib.hid hz
      clear hy hz hlen1 hku
      have hsub := fun (W : World) => run_Sub64 y z b hbor W
      go_wp2_with fail
      go_region
      go_wp2_with fail
      refine ⟨⟨k + 1, x ++ [subLo y z b], subHi y z b, by omega, by go_num, by go_num, ?_, ?_, ?_, grownBy_dr (grownBy_set hgr _ _)⟩, meas_up hlt⟩
      ·
       have := (hoU.store (pre.length + k) (subLo y z b)).drew
       rw [set_mid pre x u k post hD.out.len (by rw [Hlen.out]; exact hlt)] at this
       exact this
      ·
       exact (hoP.other (a := ⟨bu, pre.length + k, none⟩) (by show bu ≠ w.heap.size; omega) _).drew
      ·
       rw [HY.out, HZ.out]; exact Hstep.out
     ·
      obtain rfl : k = dv.length + 1 := by omega
      go_wp2_with fail
      go_ret
      have hd := hD.out
      rw [← Hlen.out] at hd
      have hfin := hd.done (by rw [Hlen.out, Hol.out]) (by rw [Hdn.out.1]; exact Hle.out)
      rw [Hdn.out.1] at hfin
      refine ⟨x, by rw [Hok.out]; rfl, by rw [hd.len, Hlen.out], hd.dgs, by rw [Hval.out]; exact hfin, ?_, hgr⟩
      rw [List.drop_of_length_le (by rw [Hlen.out]; exact Nat.le_refl _), List.append_nil] at hoU
      exact hoU
   ·
    have hcm : cmpN (lv b64 u) (lv b64 dv * q) < 0 := by
     have : lv b64 u < lv b64 dv * q := by omega
     unfold cmpN; rw [if_pos this]; omega
    have hok : tkOk (lv b64 dv * q) (lv b64 u) = false := by simp [tkOk]; omega
    have hval : tkVal (lv b64 dv * q) (lv b64 u) = lv b64 u := by simp [tkVal, hle]
    have Hok := Lib.hid hok
    have Hval := Lib.hid hval
    generalize cmpN (lv b64 u) (lv b64 dv * q) = cm at *
    clear hle hok hval hvU hvP hrU hrP
    have HB := Lib.hid hB
    clear hB
    go_wp2_with fail
    go_ret
    exact ⟨u, by rw [Hok.out]; rfl, Hlen.out, hu, by rw [Hval.out], hoU.drewN nq, grownBy_dn (grownBy_below HB.out _) _⟩

end Go.Proofs.Ytnjpkfccncjkhaa

namespace Go.Proofs.Ytnjpkfccncjkhaa
open Go.RowKit

structure DigNums (u v : List Nat) (un u1 u2 v1 v2 : Nat) : Prop where
 lo : ∃ c, lv b64 u = ((un * b64 + u1) * b64 + u2) * b64 ^ (v.length - 2) + c ∧ c < b64 ^ (v.length - 2)
 hi : ∃ d, lv b64 v = (v1 * b64 + v2) * b64 ^ (v.length - 2) + d

theorem lv_top (ds : List Nat) (k : Nat) (hk : k < ds.length) : lv b64 (ds.take (k + 1)) = ds.getD k 0 * b64 ^ k + lv b64 (ds.take k) := by
 rw [lv_take_succ b64 ds k hk, Nat.mul_comm (b64 ^ k), Nat.add_comm]

theorem digNums (u v : List Nat) (hv2 : 2 ≤ v.length) (hlen : u.length = v.length + 1) (hu : Dgs b64 u) :
  DigNums u v (u.getD v.length 0) (u.getD (v.length - 1) 0) (u.getD (v.length - 2) 0) (v.getD (v.length - 1) 0) (v.getD (v.length - 2) 0) := by
 obtain ⟨n, hn⟩ : ∃ n, v.length = n + 2 := ⟨v.length - 2, by omega⟩
 have e1 : v.length - 1 = n + 1 := by omega
 have e2 : v.length - 2 = n := by omega
 constructor
 ·
  refine ⟨lv b64 (u.take n), ?_, ?_⟩
  ·
   have hful : lv b64 u = lv b64 (u.take (n + 2 + 1)) := by rw [List.take_of_length_le (by omega)]
   rw [e1, e2, hn, hful, lv_top u (n + 2) (by omega), lv_top u (n + 1) (by omega), lv_top u n (by omega)]
   rw [Nat.add_mul, Nat.add_mul, Nat.add_mul, Nat.pow_succ, Nat.pow_succ]
   have f1 : u.getD (n + 2) 0 * (b64 ^ n * b64 * b64) = u.getD (n + 2) 0 * b64 * b64 * b64 ^ n := by ac_rfl
   have f2 : u.getD (n + 1) 0 * (b64 ^ n * b64) = u.getD (n + 1) 0 * b64 * b64 ^ n := by ac_rfl
   rw [f1, f2]
   omega
  ·
   have := lv_lt (hu.take n)
   have e : (u.take n).length = n := by simp; omega
   rw [e] at this
   rw [e2]; exact this
 ·
  refine ⟨lv b64 (v.take n), ?_⟩
  have hful : lv b64 v = lv b64 (v.take (n + 1 + 1)) := by rw [List.take_of_length_le (by omega)]
  rw [e1, e2, hful, lv_top v (n + 1) (by omega), lv_top v n (by omega)]
  rw [Nat.add_mul, Nat.pow_succ]
  have f2 : v.getD (n + 1) 0 * (b64 ^ n * b64) = v.getD (n + 1) 0 * b64 * b64 ^ n := by ac_rfl
  rw [f2]
  omega

theorem quo_top {U V a b P c d Q : Nat} (hU : U = a * P + c) (hc : c < P) (hV : V = b * P + d) (hQ : Q * V ≤ U) : Q * b ≤ a := by
 have h1 : Q * b * P ≤ Q * V := by rw [hV, Nat.mul_add, Nat.mul_assoc]; omega
 have h2 : Q * b * P < (a + 1) * P := by rw [Nat.add_mul, Nat.one_mul]; omega
 have := Nat.lt_of_mul_lt_mul_right h2
 omega

theorem DigNums.three {u v : List Nat} {un u1 u2 v1 v2 Q : Nat} (h : DigNums u v un u1 u2 v1 v2) (hQ : Q * lv b64 v ≤ lv b64 u) : Q * (v1 * b64 + v2) ≤ (un * b64 + u1) * b64 + u2 := by
 obtain ⟨c, e1, hc⟩ := h.lo
 obtain ⟨d, e2⟩ := h.hi
 exact quo_top e1 hc e2 hQ

theorem DigNums.two {u v : List Nat} {un u1 u2 v1 v2 Q : Nat} (h : DigNums u v un u1 u2 v1 v2) (hu2 : u2 < b64) (hQ : Q * lv b64 v ≤ lv b64 u) : Q * v1 ≤ un * b64 + u1 :=
 quo_top (U := (un * b64 + u1) * b64 + u2) (V := v1 * b64 + v2) rfl hu2 rfl (h.three hQ)

structure Gs (un u1 v1 Q x r : Nat) : Prop where
 eq : x * v1 + r = un * b64 + u1
 le : Q ≤ x
 lt : x < b64

theorem Gs.first {un u1 v1 Q : Nat} (hv : un < v1) (hu1 : u1 < b64) (hQ : Q * v1 ≤ un * b64 + u1) : Gs un u1 v1 Q (divQ un u1 v1) (divR un u1 v1) := by
 have hp : 0 < v1 := by omega
 refine ⟨by unfold divQ divR; rw [Nat.mul_comm]; exact Nat.div_add_mod _ _, ?_, divQ_lt _ _ _ hp hu1 hv⟩
 unfold divQ
 rw [Nat.le_div_iff_mul_le hp]
 exact hQ

theorem Gs.less {un u1 u2 v1 v2 Q x r : Nat} (h : Gs un u1 v1 Q x r) (hQ : Q * (v1 * b64 + v2) ≤ (un * b64 + u1) * b64 + u2) (ht : r * b64 + u2 < x * v2) : 1 ≤ x ∧ Gs un u1 v1 Q (x - 1) (r + v1) := by
 have hlt : Q < x := by
  rcases Nat.lt_or_ge Q x with h' | h'
  ·
   exact h'
  ·
   have h1 : x * (v1 * b64 + v2) ≤ Q * (v1 * b64 + v2) := Nat.mul_le_mul_right _ h'
   have h2 : x * (v1 * b64 + v2) = x * v1 * b64 + x * v2 := by rw [Nat.mul_add, Nat.mul_assoc]
   have h3 : (un * b64 + u1) * b64 = x * v1 * b64 + r * b64 := by rw [← h.eq, Nat.add_mul]
   omega
 have h1 : 1 ≤ x := by omega
 refine ⟨h1, ?_, by omega, by have := h.lt; omega⟩
 obtain ⟨y, rfl⟩ : ∃ y, x = y + 1 := ⟨x - 1, by omega⟩
 have := h.eq
 rw [Nat.add_mul, Nat.one_mul] at this
 simp only [Nat.add_sub_cancel]
 omega

theorem mul_gt {x y hi lo r u2 : Nat} (hhi : hi = mulHi x y) (hlo : lo = mulLo x y) (h : r < hi ∨ hi = r ∧ u2 < lo) (hu2 : u2 < b64) : r * b64 + u2 < x * y := by
 have e := mul_eq x y
 rw [← hhi, ← hlo] at e
 rcases h with h | ⟨h1, h2⟩
 ·
  have : (r + 1) * b64 ≤ hi * b64 := Nat.mul_le_mul_right _ h
  rw [Nat.add_mul, Nat.one_mul, Nat.mul_comm hi] at this
  omega
 ·
  subst h1
  have : b64 * hi = hi * b64 := Nat.mul_comm _ _
  omega

set_option maxRecDepth 100000 in
set_option maxHeartbeats 4000000 in
theorem digit_any (pre u post dv : List Nat) (bu capu bv offv capv : Nat) (w : World) (hown : Own w bu .u64 80 (pre ++ u ++ post))
  (hlen : u.length = dv.length + 1) (hu : Dgs b64 u) (hv : Dgs b64 dv) (h2 : 2 ≤ dv.length) (hpos : 0 < lv b64 dv) (hQ : lv b64 u / lv b64 dv < b64) (hcap : u.length ≤ capu) (hcap2 : capu ≤ maxLen) (hne : bv ≠ bu) (hbv : bv < w.heap.size)
  (hcv : ∀ j, j < dv.length → w.cell? ⟨bv, offv + j, none⟩ = some (.int .u64 (dv.getD j 0 : Nat))) (hsz : dv.length ≤ 1099511627776) (hsz2 : pre.length ≤ 1099511627776) :
  Calls Try.prog 74 #[.slice (some ⟨bu, pre.length, none⟩) (dv.length + 1) capu, .slice (some ⟨bv, offv, none⟩) dv.length capv] w
   (RetMid w bu 80 pre (lv b64 u % lv b64 dv) (dv.length + 1) post (.int .u64 (lv b64 u / lv b64 dv : Nat))) := by
 have hbul := hown.lt
 have hrd : ∀ j, j < u.length → w.cell? ⟨bu, pre.length + j, none⟩ = some (.int .u64 (u.getD j 0 : Nat)) := fun j hj => by
  rw [hown.cell (pre.length + j) (by simp; omega)]
  congr 2
  have : (pre ++ u ++ post).getD (pre.length + j) 0 = u.getD j 0 := by
   simp [List.getElem?_append_right, List.getElem?_append_left, hj]
  rw [this]
 have hn := digNums u dv h2 hlen hu
 have c0 := hrd dv.length (by omega)
 have c1 := hrd (dv.length - 1) (by omega)
 have c2 := hrd (dv.length - 2) (by omega)
 have d1 := hcv (dv.length - 1) (by omega)
 have d2 := hcv (dv.length - 2) (by omega)
 have l0 := hu.getD b64_pos dv.length
 have l1 := hu.getD b64_pos (dv.length - 1)
 have l2 := hu.getD b64_pos (dv.length - 2)
 have k1 := hv.getD b64_pos (dv.length - 1)
 have k2 := hv.getD b64_pos (dv.length - 2)
 generalize u.getD dv.length 0 = un at *
 generalize u.getD (dv.length - 1) 0 = u1 at *
 generalize u.getD (dv.length - 2) 0 = u2 at *
 generalize dv.getD (dv.length - 1) 0 = v1 at *
 generalize dv.getD (dv.length - 2) 0 = v2 at *
 have hQm : lv b64 u / lv b64 dv * lv b64 dv ≤ lv b64 u := Nat.div_mul_le_self _ _
 obtain ⟨Q, hQe⟩ : ∃ Q, Q = lv b64 u / lv b64 dv := ⟨_, rfl⟩
 rw [← hQe] at hQ hQm
 have H3 := Lib.hid (hn.three hQm)
 have H2 := Lib.hid (hn.two l2 hQm)
 have HQe := Lib.hid hQe
 have HQ := Lib.hid hQ
 have Hcap := Lib.hid hcap
 have Hcap2 := Lib.hid hcap2
 have Hown := Lib.hid hown
 have Hlen := Lib.hid hlen
 have L0 := Lib.hid l0
 have L1 := Lib.hid l1
 have L2 := Lib.hid l2
 have K1 := Lib.hid k1
 have K2 := Lib.hid k2
 have Hcv := Lib.hid hcv
 clear hcap hcap2 hown hrd hn hQm hQe hQ l0 l1 l2 k1 k2 hcv hlen
 rw [← HQe.out]
 have i1 : (dv.length : Int) - 1 < dv.length := by omega
 have i2 : (0 : Int) ≤ (dv.length : Int) - 2 := by omega
 go_enter Try.func74, Try.ntmps74
 go_upto_region 3 with (fail)
 go_quiet (fail)
 go_upto_if 22 with (fail)
 go_cut [6] (fun g wx => ∃ x : Nat, g = .int .u64 x ∧ Hid (Q ≤ x) ∧ Hid (x < b64) ∧ Quiet w wx)
 case first =>
  by_cases t : un < v1
  ·
   have t' : decide (un < v1) = true := by simpa using t
   have T := Lib.hid t
   clear t
   rw [t']
   clear t'
   go_upto_region 5 with (fail)
   go_quiet ((go_at_call 49; exact quiet_at (div64_named un u1 v1 _ K1.out L1.out T.out)))
   go_upto_block 0 with (fail)
   go_wp2_with fail
   go_loopw [6, 7] (fun xv rv wr => ∃ x r : Nat, xv = .int .u64 x ∧ rv = .int .u64 r ∧ Hid (r < b64) ∧ Hid (Gs un u1 v1 Q x r) ∧ Quiet w wr) (fun xv _ _ => (intOf xv).toNat)
   case atStart => exact ⟨_, _, rfl, rfl, by show divR un u1 v1 < b64; exact Nat.lt_trans (Nat.mod_lt _ (by have := T.out; omega)) K1.out, Gs.first T.out L1.out H2.out, Quiet.step ⟨_, rfl⟩ _⟩
   case round =>
    obtain ⟨x, r, rfl, rfl, hr, hG, nw, rfl⟩ := hrel
    have hadd := run_Add64_0
    go_wp2_with fail
    refine (mul64_any x v2 _ hG.out.lt K2.out).mono ?_
    rintro e w' ⟨rfl, rfl⟩
    by_cases q1 : mulHi x v2 < r
    ·
     have q1' : decide (mulHi x v2 < r) = true := by simpa using q1
     go_wp2_with fail
     go_meet
     case rel => exact ⟨x, rfl, hG.out.le, hG.out.lt, _, rfl⟩
    ·
     have q1' : decide (mulHi x v2 < r) = false := by simpa using q1
     by_cases q2 : mulHi x v2 = r ∧ mulLo x v2 ≤ u2
     ·
      obtain ⟨q2, q3⟩ := q2
      have q2' : ((mulHi x v2 : Nat) : Int) = (r : Int) := by omega
      have q3' : decide (mulLo x v2 ≤ u2) = true := by simpa using q3
      have Q2 := Lib.hid q2
      have q4 : (((mulHi x v2 : Nat) : Int) == (r : Int)) = true := by simp [q2]
      clear q2 q2'
      go_wp2_with fail
      go_meet
      case rel => exact ⟨x, rfl, hG.out.le, hG.out.lt, _, rfl⟩
     ·
      have hgt : r * b64 + u2 < x * v2 := mul_gt rfl rfl (by omega) L2.out
      have hl := hG.out.less H3.out hgt
      have hl1 := hl.1
      have HL := Lib.hid hl.2
      clear hgt hl
      have hxb : (x : Int) ≤ 18446744073709551615 := by have := hG.out.lt; unfold b64 at this; omega
      by_cases e : mulHi x v2 = r
      ·
       have q4 : (((mulHi x v2 : Nat) : Int) == (r : Int)) = true := by simp [e]
       have q3' : decide (mulLo x v2 ≤ u2) = false := by simp; omega
       clear e q1 q2
       by_cases ho : 0 < addHi r v1 0
       ·
        have ho' : decide (0 < addHi r v1 0) = true := by simpa using ho
        clear ho
        go_wp2_with fail
        go_meet
        case rel => exact ⟨x - 1, by go_num, HL.out.le, HL.out.lt, _, rfl⟩
       ·
        have ho' : decide (0 < addHi r v1 0) = false := by simpa using ho
        have Hsum : Hid (addLo r v1 0 = r + v1) := by
         have := add_eq r v1 0
         have h0 : addHi r v1 0 = 0 := by omega
         rw [h0] at this
         show addLo r v1 0 = r + v1
         omega
        clear ho
        go_wp2_with fail
        refine ⟨⟨x - 1, addLo r v1 0, by go_num, rfl, addLo_lt _ _ _, ?_, _, rfl⟩, by simp [intOf]; omega⟩
        rw [Hsum.out]; exact HL.out
      ·
       have q4 : (((mulHi x v2 : Nat) : Int) == (r : Int)) = false := by simp; omega
       clear e q1 q2
       by_cases ho : 0 < addHi r v1 0
       ·
        have ho' : decide (0 < addHi r v1 0) = true := by simpa using ho
        clear ho
        go_wp2_with fail
        go_meet
        case rel => exact ⟨x - 1, by go_num, HL.out.le, HL.out.lt, _, rfl⟩
       ·
        have ho' : decide (0 < addHi r v1 0) = false := by simpa using ho
        have Hsum : Hid (addLo r v1 0 = r + v1) := by
         have := add_eq r v1 0
         have h0 : addHi r v1 0 = 0 := by omega
         rw [h0] at this
         show addLo r v1 0 = r + v1
         omega
        clear ho
        go_wp2_with fail
        refine ⟨⟨x - 1, addLo r v1 0, by go_num, rfl, addLo_lt _ _ _, ?_, _, rfl⟩, by simp [intOf]; omega⟩
        rw [Hsum.out]; exact HL.out
  ·
   have t' : decide (un < v1) = false := by simpa using t
   go_wp2_with fail
   go_meet
   case rel => exact ⟨18446744073709551615, rfl, by have := HQ.out; show _ ≤ _; unfold b64 at this; omega, by show _ < _; unfold b64; omega, _, rfl⟩
 case rest =>
  obtain ⟨x, rfl, hx1, hx2, nw, rfl⟩ := hcut
  go_wp2_with fail
  go_loopw [6] (fun xv wr => ∃ (x : Nat) (u' : List Nat), xv = .int .u64 x ∧ Hid (Q ≤ x) ∧ Hid (x < b64) ∧ Hid (u'.length = dv.length + 1) ∧ Dgs b64 u' ∧ Hid (lv b64 u' = lv b64 u) ∧ Own wr bu .u64 80 (pre ++ u' ++ post) ∧ w.grownBy wr (some bu)) (fun xv _ => (intOf xv).toNat)
  case atStart => exact ⟨x, u, rfl, hx1, hx2, Hlen.out, hu, rfl, Hown.out.drewN nw, grownBy_dn (World.grownBy.refl _ _) nw⟩
  case round =>
   clear hx1 hx2
   obtain ⟨x, u', rfl, hx1, hx2, hlu, hdu, hvu, hoU, hgr⟩ := hrel
   have hcvw : ∀ j, j < dv.length → wr.cell? ⟨bv, offv + j, none⟩ = some (.int .u64 (dv.getD j 0 : Nat)) := fun j hj => hgr.cell (Hcv.out j hj) (by simpa using hne)
   have hbvw : bv < wr.heap.size := Nat.lt_of_lt_of_le hbv hgr.size
   have ht := take_any pre u' post dv bu capu bv offv capv x wr hoU hlu.out hdu hv hx2.out (by rw [hlu.out, ← Hlen.out]; exact Hcap.out) Hcap2.out hne hbvw hcvw hsz hsz2
   have Ht := Lib.hid ht
   clear ht hcvw hbvw
   have hdiv := Nat.div_add_mod (lv b64 u) (lv b64 dv)
   rw [← HQe.out] at hdiv
   have Hdiv := Lib.hid hdiv
   clear hdiv
   by_cases hle : lv b64 dv * x ≤ lv b64 u'
   ·
    have hok : tkOk (lv b64 dv * x) (lv b64 u') = true := by simp [tkOk, hle]
    have hval : tkVal (lv b64 dv * x) (lv b64 u') = lv b64 u' - lv b64 dv * x := by simp [tkVal, hle]
    rw [hok, hval] at Ht
    have Hxq : Hid (x = Q) := by
     show x = Q
     refine Nat.le_antisymm ?_ hx1.out
     rw [HQe.out, Nat.le_div_iff_mul_le hpos, Nat.mul_comm, ← hvu.out]
     exact hle
    clear hle hok hval
    go_wp2_with fail
    refine Ht.out.mono ?_
    rintro e w' ⟨u2', rfl, hl2, hd2, hv2', ho2, hg2⟩
    go_wp2_with fail
    go_ret
    refine ⟨u2', by rw [Hxq.out]; rfl, hl2, hd2, ?_, ho2, grownBy_trans hgr hg2⟩
    rw [hv2', hvu.out, Hxq.out]
    have := Hdiv.out
    omega
   ·
    have hok : tkOk (lv b64 dv * x) (lv b64 u') = false := by simp [tkOk]; omega
    have hval : tkVal (lv b64 dv * x) (lv b64 u') = lv b64 u' := by simp [tkVal, hle]
    rw [hok, hval] at Ht
    have hxq : Q + 1 ≤ x := by
     rcases Nat.lt_or_ge Q x with h | h
     ·
      exact h
     ·
      have : lv b64 dv * x ≤ lv b64 dv * Q := Nat.mul_le_mul_left _ h
      have h2 := Hdiv.out
      rw [← hvu.out] at h2
      omega
    have hx0 : 1 ≤ x := by omega
    have Hxq := Lib.hid hxq
    clear hle hok hval hxq
    have hxb : (x : Int) ≤ 18446744073709551615 := by have := hx2.out; unfold b64 at this; omega
    go_wp2_with fail
    refine Ht.out.mono ?_
    rintro e w' ⟨u2', rfl, hl2, hd2, hv2', ho2, hg2⟩
    have Hl2 := Lib.hid hl2
    have Hv2 := Lib.hid hv2'
    clear hl2 hv2'
    go_wp2_with fail
    refine ⟨⟨x - 1, u2', by go_num, by show Q ≤ x - 1; have := Hxq.out; omega, by show x - 1 < b64; have := hx2.out; omega, Hl2.out, hd2, by show lv b64 u2' = lv b64 u; rw [Hv2.out, hvu.out], ho2, grownBy_trans hgr hg2⟩, by simp [intOf]; omega⟩

end Go.Proofs.Ytnjpkfccncjkhaa

namespace Go.Proofs.Ytnjpkfccncjkhaa
open Go.RowKit

def shlLo (x s : Nat) : Nat := x * 2 ^ s % b64
def shlHi (x s : Nat) : Nat := x / 2 ^ (64 - s)

theorem b64_split (s : Nat) (hs : s ≤ 64) : b64 = 2 ^ s * 2 ^ (64 - s) := by rw [b64_pow, ← Nat.pow_add]; congr 1; omega

theorem shl_eq (x s : Nat) (hs : s ≤ 64) : shlLo x s + b64 * shlHi x s = x * 2 ^ s := by
 have e := b64_split s hs
 have h := Nat.mod_add_div (x * 2 ^ s) b64
 have : x * 2 ^ s / b64 = shlHi x s := by
  unfold shlHi
  rw [e, Nat.mul_comm x, Nat.mul_div_mul_left _ _ (Nat.two_pow_pos s)]
 rw [this] at h
 exact h
theorem shlHi_lt (x s : Nat) (hs : s ≤ 64) (hx : x < b64) : shlHi x s < 2 ^ s := by
 unfold shlHi
 rw [Nat.div_lt_iff_lt_mul (Nat.two_pow_pos _), ← b64_split s hs]; exact hx
theorem shlLo_lt (x s : Nat) : shlLo x s < b64 := Nat.mod_lt _ b64_pos
theorem shlLo_or (z x s : Nat) (hs : s ≤ 64) (hz : z < 2 ^ s) : z ||| shlLo x s = z + shlLo x s ∧ z + shlLo x s < b64 := by
 have e := b64_split s hs
 have h1 : shlLo x s = (x % 2 ^ (64 - s)) * 2 ^ s := by
  unfold shlLo
  rw [e, Nat.mul_comm (2 ^ s), Nat.mul_mod_mul_right]
 have h2 : x % 2 ^ (64 - s) < 2 ^ (64 - s) := Nat.mod_lt _ (Nat.two_pow_pos _)
 have h3 : (x % 2 ^ (64 - s) + 1) * 2 ^ s ≤ 2 ^ (64 - s) * 2 ^ s := Nat.mul_le_mul_right _ h2
 rw [Nat.add_mul, Nat.one_mul] at h3
 have h4 : shlLo x s + 2 ^ s ≤ b64 := by rw [h1, e, Nat.mul_comm (2 ^ s) (2 ^ (64 - s))]; omega
 have h5 : z ||| shlLo x s = z + shlLo x s := by rw [h1, Nat.or_comm, or_disjoint _ _ _ hz, Nat.add_comm]
 exact ⟨h5, by omega⟩

structure ShlIn (a : List Nat) (q s i : Nat) (o : List Nat) : Prop where
 len : o.length = a.length + q + 1
 dgs : Dgs b64 o
 val : lv b64 o = lv b64 (a.take i) * 2 ^ s * b64 ^ q
 nxt : o.getD (i + q) 0 < 2 ^ s
 top : ∀ j, i + q < j → o.getD j 0 = 0

theorem ShlIn.start (a : List Nat) (q s : Nat) : ShlIn a q s 0 (List.replicate (a.length + q + 1) 0) :=
 ⟨by simp, Dgs.replicate b64_pos _, by simp [lv_replicate, lv], by simp [List.getElem?_replicate]; split <;> simp [Nat.two_pow_pos], fun j _ => by simp [List.getElem?_replicate]; split <;> rfl⟩

theorem ShlIn.step {a : List Nat} {q s i : Nat} {o : List Nat} (h : ShlIn a q s i o) (ha : Dgs b64 a) (hs : s ≤ 63) (hi : i < a.length) :
  ShlIn a q s (i + 1) ((o.set (i + q) (o.getD (i + q) 0 + shlLo (a.getD i 0) s)).set (i + q + 1) (shlHi (a.getD i 0) s)) := by
 have hx := ha.getD b64_pos i
 have h1 := shlLo_or (o.getD (i + q) 0) (a.getD i 0) s (by omega) h.nxt
 have h2 := shl_eq (a.getD i 0) s (by omega)
 have h3 := shlHi_lt (a.getD i 0) s (by omega) hx
 have hp : 2 ^ s < b64 := by rw [b64_pow]; exact Nat.pow_lt_pow_right (by omega) (by omega)
 have hl1 : i + q < o.length := by rw [h.len]; omega
 have hl2 : i + q + 1 < (o.set (i + q) (o.getD (i + q) 0 + shlLo (a.getD i 0) s)).length := by simp [h.len]; omega
 refine ⟨by simpa using h.len, (h.dgs.set _ _ h1.2).set _ _ (by omega), ?_, ?_, fun j hj => ?_⟩
 ·
  have e1 := lv_set b64 o (i + q) (o.getD (i + q) 0 + shlLo (a.getD i 0) s) hl1
  have e2 := lv_set b64 (o.set (i + q) (o.getD (i + q) 0 + shlLo (a.getD i 0) s)) (i + q + 1) (shlHi (a.getD i 0) s) hl2
  have e3 : (o.set (i + q) (o.getD (i + q) 0 + shlLo (a.getD i 0) s)).getD (i + q + 1) 0 = 0 := by
   have := h.top (i + q + 1) (by omega)
   rw [List.getD_eq_getElem?_getD] at *
   rw [List.getElem?_set_ne (by omega)]
   exact this
  rw [e3, Nat.mul_zero, Nat.add_zero] at e2
  rw [e2, lv_take_succ b64 a i hi, Nat.add_mul, Nat.add_mul, ← h.val]
  have e4 : b64 ^ (i + q + 1) * shlHi (a.getD i 0) s = b64 ^ (i + q) * (b64 * shlHi (a.getD i 0) s) := by rw [Nat.pow_succ]; ac_rfl
  have e5 : b64 ^ i * a.getD i 0 * 2 ^ s * b64 ^ q = b64 ^ (i + q) * (a.getD i 0 * 2 ^ s) := by rw [Nat.pow_add]; ac_rfl
  have e6 : b64 ^ (i + q) * (shlLo (a.getD i 0) s + b64 * shlHi (a.getD i 0) s) = b64 ^ (i + q) * (a.getD i 0 * 2 ^ s) := by rw [h2]
  rw [e4, e5]
  simp only [Nat.mul_add] at e1 e6
  omega
 ·
  have e : i + 1 + q = i + q + 1 := by omega
  rw [e, List.getD_eq_getElem?_getD, List.getElem?_set_self hl2]
  exact h3
 ·
  have := h.top j (by omega)
  rw [List.getD_eq_getElem?_getD] at *
  rw [List.getElem?_set_ne (by omega), List.getElem?_set_ne (by omega)]
  exact this

theorem ShlIn.done {a : List Nat} {q s : Nat} {o : List Nat} (h : ShlIn a q s a.length o) (k : Nat) (hq : k = 64 * q + s) : lv b64 o = lv b64 a * 2 ^ k := by
 rw [h.val, List.take_length, hq, Nat.pow_add, Nat.pow_mul, ← b64_pow, Nat.mul_assoc, Nat.mul_comm (2 ^ s)]

set_option maxRecDepth 100000 in
set_option maxHeartbeats 1000000 in
theorem left_any (m k : Nat) (va : Value) (w : World) (ha : IsNat .u64 b64 w va m) (hsz : (dig b64 m).length ≤ 549755813888) (hk : k ≤ 549755813888) :
  Calls Try.prog 73 #[va, .int .i64 k] w (RetNat .u64 b64 (m * 2 ^ k) w) := by
 by_cases hz : (dig b64 m).length = 0 ∨ k = 0
 ·
  have Hr : Hid (m * 2 ^ k = m) := by
   show m * 2 ^ k = m
   rcases hz with h | h
   ·
    have := (dig_nil_iff b64_two m).1 (List.eq_nil_of_length_eq_zero h)
    rw [this]; simp
   ·
    rw [h]; simp
  obtain ⟨aa, ca, rfl, _⟩ := IsRow.opened ha
  generalize dig b64 m = da at *
  by_cases h0 : da.length = 0
  ·
   have c1 : ((da.length : Int) == 0) = true := by simp [h0]
   clear h0 hz
   go_enter Try.func73, Try.ntmps73
   go_wp2_with fail
   go_ret
   exact ⟨_, rfl, by rw [Hr.out]; exact ha, Below.refl _ _⟩
  ·
   have c1 : ((da.length : Int) == 0) = false := by simp; intro h; simp [h] at h0
   have c2 : ((k : Int) == 0) = true := by simp; omega
   clear h0 hz
   go_enter Try.func73, Try.ntmps73
   go_wp2_with fail
   go_ret
   exact ⟨_, rfl, by rw [Hr.out]; exact ha, Below.refl _ _⟩
 ·
  obtain ⟨aa, ca, rfl, hA⟩ := IsRow.opened ha
  have hda := dgs_dig b64_two m
  have Hva := Lib.hid (lv_dig b64_two m)
  clear ha
  generalize dig b64 m = da at *
  have c1 : ((da.length : Int) == 0) = false := by simp; intro h; simp [h] at hz
  have c2 : ((k : Int) == 0) = false := by simp; omega
  clear hz
  obtain ⟨i0, hi, hz0, hz1, hz2⟩ := info_parts info_u64
  go_enter Try.func73, Try.ntmps73
  go_wp2_with (at_make; refine wpList_make_full _ rfl _ _ 43 rfl w.heap.size 80 i0 (.int .u64 0) 1 Try.underlying43 hi hz0 hz1 _ _ _ _ (da.length + k / 64 + 1) rfl rfl (by omega) (by omega) (by rw [hz2]; omega) (by unfold maxLen; omega) (by omega) ?_)
  intro w1 hown hgrow
  have ho := Own.of_made hown
  have hbel := (Below.refl w.heap.size w).grown hgrow (Nat.le_refl _) (by simp)
  clear hown hgrow hi hz0 hz1 hz2
  go_wp2_with fail
  go_loopw [25] (fun c wr => ∃ (i : Nat) (o : List Nat), i ≤ da.length ∧ c = .int .i64 i ∧ Own wr w.heap.size .u64 80 o ∧ Hid (ShlIn da (k / 64) (k % 64) i o) ∧ Below w.heap.size w wr)
   (fun c _ => da.length - (intOf c).toNat)
  case atStart => exact ⟨0, _, Nat.zero_le _, rfl, ho, ShlIn.start da _ _, hbel⟩
  case round =>
   clear ho hbel
   obtain ⟨i, o, hile, rfl, ho, hM, hbel⟩ := hrel
   by_cases hlt : i < da.length
   ·
    obtain ⟨b, off, rfl, hbA, hcA⟩ := hA (by omega)
    have hca : wr.cell? ⟨b, off + i, none⟩ = some (.int .u64 (da.getD i 0 : Nat)) := (hbel.cell (p := ⟨b, off + i, none⟩) hbA).trans (hcA i hlt)
    have hstep := hM.out.step hda (by omega) hlt
    have Hlen := Lib.hid hM.out.len
    have hco := ho.cell (i + k / 64) (by rw [hM.out.len]; omega)
    have hfo := ho.frozen (i + k / 64)
    have hco2 := ho.cell (i + k / 64 + 1) (by rw [hM.out.len]; omega)
    have hfo2 := ho.frozen (i + k / 64 + 1)
    have hxl := hda.getD b64_pos i
    have hor := shlLo_or (o.getD (i + k / 64) 0) (da.getD i 0) (k % 64) (by omega) hM.out.nxt
    have hzl := hM.out.dgs.getD b64_pos (i + k / 64)
    have Hstep := Lib.hid hstep
    clear hstep
    obtain ⟨x, hx⟩ : ∃ x, x = da.getD i 0 := ⟨_, rfl⟩
    obtain ⟨z, hz⟩ : ∃ z, z = o.getD (i + k / 64) 0 := ⟨_, rfl⟩
    rw [← hx] at hca hxl hor
    rw [← hz] at hco hzl hor
    have HX := Lib.hid hx
    have HZ := Lib.hid hz
    have e1 : IntKind.u64.wrap ((x : Int) * 2 ^ (k % 64)) = (shlLo x (k % 64) : Nat) := by
     rw [IntKind.wrap_u64]; unfold shlLo b64; simp
    have e2 : bits .or .u64 (z : Int) (shlLo x (k % 64) : Nat) = ((z + shlLo x (k % 64) : Nat) : Int) := by
     rw [bits_or_nat _ _ hzl (shlLo_lt _ _), hor.1]
    have e3 : (x : Int) / 2 ^ (64 - k % 64) = (shlHi x (k % 64) : Nat) := by unfold shlHi; simp
    clear hx hz hxl hzl hor
    obtain ⟨y, hy⟩ : ∃ y, y = z + shlLo x (k % 64) := ⟨_, rfl⟩
    rw [← hy] at e2
    have HY := Lib.hid hy
    clear hy
    go_wp2_with fail
    go_region
    go_wp2_with fail
    refine ⟨⟨i + 1, _, by omega, by go_num, ((ho.store _ _).store _ _).drew, ?_, ((hbel.setCell (p := ⟨w.heap.size, i + k / 64, none⟩) (Nat.le_refl _) _).setCell (p := ⟨w.heap.size, i + k / 64 + 1, none⟩) (Nat.le_refl _) _).drew⟩, by simp [intOf]; omega⟩
    rw [HY.out, HX.out, HZ.out]
    exact Hstep.out
   ·
    obtain rfl : i = da.length := by omega
    have hlen := Lib.hid hM.out.len
    go_wp2_with fail
    have hrow := ho.isRow (by unfold maxLen; rw [hlen.out]; omega)
    rw [hlen.out] at hrow
    refine (cut_any o _ _ hrow hM.out.dgs).mono ?_
    rintro e w' ⟨v, rfl, hv, rfl⟩
    go_wp2_with fail
    go_ret
    refine ⟨v, rfl, ?_, hbel⟩
    have := hM.out.done k (by omega)
    rw [Hva.out] at this
    rw [← this]
    exact hv


def shrL (s : Nat) : List Nat → List Nat
 | [] => []
 | x :: t => (x / 2 ^ s + (t.headD 0 % 2 ^ s) * 2 ^ (64 - s)) :: shrL s t

theorem shrL_length (s : Nat) (a : List Nat) : (shrL s a).length = a.length := by
 induction a with
 | nil => rfl
 | cons x t ih => simp [shrL, ih]

theorem shrL_getD (s : Nat) (a : List Nat) (i : Nat) (hi : i < a.length) : (shrL s a).getD i 0 = a.getD i 0 / 2 ^ s + (a.getD (i + 1) 0 % 2 ^ s) * 2 ^ (64 - s) := by
 induction a generalizing i with
 | nil => simp at hi
 | cons x t ih =>
  cases i with
  | zero => cases t <;> simp [shrL]
  | succ i => simpa [shrL] using ih i (by simpa using hi)

theorem shrL_dgs (s : Nat) (hs : s ≤ 63) (a : List Nat) (ha : Dgs b64 a) : Dgs b64 (shrL s a) := by
 have e := b64_split s (by omega)
 induction a with
 | nil => exact Dgs.nil _
 | cons x t ih =>
  refine Dgs.cons ?_ (ih ha.tail)
  have hx := ha.head
  have h1 : x / 2 ^ s < 2 ^ (64 - s) := by
   rw [Nat.div_lt_iff_lt_mul (Nat.two_pow_pos _), Nat.mul_comm, ← e]; exact hx
  have h2 : t.headD 0 % 2 ^ s < 2 ^ s := Nat.mod_lt _ (Nat.two_pow_pos _)
  have h3 : (t.headD 0 % 2 ^ s + 1) * 2 ^ (64 - s) ≤ 2 ^ s * 2 ^ (64 - s) := Nat.mul_le_mul_right _ h2
  rw [Nat.add_mul, Nat.one_mul, ← e] at h3
  omega

theorem lv_mod_head (s : Nat) (hs : s ≤ 64) (t : List Nat) : lv b64 t % 2 ^ s = t.headD 0 % 2 ^ s := by
 cases t with
 | nil => rfl
 | cons y u =>
  rw [lv_cons, b64_split s hs, Nat.mul_assoc, Nat.add_mul_mod_self_left]
  rfl

theorem lv_shrL (s : Nat) (hs : s ≤ 63) (a : List Nat) : lv b64 (shrL s a) = lv b64 a / 2 ^ s := by
 induction a with
 | nil => simp [shrL, lv]
 | cons x t ih =>
  have hp : 0 < 2 ^ s := Nat.two_pow_pos s
  have e := b64_split s (by omega)
  rw [shrL, lv_cons, lv_cons, ih, ← lv_mod_head s (by omega) t]
  have h1 := Nat.div_add_mod (lv b64 t) (2 ^ s)
  generalize lv b64 t = T at *
  have h2 : x + b64 * T = x + 2 ^ s * (2 ^ (64 - s) * T) := by rw [e, Nat.mul_assoc]
  rw [h2, Nat.add_mul_div_left _ _ hp]
  have h3 : 2 ^ (64 - s) * T = 2 ^ (64 - s) * (2 ^ s * (T / 2 ^ s) + T % 2 ^ s) := by rw [h1]
  rw [h3, Nat.mul_add, ← Nat.mul_assoc, Nat.mul_comm (2 ^ (64 - s)) (2 ^ s), ← e, Nat.mul_comm (T % 2 ^ s)]
  omega

theorem shr_or (x y s : Nat) (hs : s ≤ 63) (hx : x < b64) : x / 2 ^ s ||| (y * 2 ^ (64 - s) % b64) = x / 2 ^ s + (y % 2 ^ s) * 2 ^ (64 - s) := by
 have e := b64_split s (by omega)
 have h1 : x / 2 ^ s < 2 ^ (64 - s) := by
  rw [Nat.div_lt_iff_lt_mul (Nat.two_pow_pos _), Nat.mul_comm, ← e]; exact hx
 have h2 : y * 2 ^ (64 - s) % b64 = (y % 2 ^ s) * 2 ^ (64 - s) := by rw [e, Nat.mul_mod_mul_right]
 rw [h2, Nat.or_comm, or_disjoint _ _ _ h1, Nat.add_comm]

theorem lv_drop (a : List Nat) (ha : Dgs b64 a) (q : Nat) (hq : q ≤ a.length) : lv b64 (a.drop q) = lv b64 a / 2 ^ (64 * q) := by
 have h := lv_take_drop b64 a q hq
 have h2 := lv_lt (ha.take q)
 have e : (a.take q).length = q := by simp; omega
 rw [e] at h2
 rw [Nat.pow_mul, ← b64_pow, h, Nat.add_mul_div_left _ _ (Nat.pow_pos b64_pos), Nat.div_eq_of_lt h2, Nat.zero_add]

structure ShrIn (a : List Nat) (q s i : Nat) (o : List Nat) : Prop where
 len : o.length = a.length - q
 dgs : Dgs b64 o
 val : ∀ j, j < i → o.getD j 0 = (shrL s (a.drop q)).getD j 0

theorem ShrIn.done {a : List Nat} {q s k : Nat} {o : List Nat} (h : ShrIn a q s (a.length - q) o) (ha : Dgs b64 a) (hq : q ≤ a.length) (hs : s ≤ 63) (hk : k = 64 * q + s) : lv b64 o = lv b64 a / 2 ^ k := by
 have e : o = shrL s (a.drop q) := by
  apply List.ext_getElem
  ·
   rw [h.len, shrL_length, List.length_drop]
  ·
   intro j h1 h2
   have := h.val j (by rw [h.len] at h1; exact h1)
   simpa [h1, h2] using this
 rw [e, lv_shrL s hs, lv_drop a ha q hq, Nat.div_div_eq_div_mul, ← Nat.pow_add, hk]

theorem ShrIn.step {a : List Nat} {q s i : Nat} {o : List Nat} (h : ShrIn a q s i o) (ha : Dgs b64 a) (hs : s ≤ 63) (hi : i < a.length - q) (x : Nat)
  (hx : x = a.getD (i + q) 0 / 2 ^ s + (a.getD (i + q + 1) 0 % 2 ^ s) * 2 ^ (64 - s)) : ShrIn a q s (i + 1) (o.set i x) := by
 have e : x = (shrL s (a.drop q)).getD i 0 := by
  rw [shrL_getD s _ i (by simp; omega), hx]
  simp [List.getElem?_drop, Nat.add_comm, Nat.add_left_comm]
  rw [Nat.add_assoc]
 refine ⟨by simpa using h.len, h.dgs.set _ _ ?_, fun j hj => ?_⟩
 ·
  rw [e]; exact (shrL_dgs s hs _ (ha.drop q)).getD b64_pos i
 ·
  by_cases hji : j = i
  ·
   subst hji
   rw [List.getD_eq_getElem?_getD, List.getElem?_set_self (by rw [h.len]; exact hi)]
   exact e
  ·
   have := h.val j (by omega)
   rw [← this, List.getD_eq_getElem?_getD, List.getElem?_set_ne (by omega), List.getD_eq_getElem?_getD]

end Go.Proofs.Ytnjpkfccncjkhaa

namespace Go.Proofs.Ytnjpkfccncjkhaa
open Go.RowKit

set_option maxRecDepth 100000 in
set_option maxHeartbeats 1000000 in
theorem right_any (m k : Nat) (va : Value) (w : World) (ha : IsNat .u64 b64 w va m) (hsz : (dig b64 m).length ≤ 549755813888) (hk : k ≤ 549755813888) :
  Calls Try.prog 75 #[va, .int .i64 k] w (RetNat .u64 b64 (m / 2 ^ k) w) := by
 obtain ⟨aa, ca, rfl, hA⟩ := IsRow.opened ha
 have hda := dgs_dig b64_two m
 have Hva := Lib.hid (lv_dig b64_two m)
 have Hlt := Lib.hid (lt_pow_dig_length b64_two m)
 clear ha
 generalize dig b64 m = da at *
 by_cases hz : da.length ≤ k / 64
 ·
  have Hr : Hid (m / 2 ^ k = 0) := by
   show m / 2 ^ k = 0
   apply Nat.div_eq_of_lt
   refine Nat.lt_of_lt_of_le Hlt.out ?_
   rw [b64_pow, ← Nat.pow_mul]
   exact Nat.pow_le_pow_right (by omega) (by omega)
  go_enter Try.func75, Try.ntmps75
  go_wp2_with fail
  go_ret
  exact ⟨_, rfl, by rw [Hr.out]; exact IsNat.zero _ _ _, Below.refl _ _⟩
 ·
  obtain ⟨i0, hi, hz0, hz1, hz2⟩ := info_parts info_u64
  have hq : k / 64 < da.length := by omega
  clear hz
  go_enter Try.func75, Try.ntmps75
  go_wp2_with (at_make; refine wpList_make_full _ rfl _ _ 43 rfl w.heap.size 80 i0 (.int .u64 0) 1 Try.underlying43 hi hz0 hz1 _ _ _ _ (da.length - k / 64) rfl rfl (by omega) (by omega) (by rw [hz2]; omega) (by unfold maxLen; omega) (by omega) ?_)
  intro w1 hown hgrow
  have ho := Own.of_made hown
  have hbel := (Below.refl w.heap.size w).grown hgrow (Nat.le_refl _) (by simp)
  clear hown hgrow hi hz0 hz1 hz2
  go_wp2_with fail
  go_loopw [20] (fun c wr => ∃ (i : Nat) (o : List Nat), i ≤ da.length - k / 64 ∧ c = .int .i64 i ∧ Own wr w.heap.size .u64 80 o ∧ Hid (ShrIn da (k / 64) (k % 64) i o) ∧ Below w.heap.size w wr)
   (fun c _ => da.length - k / 64 - (intOf c).toNat)
  case atStart => exact ⟨0, _, Nat.zero_le _, rfl, ho, ⟨by simp, Dgs.replicate b64_pos _, fun j hj => absurd hj (by omega)⟩, hbel⟩
  case round =>
   clear ho hbel
   obtain ⟨i, o, hile, rfl, ho, hM, hbel⟩ := hrel
   obtain ⟨b, off, rfl, hbA, hcA⟩ := hA (by omega)
   by_cases hlt : i < da.length - k / 64
   ·
    have hca : wr.cell? ⟨b, off + (i + k / 64), none⟩ = some (.int .u64 (da.getD (i + k / 64) 0 : Nat)) := (hbel.cell (p := ⟨b, off + (i + k / 64), none⟩) hbA).trans (hcA _ (by omega))
    have Hlen := Lib.hid hM.out.len
    have hco := ho.cell i (by rw [hM.out.len]; omega)
    have hfo := ho.frozen i
    have hxl := hda.getD b64_pos (i + k / 64)
    obtain ⟨x, hx⟩ : ∃ x, x = da.getD (i + k / 64) 0 := ⟨_, rfl⟩
    rw [← hx] at hca hxl
    have HX := Lib.hid hx
    have HXL := Lib.hid hxl
    have e1 : (x : Int) / 2 ^ (k % 64) = ((x / 2 ^ (k % 64) : Nat) : Int) := by simp
    obtain ⟨h, hh⟩ : ∃ h, h = x / 2 ^ (k % 64) := ⟨_, rfl⟩
    rw [← hh] at e1
    have HH := Lib.hid hh
    clear hx hxl hh
    by_cases hn : i + k / 64 + 1 < da.length
    ·
     have hcb : wr.cell? ⟨b, off + (i + k / 64 + 1), none⟩ = some (.int .u64 (da.getD (i + k / 64 + 1) 0 : Nat)) := (hbel.cell (p := ⟨b, off + (i + k / 64 + 1), none⟩) hbA).trans (hcA _ (by omega))
     obtain ⟨y, hy⟩ : ∃ y, y = da.getD (i + k / 64 + 1) 0 := ⟨_, rfl⟩
     rw [← hy] at hcb
     have HY := Lib.hid hy
     clear hy
     have e2 : IntKind.u64.wrap ((y : Int) * 2 ^ (64 - k % 64)) = ((y * 2 ^ (64 - k % 64) % b64 : Nat) : Int) := by
      rw [IntKind.wrap_u64]; unfold b64; simp
     obtain ⟨g, hg⟩ : ∃ g, g = y * 2 ^ (64 - k % 64) % b64 := ⟨_, rfl⟩
     rw [← hg] at e2
     have HG := Lib.hid hg
     have e3 : bits .or .u64 (h : Int) (g : Int) = ((h ||| g : Nat) : Int) :=
      bits_or_nat _ _ (by rw [HH.out]; exact Nat.lt_of_le_of_lt (Nat.div_le_self _ _) HXL.out) (by rw [hg]; exact Nat.mod_lt _ b64_pos)
     obtain ⟨f, hf⟩ : ∃ f, f = h ||| g := ⟨_, rfl⟩
     rw [← hf] at e3
     have HF := Lib.hid hf
     clear hg hf
     go_wp2_with fail
     go_region
     go_wp2_with fail
     refine ⟨⟨i + 1, _, by omega, by go_num, ((ho.store _ _).store _ _).drew, ?_, ((hbel.setCell (p := ⟨w.heap.size, i, none⟩) (Nat.le_refl _) _).setCell (p := ⟨w.heap.size, i, none⟩) (Nat.le_refl _) _).drew⟩, meas_up hlt⟩
     rw [List.set_set]
     refine hM.out.step hda (by omega) hlt _ ?_
     rw [HF.out, HG.out, HH.out, shr_or _ _ _ (by omega) HXL.out, HX.out, HY.out]
    ·
     go_wp2_with fail
     refine ⟨⟨i + 1, _, by omega, by go_num, ho.store _ _, ?_, hbel.setCell (p := ⟨w.heap.size, i, none⟩) (Nat.le_refl _) _⟩, meas_up hlt⟩
     refine hM.out.step hda (by omega) hlt _ ?_
     rw [HH.out, HX.out]
     have : da.getD (i + k / 64 + 1) 0 = 0 := by simp [List.getElem?_eq_none (Nat.le_of_not_lt hn)]
     rw [this]; simp
   ·
    obtain rfl : i = da.length - k / 64 := by omega
    have hlen := Lib.hid hM.out.len
    go_wp2_with fail
    have hrow := ho.isRow (by unfold maxLen; rw [hlen.out]; omega)
    rw [hlen.out] at hrow
    refine (cut_any o _ _ hrow hM.out.dgs).mono ?_
    rintro e w' ⟨v, rfl, hv, rfl⟩
    go_wp2_with fail
    go_ret
    refine ⟨v, rfl, ?_, hbel⟩
    have := hM.out.done hda (by omega) (by omega) (show k = 64 * (k / 64) + k % 64 by omega)
    rw [Hva.out] at this
    rw [← this]
    exact hv

end Go.Proofs.Ytnjpkfccncjkhaa

namespace Go.Proofs.Ytnjpkfccncjkhaa
open Go.RowKit

def RetTwo (q r : Nat) (w : World) (e : Ending) (w' : World) : Prop :=
 ∃ v1 v2, e = .returned (.tuple #[v1, v2]) ∧ IsNat .u64 b64 w' v1 q ∧ IsNat .u64 b64 w' v2 r ∧ Below w.heap.size w w'

theorem dig_length_one {B : Nat} (hB : 2 ≤ B) (n : Nat) (h : (dig B n).length = 1) : dig B n = [n] ∧ 0 < n ∧ n < B := by
 match hd : dig B n, h with
 | [d], _ =>
  have h1 := lv_dig hB n
  rw [hd] at h1
  have h2 : d = n := by simpa [lv] using h1
  subst h2
  have h3 := (dgs_dig hB d)
  rw [hd] at h3
  have h4 : d ≠ 0 := fun h0 => by
   have := (dig_nil_iff hB d).2 h0
   rw [hd] at this
   cases this
  exact ⟨rfl, by omega, h3.head⟩

set_option maxRecDepth 100000 in
set_option maxHeartbeats 1000000 in
theorem divide_less (m n : Nat) (va vb : Value) (w : World) (ha : IsNat .u64 b64 w va m) (hb : IsNat .u64 b64 w vb n) (h : m < n) :
  Calls Try.prog 62 #[va, vb] w (RetTwo (m / n) (m % n) w) := by
 have hq : m / n = 0 := Nat.div_eq_of_lt h
 have hr : m % n = m := Nat.mod_eq_of_lt h
 rw [hq, hr]
 have hc : cmpN m n < 0 := by unfold cmpN; rw [if_pos h]; omega
 clear hq hr h
 go_enter Try.func62, Try.ntmps62
 go_wp2_with fail
 refine (cmp_any _ _ _ _ _ ha hb).mono ?_
 rintro e w' ⟨rfl, nq, rfl⟩
 generalize cmpN m n = c at *
 go_wp2_with fail
 go_ret2
 exact ⟨_, _, rfl, IsNat.zero _ _ _, ha, (Quiet.below ⟨nq, rfl⟩)⟩

set_option maxRecDepth 100000 in
set_option maxHeartbeats 1000000 in
theorem divide_word (m n : Nat) (va vb : Value) (w : World) (ha : IsNat .u64 b64 w va m) (hb : IsNat .u64 b64 w vb n) (h : ¬ m < n) (h1 : (dig b64 n).length = 1) (hsz : (dig b64 m).length ≤ 1099511627776) :
  Calls Try.prog 62 #[va, vb] w (RetTwo (m / n) (m % n) w) := by
 obtain ⟨hd, hn0, hnb⟩ := dig_length_one b64_two n h1
 have hc : ¬ cmpN m n < 0 := by unfold cmpN; rw [if_neg h]; split <;> omega
 have Ha := Lib.hid ha
 have Hb := Lib.hid hb
 obtain ⟨ab, cb, rfl, hB⟩ := IsRow.opened hb
 rw [h1]
 rw [h1] at hB Hb
 obtain ⟨b, off, rfl, hbB, hcB⟩ := hB (by omega)
 have hcb := hcB 0 (by omega)
 rw [hd] at hcb
 simp only [List.getD_cons_zero, Nat.add_zero] at hcb
 clear hcB hd h h1 ha hb hB
 go_enter Try.func62, Try.ntmps62
 go_wp2_with fail
 refine (cmp_any _ _ _ _ _ Ha.out Hb.out).mono ?_
 rintro e w' ⟨rfl, nq, rfl⟩
 generalize cmpN m n = c at *
 go_wp2_with fail
 refine (byWord_any m n _ _ (IsNat.below Ha.out (Quiet.below ⟨nq, rfl⟩)) hsz hn0 hnb).mono ?_
 rintro e w1 ⟨v, rfl, hv, hb1⟩
 go_wp2_with fail
 refine (word_any (m % n) _ (Nat.lt_trans (Nat.mod_lt _ hn0) hnb)).mono ?_
 rintro e w2 ⟨v2, rfl, hv2, hb2⟩
 go_wp2_with fail
 go_ret2
 exact ⟨_, _, rfl, hv.below hb2, hv2, ((Quiet.below (w := w) ⟨nq, rfl⟩).trans (hb1.mono (by simp))).trans (hb2.mono (by have := hb1.size; simpa using this))⟩


structure DvIn (U V nv L j : Nat) (uu qq : List Nat) : Prop where
 lu : uu.length = L + nv
 lq : qq.length = L
 du : Dgs b64 uu
 dq : Dgs b64 qq
 val : U = lv b64 qq * V + lv b64 uu
 rem : lv b64 (uu.drop j) < V
 low : ∀ i, i < j → qq.getD i 0 = 0

theorem lv_pos_of_ge {ds : List Nat} {n : Nat} (h : lv b64 ds < b64 ^ n) : lv b64 (ds.drop n) = 0 := by
 by_cases hn : n ≤ ds.length
 ·
  have := lv_take_drop b64 ds n hn
  rcases Nat.eq_zero_or_pos (lv b64 (ds.drop n)) with h0 | h0
  ·
   exact h0
  ·
   have : b64 ^ n ≤ b64 ^ n * lv b64 (ds.drop n) := Nat.le_mul_of_pos_right _ h0
   omega
 ·
  rw [List.drop_of_length_le (by omega)]; rfl

structure Win (V nv j : Nat) (uu u : List Nat) : Prop where
 len : u.length = nv + 1
 dgs : Dgs b64 u
 split : uu = uu.take j ++ u ++ uu.drop (j + nv + 1)
 val : lv b64 u = lv b64 (uu.drop j)
 zero : lv b64 (uu.drop (j + nv + 1)) = 0
 lt : lv b64 u / V < b64

theorem DvIn.win {U V nv L j : Nat} {uu qq : List Nat} (h : DvIn U V nv L (j + 1) uu qq) (hj : j + 1 ≤ L) (hV : V < b64 ^ nv) (hV0 : 0 < V) : Win V nv j uu ((uu.drop j).take (nv + 1)) := by
 have hl := h.lu
 have hz : lv b64 (uu.drop (j + nv + 1)) = 0 := by
  have := lv_pos_of_ge (ds := uu.drop (j + 1)) (n := nv) (Nat.lt_trans h.rem hV)
  rw [List.drop_drop] at this
  have e : j + 1 + nv = j + nv + 1 := by omega
  rw [e] at this
  exact this
 have hval : lv b64 ((uu.drop j).take (nv + 1)) = lv b64 (uu.drop j) := by
  have h1 := lv_take_drop b64 (uu.drop j) (nv + 1) (by simp; omega)
  rw [List.drop_drop] at h1
  have e : j + (nv + 1) = j + nv + 1 := by omega
  rw [e, hz, Nat.mul_zero, Nat.add_zero] at h1
  exact h1.symm
 refine ⟨by simp; omega, (h.du.drop j).take _, ?_, hval, hz, ?_⟩
 ·
  have h2 : (uu.drop j).drop (nv + 1) = uu.drop (j + nv + 1) := by rw [List.drop_drop]; congr 1
  rw [List.append_assoc, ← h2, List.take_append_drop, List.take_append_drop]
 ·
  rw [hval, List.drop_eq_getElem_cons (by omega), lv_cons, Nat.div_lt_iff_lt_mul hV0]
  have h3 : uu[j] < b64 := h.du _ (List.getElem_mem _)
  have h4 : b64 * (lv b64 (uu.drop (j + 1)) + 1) ≤ b64 * V := Nat.mul_le_mul_left _ h.rem
  rw [Nat.mul_add] at h4
  omega

theorem DvIn.step {U V nv L j : Nat} {uu qq u u' : List Nat} (h : DvIn U V nv L (j + 1) uu qq) (hj : j + 1 ≤ L) (hW : Win V nv j uu u) (hV0 : 0 < V)
  (hl : u'.length = nv + 1) (hd : Dgs b64 u') (hv : lv b64 u' = lv b64 u % V) :
  DvIn U V nv L j (uu.take j ++ u' ++ uu.drop (j + nv + 1)) (qq.set j (lv b64 u / V)) := by
 have hlu := h.lu
 have ht : (uu.take j).length = j := by simp; omega
 have e1 : lv b64 (uu.take j ++ u' ++ uu.drop (j + nv + 1)) = lv b64 (uu.take j) + b64 ^ j * lv b64 u' := by
  rw [lv_append, lv_append, hW.zero, ht]; simp
 have e2 : lv b64 uu = lv b64 (uu.take j) + b64 ^ j * lv b64 u := by
  have := lv_take_drop b64 uu j (by omega)
  rw [← hW.val] at this
  exact this
 refine ⟨by simp [hl, ht]; omega, by simpa using h.lq, ((h.du.take j).append hd).append (h.du.drop _), h.dq.set _ _ hW.lt, ?_, ?_, fun i hi => ?_⟩
 ·
  have e3 := lv_set b64 qq j (lv b64 u / V) (by rw [h.lq]; omega)
  rw [h.low j (by omega), Nat.mul_zero, Nat.add_zero] at e3
  rw [e1, e3, hv, h.val, e2, Nat.add_mul]
  have e4 := Nat.div_add_mod (lv b64 u) V
  have e5 : b64 ^ j * lv b64 u = b64 ^ j * (V * (lv b64 u / V) + lv b64 u % V) := by rw [e4]
  have e6 : b64 ^ j * (lv b64 u / V) * V = b64 ^ j * (V * (lv b64 u / V)) := by ac_rfl
  rw [Nat.mul_add (b64 ^ j)] at e5
  omega
 ·
  have e7 : (uu.take j ++ u' ++ uu.drop (j + nv + 1)).drop j = u' ++ uu.drop (j + nv + 1) := by
   rw [List.append_assoc, List.drop_append_of_le_length (by omega), List.drop_of_length_le (by omega), List.nil_append]
  rw [e7, lv_append, hW.zero, Nat.mul_zero, Nat.add_zero, hv]
  exact Nat.mod_lt _ hV0
 ·
  have := h.low i (by omega)
  rw [List.getD_eq_getElem?_getD] at *
  rw [List.getElem?_set_ne (by omega)]
  exact this

theorem DvIn.start (U V nv L : Nat) (hU : (dig b64 U).length + 1 = L + nv) (hV : (dig b64 V).length = nv) (hV0 : 0 < V) (hnv : 1 ≤ nv) : DvIn U V nv L L (dig b64 U ++ [0]) (List.replicate L 0) := by
 have hd := dgs_dig b64_two U
 refine ⟨by simp [hU], by simp, hd.append (Dgs.cons b64_pos (Dgs.nil _)), Dgs.replicate b64_pos _, by rw [lv_replicate, dig_lv_snoc_zero, lv_dig b64_two]; omega, ?_, fun i _ => by simp [List.getElem?_replicate]; split <;> rfl⟩
 have h1 : L ≤ (dig b64 U).length := by omega
 have h2 : (dig b64 U ++ [0]).drop L = (dig b64 U).drop L ++ [0] := List.drop_append_of_le_length h1
 rw [h2, dig_lv_snoc_zero]
 have h3 := lv_lt (hd.drop L)
 have h4 : ((dig b64 U).drop L).length = nv - 1 := by simp; omega
 rw [h4] at h3
 exact Nat.lt_of_lt_of_le h3 (pow_le_of_dig_length b64_two V (nv - 1) (by omega))

theorem DvIn.done {U V nv L : Nat} {uu qq : List Nat} (h : DvIn U V nv L 0 uu qq) : lv b64 qq = U / V ∧ lv b64 uu = U % V := by
 have hr := h.rem
 simp only [List.drop_zero] at hr
 have hV : 0 < V := by omega
 rw [h.val]
 exact ⟨by rw [Nat.add_comm, Nat.add_mul_div_right _ _ hV, Nat.div_eq_of_lt hr, Nat.zero_add], by rw [Nat.add_comm, Nat.add_mul_mod_self_right, Nat.mod_eq_of_lt hr]⟩

theorem dig_length_shift (m s : Nat) (hs : s ≤ 64) : (dig b64 (m * 2 ^ s)).length ≤ (dig b64 m).length + 1 := by
 refine dig_length_le b64_two _ _ ?_
 have h1 := lt_pow_dig_length b64_two m
 have h2 : 2 ^ s ≤ b64 := by rw [b64_pow]; exact Nat.pow_le_pow_right (by omega) hs
 rw [Nat.pow_succ]
 exact Nat.mul_lt_mul_of_lt_of_le h1 h2 b64_pos

set_option maxRecDepth 100000 in
set_option maxHeartbeats 4000000 in
theorem divide_long (m n : Nat) (va vb : Value) (w : World) (ha : IsNat .u64 b64 w va m) (hb : IsNat .u64 b64 w vb n) (h : ¬ m < n) (hn0 : 0 < n) (h1 : (dig b64 n).length ≠ 1) (hsz : (dig b64 m).length ≤ 274877906944) :
  Calls Try.prog 62 #[va, vb] w (RetTwo (m / n) (m % n) w) := by
 have hc : ¬ cmpN m n < 0 := by unfold cmpN; rw [if_neg h]; split <;> omega
 have hnm := dig_length_mono b64_two (show n ≤ m by omega)
 have hn2 : 2 ≤ (dig b64 n).length := by
  have : (dig b64 n).length ≠ 0 := fun h0 => by
   have := (dig_nil_iff b64_two n).1 (List.eq_nil_of_length_eq_zero h0); omega
  omega
 have hl1 : (((dig b64 n).length : Int) == 1) = false := by simp; omega
 have Ha := Lib.hid ha
 have Hb := Lib.hid hb
 obtain ⟨ab, cb, rfl, hB⟩ := IsRow.opened hb
 obtain ⟨b, off, rfl, hbB, hcB⟩ := hB (by omega)
 have hcb := hcB ((dig b64 n).length - 1) (by omega)
 have hx := (dgs_dig b64_two n).getD b64_pos ((dig b64 n).length - 1)
 have hx0 : (dig b64 n).getD ((dig b64 n).length - 1) 0 ≠ 0 := by
  have hne : dig b64 n ≠ [] := by intro h0; rw [h0] at hn2; simp at hn2
  have := dig_last b64_two n hne
  rw [List.getLast_eq_getElem] at this
  simpa [show (dig b64 n).length - 1 < (dig b64 n).length by omega] using this
 generalize (dig b64 n).getD ((dig b64 n).length - 1) 0 = x at *
 obtain ⟨k1, k2, k3⟩ := bitLen_spec64 x hx
 obtain ⟨k4, _⟩ := k2 hx0
 obtain ⟨s, hs⟩ : ∃ s, s + Lib.bitLen x = 64 := ⟨64 - Lib.bitLen x, by omega⟩
 have hs63 : s ≤ 63 := by omega
 have hlV1 := dig_length_shift n s (by omega)
 have hlU1 := dig_length_shift m s (by omega)
 have hlV0 : (dig b64 n).length ≤ (dig b64 (n * 2 ^ s)).length := dig_length_mono b64_two (Nat.le_mul_of_pos_right _ (Nat.two_pow_pos s))
 have hlUV : (dig b64 (n * 2 ^ s)).length ≤ (dig b64 (m * 2 ^ s)).length := dig_length_mono b64_two (Nat.mul_le_mul_right _ (by omega))
 have hV0 : 0 < n * 2 ^ s := Nat.mul_pos hn0 (Nat.two_pow_pos s)
 have HS := Lib.hid hs
 have Hx := Lib.hid hx
 have hln : (dig b64 n).length ≤ 274877906944 := by omega
 clear hcB h h1 ha hb hB hx hx0 k1 k2 k3 k4 hs
 obtain ⟨i0, hi, hz0, hz1, hz2⟩ := info_parts info_u64
 go_enter Try.func62, Try.ntmps62
 go_wp2_with fail
 refine (cmp_any _ _ _ _ _ Ha.out Hb.out).mono ?_
 rintro e w' ⟨rfl, nq, rfl⟩
 generalize cmpN m n = c at *
 have hcb2 : (w.drewN nq).cell? ⟨b, off + ((dig b64 n).length - 1), none⟩ = some (.int .u64 x) := hcb
 go_wp2_with fail
 refine (lz64_any x _ Hx.out s HS.out).mono ?_
 rintro e w' ⟨rfl, rfl⟩
 go_wp2_with fail
 have hq0 : Below w.heap.size w (w.drewN nq) := Quiet.below ⟨nq, rfl⟩
 refine (left_any n s _ _ (IsNat.below Hb.out hq0) (by omega) (by omega)).mono ?_
 rintro e w1 ⟨vV, rfl, hvV, hb1⟩
 have hx1 := ext_trans hq0 hb1
 clear hcb hcb2 hbB
 obtain ⟨av, cv, rfl, hV⟩ := IsRow.opened hvV
 obtain ⟨bV, offV, rfl, hbV, hcV⟩ := hV (by omega)
 have HcV := Lib.hid hcV
 clear hV hb1 hcV
 go_wp2_with fail
 have hx1a : Below w.heap.size w (w1.alloc (.cells #[] 80)) := hx1.alloc hx1.size _
 refine (left_any m s _ _ (IsNat.below Ha.out hx1a) (by omega) (by omega)).mono ?_
 rintro e w2 ⟨vU, rfl, hvU, hb2⟩
 have hy2 : Below w1.heap.size w1 w2 := ((Below.refl _ _).alloc (Nat.le_refl _) _).trans (hb2.mono (by simp))
 have hem := ownsRow_empty (w := w1) (e := 80) (by simpa using hb2)
 have hsz2 := hb2.size
 simp at hsz2
 obtain ⟨au, cu, rfl, hU⟩ := IsRow.opened hvU
 obtain ⟨bu, offu, rfl, hbU, hcU⟩ := hU (by omega)
 clear hvU hvV hU hb2 hq0 hx1a
 have hdU := dgs_dig b64_two (m * 2 ^ s)
 have HstartU := Lib.hid (DvIn.start (m * 2 ^ s) (n * 2 ^ s) (dig b64 (n * 2 ^ s)).length ((dig b64 (m * 2 ^ s)).length + 1 - (dig b64 (n * 2 ^ s)).length) (by omega) rfl hV0 (by omega))
 have HVlt := Lib.hid (lt_pow_dig_length b64_two (n * 2 ^ s))
 have HVv := Lib.hid (lv_dig b64_two (n * 2 ^ s))
 have HdV := Lib.hid (dgs_dig b64_two (n * 2 ^ s))
 generalize dig b64 (m * 2 ^ s) = dU at *
 generalize dig b64 (n * 2 ^ s) = dV at *
 go_wp2_with (at_builtin; refine wpList_append_own _ rfl (.tmp 45) (.tmp 48) 43 rfl w1.heap.size 80 i0 (.int .u64 0) 1 8 Try.underlying43 hi hz0 hz1 hz2 rfl (by decide) _ _ _ rfl hem ⟨bu, offu, none⟩ dU.length cu (dU.map (fun d : Nat => Value.int .u64 (d : Int))) rfl (by simp) (row_cells hcU) (row_one _) (by unfold maxLen; omega) (by omega) (by omega) ?_)
 intro v3 w3 hown3 hgr3 _
 try simp only [Nat.zero_add, List.nil_append] at hown3
 have hsz3 := hgr3.size
 have hy3 : Below w1.heap.size w1 w3 := hy2.grown hgr3 hy2.size (by intro k hk; simp [Value.ownBlock] at hk; omega)
 go_wp2_with (at_builtin; refine wpList_append_own _ rfl (.tmp 49) (.tmp 50) 43 rfl w1.heap.size 80 i0 (.int .u64 0) 1 8 Try.underlying43 hi hz0 hz1 hz2 rfl (by decide) _ _ _ rfl (hown3.alloc _) ⟨w3.heap.size, 0, none⟩ 1 1 [.int .u64 0] rfl rfl (cell_one_new _ _ _) (by simp [Value.oneCell']) (by unfold maxLen; omega) (by omega) (by simp; omega) ?_)
 intro v4 w4 hown4 hgr4 _
 have hy4 : Below w1.heap.size w1 w4 := (hy3.alloc hy3.size _).grown hgr4 (by simp; omega) (fun k hk => (hown3.lt k hk).1)
 have e0 : dU.map (fun d : Nat => Value.int .u64 (d : Int)) ++ [Value.int .u64 0] = (dU ++ [0]).map (fun d : Nat => Value.int .u64 (d : Int)) := by simp
 rw [e0] at hown4
 obtain ⟨g, cap, rfl⟩ := ownsRow_some hown4 (by omega)
 obtain ⟨hoU, hcap1, hcap2, hg1⟩ := Own.of_ownsRow (by simp) hown4
 have hgl := hoU.lt
 have Hcap2 := Lib.hid hcap2
 clear hown3 hown4 hgr3 hgr4 hem e0 hsz2 hsz3 hcU hbU hdU hy2 hy3 hcap2
 go_wp2_with (at_make; refine wpList_make_full _ rfl _ _ 43 rfl w4.heap.size 80 i0 (.int .u64 0) 1 Try.underlying43 hi hz0 hz1 _ _ _ _ (dU.length + 1 - dV.length) rfl rfl (by omega) (by omega) (by rw [hz2]; omega) (by unfold maxLen; omega) (by omega) ?_)
 intro w5 hown5 hgr5
 have hoQ := Own.of_made hown5
 have hy5 : Below w1.heap.size w1 w5 := hy4.grown hgr5 hy4.size (by simp)
 have hoU5 := hoU.grown hgr5 (by simp)
 clear hown5 hgr5 hy4 hoU hi hz0 hz1 hz2
 go_wp2_with fail
 go_loopw [13] (fun c wr => ∃ (j : Nat) (uu qq : List Nat), j ≤ dU.length + 1 - dV.length ∧ c = .int .i64 ((j : Int) - 1) ∧ Own wr g .u64 80 uu ∧ Own wr w4.heap.size .u64 80 qq ∧
   Hid (DvIn (m * 2 ^ s) (n * 2 ^ s) dV.length (dU.length + 1 - dV.length) j uu qq) ∧ Below w1.heap.size w1 wr) (fun c _ => ((intOf c) + 1).toNat)
 case atStart => exact ⟨_, _, _, Nat.le_refl _, by go_num, hoU5, hoQ, HstartU.out, hy5⟩
 case round =>
  clear hoU5 hoQ hy5
  obtain ⟨j, uu, qq, hj, rfl, hoU, hoQ, hD, hy⟩ := hrel
  have hsz1 := hx1.size
  rcases Nat.eq_zero_or_pos j with rfl | hjp
  ·
   have hdn := hD.out.done
   have hlq := hD.out.lq
   have hlu := hD.out.lu
   have hlu' : uu.length = dU.length + 1 := by omega
   have hrQ := hoQ.isRow (by unfold maxLen; omega)
   rw [hlq] at hrQ
   have hrU := hoU.isRowCap cap (by omega) Hcap2.out
   rw [hlu'] at hrU
   have hdQ := hD.out.dq
   have hdU := hD.out.du
   clear hlq hlu hlu'
   have e1 : n * 2 ^ s ≠ 0 := by omega
   have hp : 0 < 2 ^ s := Nat.two_pow_pos s
   have Hdiv : Hid (lv b64 qq = m / n) := by show lv b64 qq = m / n; rw [hdn.1, Nat.mul_div_mul_right _ _ hp]
   have Hmod : Hid (lv b64 uu = m % n * 2 ^ s) := by show lv b64 uu = m % n * 2 ^ s; rw [hdn.2, Nat.mul_mod_mul_right]
   clear hdn e1 hp
   go_wp2_with fail
   refine (cut_any qq _ _ hrQ hdQ).mono ?_
   rintro e w' ⟨vq, rfl, hvq, rfl⟩
   go_wp2_with fail
   refine (cut_any uu _ _ hrU hdU).mono ?_
   rintro e w' ⟨vr, rfl, hvr, rfl⟩
   rw [Hdiv.out] at hvq
   rw [Hmod.out] at hvr
   go_wp2_with fail
   have hlr : (dig b64 (m % n * 2 ^ s)).length ≤ 549755813888 := by
    have h1 := dig_length_shift (m % n) s (by omega)
    have h2 := dig_length_mono b64_two (show m % n ≤ n from Nat.le_of_lt (Nat.mod_lt _ hn0))
    omega
   refine (right_any (m % n * 2 ^ s) s _ _ hvr hlr (by omega)).mono ?_
   rintro e w6 ⟨vr2, rfl, hvr2, hb6⟩
   rw [Nat.mul_div_cancel _ (Nat.two_pow_pos s)] at hvr2
   go_wp2_with fail
   go_ret2
   exact ⟨_, _, rfl, hvq.below hb6, hvr2, ext_trans (hx1.trans (hy.mono hsz1)) hb6⟩
  ·
   obtain ⟨i, rfl⟩ : ∃ i, j = i + 1 := ⟨j - 1, by omega⟩
   have hW := hD.out.win hj HVlt.out hV0
   have hlu := hD.out.lu
   generalize (uu.drop i).take (dV.length + 1) = u at *
   have hpl : (uu.take i).length = i := by simp; omega
   have hoU' := hoU
   rw [hW.split] at hoU'
   have hdg := digit_any (uu.take i) u (uu.drop (i + dV.length + 1)) dV g (cap - i) bV offV cv wr hoU' hW.len hW.dgs HdV.out (by omega) (by rw [HVv.out]; exact hV0) (by rw [HVv.out]; exact hW.lt) (by rw [hW.len]; omega) (by have := Hcap2.out; omega) (by omega) (Nat.lt_of_lt_of_le hbV hy.size)
    (fun q hq => (hy.cell (p := ⟨bV, offV + q, none⟩) hbV).trans (HcV.out q hq)) (by omega) (by rw [hpl]; omega)
   rw [hpl, HVv.out] at hdg
   have HD := Lib.hid hdg
   have HW := Lib.hid hW
   have hcq := hoQ.cell i (by rw [hD.out.lq]; omega)
   have hfq := hoQ.frozen i
   have e1 : ((i + 1 : Nat) : Int) - 1 = (i : Int) := by omega
   rw [e1]
   have hne : ¬ cap = i := by omega
   have hle1 : (i : Int) + dV.length + 1 ≤ cap := by omega
   clear hdg hW hoU' hlu
   go_wp2_with fail
   rw [show i + dV.length + 1 - i = dV.length + 1 from by omega]
   refine HD.out.mono ?_
   rintro e w6 ⟨u', rfl, hl', hd', hv', hoU6, hgr6⟩
   have hoQ6 := hoQ.grown hgr6 (by simp; omega)
   have hcq6 := hoQ6.cell i (by rw [hD.out.lq]; omega)
   have hfq6 := hoQ6.frozen i
   have hstep := Lib.hid (hD.out.step hj HW.out hV0 hl' hd' hv')
   have Hl' := Lib.hid hl'
   have Hv' := Lib.hid hv'
   have hy6 : Below w1.heap.size w1 w6 := hy.grown hgr6 hy.size (by simp; omega)
   clear hl' hv' hcq hfq
   generalize lv b64 u / (n * 2 ^ s) = dgt at *
   go_wp2_with fail
   exact ⟨⟨i, _, _, by omega, rfl, hoU6.other (by show w4.heap.size ≠ g; omega) _, hoQ6.store _ _, hstep.out, hy6.setCell (p := ⟨w4.heap.size, i, none⟩) (by show w1.heap.size ≤ w4.heap.size; omega) _⟩, by simp [intOf]⟩


theorem divide_any (m n : Nat) (va vb : Value) (w : World) (ha : IsNat .u64 b64 w va m) (hb : IsNat .u64 b64 w vb n) (hn0 : 0 < n) (hsz : (dig b64 m).length ≤ 274877906944) :
  Calls Try.prog 62 #[va, vb] w (RetTwo (m / n) (m % n) w) := by
 by_cases h : m < n
 ·
  exact divide_less m n va vb w ha hb h
 ·
  by_cases h1 : (dig b64 n).length = 1
  ·
   exact divide_word m n va vb w ha hb h h1 (by omega)
  ·
   exact divide_long m n va vb w ha hb h hn0 h1 hsz

end Go.Proofs.Ytnjpkfccncjkhaa
