/- Part a of the lemmas and walks. -/
import Derived.WalkKit
import Derived.WalkSpells
import Derived.WalkLawsBesides
import Derived.Lib.Hide
import Derived.BigQuiet
import Derived.Test.YtofijjomfhmbjaaGreatShelf
import Derived.Shelf.Spec.BitsCarry
import Derived.Deep.DeepCutAuto
import Derived.Deep.CutBlock
import Derived.Deep.LoopGhost
import Derived.Deep.RegionHeld3
import Derived.Deep.AppendLies
import Derived.Laws.FloatArith
import Derived.ProofKit
import Derived.OpenShut
import Derived.ChangeOld
import Derived.Deep.Slices
import Derived.Laws.OwnMore
import Derived.RangeFuncNested
import Derived.RangeFuncBound
import Derived.RangeFuncCalls
import Derived.RangeFuncLeaves
import Derived.Shelf.Abstract
import Derived.Shelf.RegionOpen
import Derived.OwnWalkIn
import Derived.TacticsInMore
import Derived.LoopNIn
import Derived.LoopIn
import Derived.Laws.EntriesVeiled
import Derived.Sort.BigQuietIn
import Derived.Lib.MinMax
import Derived.Deep.QuietTactic
import Derived.Laws.StructEq
import Derived.Deep.Upon
import Derived.Lib.SlBytesRow
import Derived.Maps.Own

namespace Go.Proofs.YtofijjomfhmbjaaGreat
open Go.RowKit
theorem na1 {α : Type _} {xs : List α} {i : Nat} (h : i < xs.toArray.size) : xs.toArray[i] = xs[i] := List.getElem_toArray h
theorem na2 {α : Type _} (a : α) (l : List α) (h : 0 < (a :: l).length) : (a :: l)[0] = a := List.getElem_cons_zero a l h
theorem na3 {α : Type _} (a : α) (l : List α) (i : Nat) (h : i + 1 < (a :: l).length) : (a :: l)[i + 1] = l[i]'(by simpa using h) := List.getElem_cons_succ a l i h
theorem na4 {α : Type _} (l : List α) (i : Nat) (a : α) : l.toArray.setIfInBounds i a = (l.set i a).toArray := List.setIfInBounds_toArray l i a
theorem na5 {α : Type _} {x : α} {xs : List α} {a : α} : (x :: xs).set 0 a = a :: xs := List.set_cons_zero
theorem na6 {α : Type _} {x : α} {xs : List α} {i : Nat} {a : α} : (x :: xs).set (i + 1) a = x :: xs.set i a := List.set_cons_succ
section
variable {P : Program} {ops : Array Oper} {Q : Exit → Act → World → Prop} {md : Region.Mode} {S : World → Prop}
/-- wpAnyH_take with its checks filled in. -/
theorem tk0 {i : Nat} {oi : Oper} {v : Value} {fuel : Nat} {listed : Array Bool} {a : Act} {w : World} (hi : ops[i]? = some oi) (hy : YieldsIf P ops S oi v a) (hS : S w)
    (h : wpAnyH P md ops Q S fuel (listed.setIfInBounds i true) (a.put oi.dst v) w) (hs : Region.noSelect ops = true := by kernel_rfl) (hf : Region.free md ops listed i = true := by kernel_rfl)
    (hr : (Region.ready md ops listed).contains i = true := by kernel_rfl) (hQ : ∀ c a w, Q (.panic c) (a.put oi.dst v) w → Q (.panic c) a w := by exact fun _ _ _ h => h) : wpAnyH P md ops Q S (fuel + 1) listed a w :=
  wpAnyH_take hi hs hf hr hQ hy hS h
theorem rd1 {i : Nat} {o : Oper} {fuel : Nat} {listed : Array Bool} {a : Act} {w : World} (ho : ops[i]? = some o)
    (h : ∀ K' : Act → World → Prop, Shut (∀ a w, S w → (S w → wpAnyH P md ops Q S fuel (listed.setIfInBounds i true) a w) → K' a w) → if Region.wanted o (yielded ops a.tmps) = true then Oper.wp P o a w K' Q else K' (a.put o.dst undef) w)
    (hr : Region.ready md ops listed = [i] := by kernel_rfl) : wpAnyH P md ops Q S (fuel + 1) listed a w :=
  wpAnyH_ready hr (by simp) (AllReadyH.cons ho h AllReadyH.nil)
end
end Go.Proofs.YtofijjomfhmbjaaGreat

namespace Go.Proofs.YtofijjomfhmbjaaGreat

def lv (B : Nat) : List Nat → Nat
 | [] => 0
 | d :: ds => d + B * lv B ds

def digF (B : Nat) : Nat → Nat → List Nat
 | 0, _ => []
 | f + 1, n => if n = 0 then [] else n % B :: digF B f (n / B)

def dig (B n : Nat) : List Nat := digF B n n

def Dgs (B : Nat) (ds : List Nat) : Prop := ∀ d ∈ ds, d < B

theorem Dgs.nil (B : Nat) : Dgs B [] := by intro d h; cases h
theorem Dgs.cons {B d : Nat} {ds : List Nat} (h : d < B) (hs : Dgs B ds) : Dgs B (d :: ds) := by
 intro x hx
 rcases List.mem_cons.1 hx with rfl | hx
 ·
  exact h
 ·
  exact hs x hx
theorem Dgs.head {B d : Nat} {ds : List Nat} (h : Dgs B (d :: ds)) : d < B := h d (by simp)
theorem Dgs.tail {B d : Nat} {ds : List Nat} (h : Dgs B (d :: ds)) : Dgs B ds := fun x hx => h x (by simp [hx])
theorem Dgs.getD {B : Nat} {ds : List Nat} (h : Dgs B ds) (hB : 0 < B) (i : Nat) : ds.getD i 0 < B := by
 by_cases hi : i < ds.length
 ·
  have : ds.getD i 0 = ds[i] := by simp [hi]
  rw [this]; exact h _ (List.getElem_mem hi)
 ·
  simp [List.getElem?_eq_none (Nat.le_of_not_lt hi)]; exact hB
theorem Dgs.append {B : Nat} {a b : List Nat} (ha : Dgs B a) (hb : Dgs B b) : Dgs B (a ++ b) := by
 intro x hx
 rcases List.mem_append.1 hx with h | h
 ·
  exact ha x h
 ·
  exact hb x h
theorem Dgs.take {B : Nat} {a : List Nat} (ha : Dgs B a) (k : Nat) : Dgs B (a.take k) := fun x hx => ha x (List.mem_of_mem_take hx)
theorem Dgs.drop {B : Nat} {a : List Nat} (ha : Dgs B a) (k : Nat) : Dgs B (a.drop k) := fun x hx => ha x (List.mem_of_mem_drop hx)
theorem Dgs.set {B : Nat} {a : List Nat} (ha : Dgs B a) (k x : Nat) (hx : x < B) : Dgs B (a.set k x) := by
 intro y hy
 rcases List.mem_or_eq_of_mem_set hy with h | rfl
 ·
  exact ha y h
 ·
  exact hx
theorem Dgs.replicate {B : Nat} (hB : 0 < B) (k : Nat) : Dgs B (List.replicate k 0) := by
 intro x hx
 rw [(List.mem_replicate.1 hx).2]; exact hB

theorem lv_cons (B d : Nat) (ds : List Nat) : lv B (d :: ds) = d + B * lv B ds := rfl

theorem lv_append (B : Nat) (a b : List Nat) : lv B (a ++ b) = lv B a + B ^ a.length * lv B b := by
 induction a with
 | nil => simp [lv]
 | cons d a ih =>
  simp only [List.cons_append, lv_cons, ih, List.length_cons, Nat.mul_add, Nat.pow_succ]
  rw [← Nat.mul_assoc, Nat.mul_comm B (B ^ a.length)]
  omega

theorem lv_replicate (B k : Nat) : lv B (List.replicate k 0) = 0 := by
 induction k with
 | zero => rfl
 | succ k ih => simp [List.replicate_succ, lv_cons, ih]

theorem lv_lt {B : Nat} {ds : List Nat} (h : Dgs B ds) : lv B ds < B ^ ds.length := by
 induction ds with
 | nil => simp [lv]
 | cons d ds ih =>
  have h1 := h.head
  have h2 := ih h.tail
  simp only [lv_cons, List.length_cons, Nat.pow_succ]
  have : B * (lv B ds + 1) ≤ B * B ^ ds.length := Nat.mul_le_mul_left _ h2
  rw [Nat.mul_add] at this
  rw [Nat.mul_comm (B ^ ds.length) B]
  omega

theorem lv_take_succ (B : Nat) (ds : List Nat) (k : Nat) (h : k < ds.length) : lv B (ds.take (k + 1)) = lv B (ds.take k) + B ^ k * ds.getD k 0 := by
 rw [List.take_succ_eq_append_getElem h, lv_append]
 have : (ds.take k).length = k := by simp; omega
 simp [this, lv, h]

theorem lv_take_drop (B : Nat) (ds : List Nat) (k : Nat) (h : k ≤ ds.length) : lv B ds = lv B (ds.take k) + B ^ k * lv B (ds.drop k) := by
 have h1 : (ds.take k).length = k := by simp; omega
 have := lv_append B (ds.take k) (ds.drop k)
 rw [List.take_append_drop, h1] at this
 exact this

theorem lv_set (B : Nat) (ds : List Nat) (k x : Nat) (h : k < ds.length) : lv B (ds.set k x) + B ^ k * ds.getD k 0 = lv B ds + B ^ k * x := by
 induction ds generalizing k with
 | nil => simp at h
 | cons d ds ih =>
  cases k with
  | zero => simp [lv_cons]; omega
  | succ k =>
   have := ih k (by simpa using h)
   simp only [List.set_cons_succ, lv_cons, Nat.pow_succ, List.getD_cons_succ] at *
   have e : ∀ y, B ^ k * B * y = B * (B ^ k * y) := fun y => by rw [Nat.mul_comm (B ^ k) B, Nat.mul_assoc]
   rw [e, e]
   have : B * (lv B (ds.set k x) + B ^ k * ds.getD k 0) = B * (lv B ds + B ^ k * x) := by rw [this]
   rw [Nat.mul_add, Nat.mul_add] at this
   omega

/-! ### The canonical digits -/
theorem digF_zero (B f : Nat) : digF B f 0 = [] := by cases f <;> simp [digF]

theorem digF_fuel {B : Nat} (hB : 2 ≤ B) : ∀ (f g n : Nat), n ≤ f → n ≤ g → digF B f n = digF B g n := by
  intro f
  induction f with
  | zero => intro g n hf hg; obtain rfl : n = 0 := by omega
            rw [digF_zero, digF_zero]
  | succ f ih =>
    intro g n hf hg
    cases g with
    | zero => obtain rfl : n = 0 := by omega
              rw [digF_zero, digF_zero]
    | succ g =>
      simp only [digF]
      by_cases hn : n = 0
      · simp [hn]
      · simp only [hn, if_false]
        have : n / B < n := Nat.div_lt_self (by omega) (by omega)
        rw [ih g (n / B) (by omega) (by omega)]

theorem dig_zero (B : Nat) : dig B 0 = [] := rfl
theorem dig_pos {B n : Nat} (hB : 2 ≤ B) (hn : n ≠ 0) : dig B n = n % B :: dig B (n / B) := by
 unfold dig
 cases n with
 | zero => exact absurd rfl hn
 | succ n =>
  simp only [digF, if_neg hn]
  have : (n + 1) / B < n + 1 := Nat.div_lt_self (by omega) (by omega)
  rw [digF_fuel hB n ((n + 1) / B) ((n + 1) / B) (by omega) (Nat.le_refl _)]

theorem lv_dig {B : Nat} (hB : 2 ≤ B) (n : Nat) : lv B (dig B n) = n := by
 induction n using Nat.strongRecOn with
 | _ n ih =>
  by_cases hn : n = 0
  ·
   subst hn; rfl
  ·
   rw [dig_pos hB hn, lv_cons, ih (n / B) (Nat.div_lt_self (by omega) (by omega))]
   exact Nat.mod_add_div n B

theorem dgs_dig {B : Nat} (hB : 2 ≤ B) (n : Nat) : Dgs B (dig B n) := by
 induction n using Nat.strongRecOn with
 | _ n ih =>
  by_cases hn : n = 0
  ·
   subst hn; exact Dgs.nil B
  ·
   rw [dig_pos hB hn]
   exact Dgs.cons (Nat.mod_lt _ (by omega)) (ih (n / B) (Nat.div_lt_self (by omega) (by omega)))

theorem dig_nil_iff {B : Nat} (hB : 2 ≤ B) (n : Nat) : dig B n = [] ↔ n = 0 := by
 constructor
 ·
  intro h
  have := lv_dig hB n
  rw [h] at this
  exact this.symm
 ·
  rintro rfl; rfl

theorem dig_one {B n : Nat} (hB : 2 ≤ B) (h0 : n ≠ 0) (h : n < B) : dig B n = [n] := by
 rw [dig_pos hB h0, Nat.mod_eq_of_lt h, Nat.div_eq_of_lt h, dig_zero]

theorem dig_of {B : Nat} (hB : 2 ≤ B) : ∀ (ds : List Nat), Dgs B ds → (∀ h : ds ≠ [], ds.getLast h ≠ 0) → dig B (lv B ds) = ds := by
 intro ds
 induction ds with
 | nil => intro _ _; rfl
 | cons d ds ih =>
  intro hd hl
  have hd1 := hd.head
  have ih' : dig B (lv B ds) = ds := ih hd.tail (fun h => by have := hl (by simp); rwa [List.getLast_cons h] at this)
  have hne : lv B (d :: ds) ≠ 0 := by
   intro h0
   have e : d + B * lv B ds = 0 := h0
   have hd0 : d = 0 := by omega
   have hm : B * lv B ds = 0 := by omega
   have hv0 : lv B ds = 0 := by
    rcases Nat.mul_eq_zero.1 hm with h | h
    ·
     omega
    ·
     exact h
   have hnil : ds = [] := by rw [← ih', hv0]; rfl
   subst hnil
   have := hl (by simp)
   simp at this
   exact this hd0
  rw [dig_pos hB hne, lv_cons]
  have e1 : (d + B * lv B ds) % B = d := by rw [Nat.add_mul_mod_self_left]; exact Nat.mod_eq_of_lt hd1
  have e2 : (d + B * lv B ds) / B = lv B ds := by rw [Nat.add_mul_div_left _ _ (by omega), Nat.div_eq_of_lt hd1]; omega
  rw [e1, e2, ih']

theorem dig_last {B : Nat} (hB : 2 ≤ B) (n : Nat) (h : dig B n ≠ []) : (dig B n).getLast h ≠ 0 := by
 induction n using Nat.strongRecOn with
 | _ n ih =>
  by_cases hn : n = 0
  ·
   subst hn; exact absurd rfl h
  ·
   by_cases hq : n / B = 0
   ·
    have e : dig B n = [n % B] := by rw [dig_pos hB hn, hq, dig_zero]
    have hlt : n < B := by
     rcases Nat.lt_or_ge n B with h | h
     ·
      exact h
     ·
      have := Nat.div_pos h (by omega); omega
    have : (dig B n).getLast h = n % B := by simp [e]
    rw [this, Nat.mod_eq_of_lt hlt]; exact hn
   ·
    have hq' : dig B (n / B) ≠ [] := fun h' => hq ((dig_nil_iff hB _).1 h')
    have := ih (n / B) (Nat.div_lt_self (by omega) (by omega)) hq'
    have e : (dig B n).getLast h = (dig B (n / B)).getLast hq' := by
     have e1 := dig_pos hB hn
     simp only [e1]
     rw [List.getLast_cons hq']
    rw [e]; exact this

theorem dig_lv_snoc_zero {B : Nat} (ds : List Nat) : lv B (ds ++ [0]) = lv B ds := by rw [lv_append]; simp [lv]

theorem dig_length_le {B : Nat} (hB : 2 ≤ B) : ∀ (k n : Nat), n < B ^ k → (dig B n).length ≤ k := by
  intro k
  induction k with
  | zero => intro n h; obtain rfl : n = 0 := by simpa using h
            simp [dig_zero]
  | succ k ih =>
    intro n h
    by_cases hn : n = 0
    · subst hn; simp [dig_zero]
    · rw [dig_pos hB hn]
      simp only [List.length_cons]
      have : n / B < B ^ k := by
        rw [Nat.div_lt_iff_lt_mul (by omega)]
        rw [Nat.pow_succ] at h; exact h
      have := ih _ this
      omega

theorem lt_pow_dig_length {B : Nat} (hB : 2 ≤ B) (n : Nat) : n < B ^ (dig B n).length := by
 have := lv_lt (dgs_dig hB n)
 rwa [lv_dig hB] at this

theorem pow_le_of_dig_length {B : Nat} (hB : 2 ≤ B) (n k : Nat) (h : k < (dig B n).length) : B ^ k ≤ n := by
 rcases Nat.lt_or_ge n (B ^ k) with h' | h'
 ·
  have := dig_length_le hB k n h'; omega
 ·
  exact h'

theorem dig_length_mono {B : Nat} (hB : 2 ≤ B) {m n : Nat} (h : m ≤ n) : (dig B m).length ≤ (dig B n).length :=
 dig_length_le hB _ _ (Nat.lt_of_le_of_lt h (lt_pow_dig_length hB n))

theorem dig_length_mul {B : Nat} (hB : 2 ≤ B) (m n : Nat) : (dig B (m * n)).length ≤ (dig B m).length + (dig B n).length := by
 by_cases hn : n = 0
 ·
  subst hn; simp [dig_zero]
 refine dig_length_le hB _ _ ?_
 rw [Nat.pow_add]
 exact Nat.mul_lt_mul_of_lt_of_le (lt_pow_dig_length hB m) (Nat.le_of_lt (lt_pow_dig_length hB n)) (Nat.pow_pos (by omega))

theorem dig_length_add {B : Nat} (hB : 2 ≤ B) (m n k : Nat) (hm : (dig B m).length ≤ k) (hn : (dig B n).length ≤ k) : (dig B (m + n)).length ≤ k + 1 := by
 refine dig_length_le hB _ _ ?_
 have h1 : m < B ^ k := Nat.lt_of_lt_of_le (lt_pow_dig_length hB m) (Nat.pow_le_pow_right (by omega) hm)
 have h2 : n < B ^ k := Nat.lt_of_lt_of_le (lt_pow_dig_length hB n) (Nat.pow_le_pow_right (by omega) hn)
 rw [Nat.pow_succ]
 have : B ^ k * 2 ≤ B ^ k * B := Nat.mul_le_mul_left _ hB
 omega

/-! ### Comparison from the greatest digit down -/
theorem lv_lt_of_digit {B : Nat} {a b : List Nat} (ha : Dgs B a) (i : Nat) (hi : i < a.length) (hlen : a.length = b.length)
  (heq : a.drop (i + 1) = b.drop (i + 1)) (hlt : a.getD i 0 < b.getD i 0) : lv B a < lv B b := by
 have h1 := lv_take_drop B a (i + 1) (by omega)
 have h2 := lv_take_drop B b (i + 1) (by omega)
 rw [lv_take_succ B a i hi] at h1
 rw [lv_take_succ B b i (by omega)] at h2
 rw [h1, h2, heq]
 have h3 : lv B (a.take i) < B ^ i := by
  have := lv_lt (ha.take i)
  have e : (a.take i).length = i := by simp; omega
  rwa [e] at this
 have h4 : B ^ i * (a.getD i 0 + 1) ≤ B ^ i * b.getD i 0 := Nat.mul_le_mul_left _ hlt
 rw [Nat.mul_add] at h4
 omega

theorem lt_of_dig_length {B : Nat} (hB : 2 ≤ B) {m n : Nat} (h : (dig B m).length < (dig B n).length) : m < n := by
 rcases Nat.lt_or_ge m n with h' | h'
 ·
  exact h'
 ·
  have := dig_length_mono hB h'; omega

def b64 : Nat := 18446744073709551616
def b32 : Nat := 4294967296
theorem b64_two : 2 ≤ b64 := by unfold b64; omega
theorem b32_two : 2 ≤ b32 := by unfold b32; omega
theorem b64_pos : 0 < b64 := by unfold b64; omega
theorem b32_pos : 0 < b32 := by unfold b32; omega
theorem b64_pow : b64 = 2 ^ 64 := by unfold b64; omega
theorem b32_pow : b32 = 2 ^ 32 := by unfold b32; omega
theorem b64_sq : b64 = b32 * b32 := by unfold b64 b32; omega

end Go.Proofs.YtofijjomfhmbjaaGreat

namespace Go.Proofs.YtofijjomfhmbjaaGreat
open Go.RowKit

def IsRow (k : IntKind) (w : World) (v : Value) (ds : List Nat) : Prop :=
 (ds = [] ∧ ∃ ao cap, v = .slice ao 0 cap ∧ cap ≤ maxLen ∧ (ao = none → cap = 0)) ∨
 (0 < ds.length ∧ ∃ b off cap, v = .slice (some ⟨b, off, none⟩) ds.length cap ∧ ds.length ≤ cap ∧ cap ≤ maxLen ∧ b < w.heap.size ∧
  ∀ j, j < ds.length → w.cell? ⟨b, off + j, none⟩ = some (.int k (ds.getD j 0 : Nat)))

def IsNat (k : IntKind) (B : Nat) (w : World) (v : Value) (n : Nat) : Prop := IsRow k w v (dig B n)

theorem IsRow.below {k : IntKind} {w w' : World} {v : Value} {ds : List Nat} (h : IsRow k w v ds) (hb : Below w.heap.size w w') : IsRow k w' v ds := by
 rcases h with h | ⟨h0, b, off, cap, rfl, h1, h2, h3, h4⟩
 ·
  exact .inl h
 ·
  exact .inr ⟨h0, b, off, cap, rfl, h1, h2, Nat.lt_of_lt_of_le h3 hb.size, fun j hj => (hb.cell (p := ⟨b, off + j, none⟩) h3).trans (h4 j hj)⟩

theorem IsNat.below {k : IntKind} {B : Nat} {w w' : World} {v : Value} {n : Nat} (h : IsNat k B w v n) (hb : Below w.heap.size w w') : IsNat k B w' v n :=
 IsRow.below h hb

theorem IsRow.nil (k : IntKind) (w : World) : IsRow k w (.slice none 0 0) [] := .inl ⟨rfl, _, _, rfl, by unfold maxLen; omega, fun _ => rfl⟩
theorem IsNat.zero (k : IntKind) (B : Nat) (w : World) : IsNat k B w (.slice none 0 0) 0 := IsRow.nil k w

theorem IsRow.len {k : IntKind} {w : World} {v : Value} {ds : List Nat} (h : IsRow k w v ds) : ds.length ≤ maxLen := by
 rcases h with ⟨rfl, _⟩ | ⟨_, _, _, _, _, h1, h2, _⟩
 ·
  simp
 ·
  omega

def RetNat (k : IntKind) (B n : Nat) (w : World) (e : Ending) (w' : World) : Prop :=
 ∃ v, e = .returned v ∧ IsNat k B w' v n ∧ Below w.heap.size w w'

def RetNatSame (k : IntKind) (B n : Nat) (w : World) (e : Ending) (w' : World) : Prop :=
 ∃ v, e = .returned v ∧ IsNat k B w v n ∧ w = w'


def Own (w : World) (g : Nat) (k : IntKind) (e : TypeId) (ds : List Nat) : Prop :=
 ∃ tl : List Value, w.heap[g]? = some (.cells (ds.map (fun d : Nat => Value.int k (d : Int)) ++ tl).toArray e (0, 0))

theorem Own.lt {w : World} {g : Nat} {k : IntKind} {e : TypeId} {ds : List Nat} (h : Own w g k e ds) : g < w.heap.size := by
 obtain ⟨tl, h⟩ := h; exact (Array.getElem?_eq_some_iff.1 h).1

theorem Own.cell {w : World} {g : Nat} {k : IntKind} {e : TypeId} {ds : List Nat} (h : Own w g k e ds) (j : Nat) (hj : j < ds.length) : w.cell? ⟨g, j, none⟩ = some (.int k (ds.getD j 0 : Nat)) := by
 obtain ⟨tl, h⟩ := h
 rw [cell_of_row w g j _ e (0, 0) h]
 simp [hj, List.getElem?_append_left]

theorem Own.frozen {w : World} {g : Nat} {k : IntKind} {e : TypeId} {ds : List Nat} (h : Own w g k e ds) (j : Nat) : w.frozen? ⟨g, j, none⟩ = false := by
 obtain ⟨tl, h⟩ := h; exact frozen_of_row w g j _ e h

theorem Own.store {w : World} {g : Nat} {k : IntKind} {e : TypeId} {ds : List Nat} (h : Own w g k e ds) (j x : Nat) : Own (w.setCell ⟨g, j, none⟩ (.int k x)) g k e (ds.set j x) := by
 obtain ⟨tl, h⟩ := h
 unfold Own
 rw [heap_setCell_same w g j _ e _ h]
 by_cases hj : j < ds.length
 ·
  refine ⟨tl, ?_⟩
  simp [List.map_set, List.set_append_left _ _ (show j < (ds.map (fun d : Nat => Value.int k (d : Int))).length by simpa using hj)]
 ·
  refine ⟨tl.set (j - ds.length) (.int k x), ?_⟩
  rw [List.set_eq_of_length_le (by omega)]
  have := List.set_append_right (s := ds.map (fun d : Nat => Value.int k (d : Int))) (t := tl) j (Value.int k x) (by simp; omega)
  simp only [List.length_map] at this
  simp [this]

theorem Own.other {w : World} {g : Nat} {k : IntKind} {e : TypeId} {ds : List Nat} (h : Own w g k e ds) {a : Addr} (ha : a.block ≠ g) (u : Value) : Own (w.setCell a u) g k e ds := by
 obtain ⟨tl, h⟩ := h
 refine ⟨tl, ?_⟩
 rw [heap_setCell_other w a g u (Ne.symm ha)]
 exact h

theorem Own.alloc {w : World} {g : Nat} {k : IntKind} {e : TypeId} {ds : List Nat} (h : Own w g k e ds) (o : Obj) : Own (w.alloc o) g k e ds := by
 have hl := h.lt
 obtain ⟨tl, h⟩ := h
 refine ⟨tl, ?_⟩
 rw [heap_alloc_old w o hl]
 exact h

theorem Own.below {w w' : World} {g : Nat} {k : IntKind} {e : TypeId} {ds : List Nat} (h : Own w g k e ds) {B : Nat} (hb : Below B w w') (hg : g < B) : Own w' g k e ds := by
 obtain ⟨tl, h⟩ := h
 refine ⟨tl, ?_⟩
 rw [hb.block g hg]
 exact h

theorem Own.grown {w w' : World} {g : Nat} {k : IntKind} {e : TypeId} {ds : List Nat} (h : Own w g k e ds) {row : Option Nat} (hb : w.grownBy w' row) (hg : some g ≠ row) : Own w' g k e ds := by
 have hl := h.lt
 obtain ⟨tl, h⟩ := h
 refine ⟨tl, ?_⟩
 rw [hb.block g hl hg]
 exact h

theorem Own.drewN {w : World} {g : Nat} {k : IntKind} {e : TypeId} {ds : List Nat} (h : Own w g k e ds) (n : Nat) : Own (w.drewN n) g k e ds := h
theorem Own.drew {w : World} {g : Nat} {k : IntKind} {e : TypeId} {ds : List Nat} (h : Own w g k e ds) : Own w.drew g k e ds := h

theorem Own.of_ownsRow {w : World} {g base cap n : Nat} {k : IntKind} {e : TypeId} {ds : List Nat} (hn : ds.length = n)
  (h : w.ownsRow base e 1 (.slice (some ⟨g, 0, none⟩) n cap) n (ds.map (fun d : Nat => Value.int k (d : Int)))) : Own w g k e ds ∧ n ≤ cap ∧ cap ≤ maxLen ∧ base ≤ g := by
 rcases h.2 with ⟨h', _⟩ | ⟨g', cap', cur, h', hb, hg, hnc, hcm, hcs, htake⟩
 ·
  simp at h'
 ·
  simp only [Value.slice.injEq, Option.some.injEq, Addr.mk.injEq, and_true, true_and] at h'
  obtain ⟨rfl, rfl⟩ := h'
  refine ⟨⟨cur.toList.drop n, ?_⟩, hnc, hcm, hb⟩
  rw [hg]
  rw [Nat.mul_one] at htake
  rw [← htake, List.take_append_drop]

theorem Own.of_made {w : World} {g base : Nat} {k : IntKind} {e : TypeId} {n : Nat}
  (h : w.ownsRow base e 1 (.slice (some ⟨g, 0, none⟩) n n) n (madeCells #[Value.int k 0] n).toList) : Own w g k e (List.replicate n 0) := by
 rw [toList_madeCells_one] at h
 exact (Own.of_ownsRow (cap := n) (n := n) (base := base) (ds := List.replicate n 0) (by simp) (by simpa using h)).1

theorem Own.isRowCap {w : World} {g : Nat} {k : IntKind} {e : TypeId} {ds : List Nat} (h : Own w g k e ds) (cap : Nat) (h1 : ds.length ≤ cap) (h2 : cap ≤ maxLen) : IsRow k w (.slice (some ⟨g, 0, none⟩) ds.length cap) ds := by
 rcases Nat.eq_zero_or_pos ds.length with h0 | hp
 ·
  left
  refine ⟨List.eq_nil_of_length_eq_zero h0, _, _, by rw [h0], h2, by simp⟩
 ·
  exact .inr ⟨hp, g, 0, cap, rfl, h1, h2, h.lt, fun j hj => by rw [Nat.zero_add]; exact h.cell j hj⟩

theorem Own.isRow {w : World} {g : Nat} {k : IntKind} {e : TypeId} {ds : List Nat} (h : Own w g k e ds) (hl : ds.length ≤ maxLen) : IsRow k w (.slice (some ⟨g, 0, none⟩) ds.length ds.length) ds :=
 h.isRowCap _ (Nat.le_refl _) hl

def addLo (x y c : Nat) : Nat := (x + y + c) % b64
def addHi (x y c : Nat) : Nat := (x + y + c) / b64
def mulLo (x y : Nat) : Nat := x * y % b64
def mulHi (x y : Nat) : Nat := x * y / b64
def subLo (x y b : Nat) : Nat := (b64 + x - y - b) % b64
def subHi (x y b : Nat) : Nat := if x < y + b then 1 else 0
theorem addLo_lt (x y c : Nat) : addLo x y c < b64 := Nat.mod_lt _ b64_pos
theorem mulLo_lt (x y : Nat) : mulLo x y < b64 := Nat.mod_lt _ b64_pos
theorem subLo_lt (x y c : Nat) : subLo x y c < b64 := Nat.mod_lt _ b64_pos
theorem add_eq (x y c : Nat) : addLo x y c + b64 * addHi x y c = x + y + c := Nat.mod_add_div _ _
theorem mul_eq (x y : Nat) : mulLo x y + b64 * mulHi x y = x * y := Nat.mod_add_div _ _
theorem addHi_le (x y c : Nat) (hx : x < b64) (hy : y < b64) (hc : c ≤ 1) : addHi x y c ≤ 1 := by
 unfold addHi
 have : x + y + c < b64 * 2 := by omega
 have := Nat.div_lt_of_lt_mul this
 omega
theorem subHi_le (x y c : Nat) : subHi x y c ≤ 1 := by unfold subHi; split <;> omega


def divQ (hi lo y : Nat) : Nat := (hi * b64 + lo) / y
def divR (hi lo y : Nat) : Nat := (hi * b64 + lo) % y

theorem below_dn {B : Nat} {a w : World} (h : Below B a w) (n : Nat) : Below B a (w.drewN n) := ⟨h.os, h.tape, h.output, h.size, h.block⟩

theorem IsRow.opened {k : IntKind} {w : World} {v : Value} {ds : List Nat} (h : IsRow k w v ds) : ∃ ao cap, v = .slice ao ds.length cap ∧
  (0 < ds.length → ∃ b off, ao = some ⟨b, off, none⟩ ∧ b < w.heap.size ∧ ∀ j, j < ds.length → w.cell? ⟨b, off + j, none⟩ = some (.int k (ds.getD j 0 : Nat))) := by
 rcases h with ⟨rfl, ao, cap, rfl, _⟩ | ⟨_, b, off, cap, rfl, _, _, hb, hc⟩
 ·
  exact ⟨_, _, rfl, fun h => absurd h (by simp)⟩
 ·
  exact ⟨_, _, rfl, fun _ => ⟨b, off, rfl, hb, hc⟩⟩


theorem meas_up {n i : Nat} (h : i < n) : n - (intOf (.int .i64 ((i : Int) + 1))).toNat < n - (intOf (.int .i64 (i : Int))).toNat := by simp [intOf]; omega


theorem ext_trans {w a b : World} (h : Below w.heap.size w a) (k : Below a.heap.size a b) : Below w.heap.size w b := h.trans (k.mono h.size)


theorem ownsRow_some {w : World} {base : Nat} {e : TypeId} {size : Nat} {v : Value} {n : Nat} {xs : List Value} (h : w.ownsRow base e size v n xs) (hn : 0 < n) : ∃ g cap, v = .slice (some ⟨g, 0, none⟩) n cap := by
 rcases h.2 with ⟨_, h0⟩ | ⟨g, cap, cur, rfl, _⟩
 ·
  omega
 ·
  exact ⟨g, cap, rfl⟩

theorem ownsRow_empty {w w' : World} {e : TypeId} (h : Below (w.heap.size + 1) (w.alloc (.cells #[] e)) w') : w'.ownsRow w.heap.size e 1 (.slice (some ⟨w.heap.size, 0, none⟩) 0 0) 0 [] := by
 refine ⟨rfl, .inr ⟨w.heap.size, 0, #[], rfl, Nat.le_refl _, ?_, Nat.le_refl _, by unfold maxLen; omega, rfl, rfl⟩⟩
 rw [h.block _ (Nat.lt_succ_self _)]
 exact heap_alloc_new w _

theorem row_cells {k : IntKind} {w : World} {b off : Nat} {ds : List Nat} (hc : ∀ j, j < ds.length → w.cell? ⟨b, off + j, none⟩ = some (.int k (ds.getD j 0 : Nat))) :
  ∀ (j : Nat) (u : Value), (ds.map (fun d : Nat => Value.int k (d : Int)))[j]? = some u → w.cell? ((⟨b, off, none⟩ : Addr).add j) = some u := by
 intro j u hu
 have hj : j < ds.length := by
  rcases Nat.lt_or_ge j ds.length with h | h
  ·
   exact h
  ·
   simp [List.getElem?_eq_none h] at hu
 have e : (⟨b, off, none⟩ : Addr).add j = ⟨b, off + j, none⟩ := by
  unfold Addr.add; split <;> simp_all
 rw [e, hc j hj]
 simp [hj] at hu ⊢
 exact hu
theorem row_one {k : IntKind} (ds : List Nat) : ∀ u ∈ ds.map (fun d : Nat => Value.int k (d : Int)), u.oneCell' = true := by
 intro u hu
 obtain ⟨d, _, rfl⟩ := List.mem_map.1 hu
 rfl

end Go.Proofs.YtofijjomfhmbjaaGreat

namespace Go.Proofs.YtofijjomfhmbjaaGreat
open Go.RowKit

theorem lv_cut_step (B : Nat) (ds : List Nat) (m : Nat) (hm : m + 1 ≤ ds.length) (h0 : ds.getD m 0 = 0) (h : lv B (ds.take (m + 1)) = lv B ds) : lv B (ds.take m) = lv B ds := by
 rw [lv_take_succ B ds m (by omega), h0] at h; omega

theorem isNat_take {k : IntKind} {B : Nat} (hB : 2 ≤ B) {w : World} {ds : List Nat} {b off cap : Nat} (hd : Dgs B ds) (h1 : ds.length ≤ cap) (h2 : cap ≤ maxLen) (h3 : b < w.heap.size)
  (h4 : ∀ j, j < ds.length → w.cell? ⟨b, off + j, none⟩ = some (.int k (ds.getD j 0 : Nat))) (m : Nat) (hm : m ≤ ds.length)
  (hl : m = 0 ∨ ds.getD (m - 1) 0 ≠ 0) (hv : lv B (ds.take m) = lv B ds) : IsNat k B w (.slice (some ⟨b, off, none⟩) m cap) (lv B ds) := by
 have hlen : (ds.take m).length = m := by simp; omega
 have hdig : dig B (lv B ds) = ds.take m := by
  rw [← hv]
  refine dig_of hB _ (hd.take m) fun hne => ?_
  have hm0 : m ≠ 0 := by rintro rfl; simp at hne
  have e : (ds.take m).getLast hne = ds.getD (m - 1) 0 := by
   rw [List.getLast_eq_getElem]
   simp [hlen]
   rw [List.getElem?_eq_getElem (by omega)]; rfl
  rw [e]; exact hl.resolve_left hm0
 unfold IsNat
 rw [hdig]
 rcases Nat.eq_zero_or_pos m with rfl | hp
 ·
  exact .inl ⟨by simp, _, _, rfl, h2, by simp⟩
 ·
  refine .inr ⟨by omega, b, off, cap, by rw [hlen], by omega, h2, h3, fun j hj => ?_⟩
  rw [hlen] at hj
  rw [h4 j (by omega)]
  simp [List.getElem?_take, hj]

set_option maxHeartbeats 400000 in
theorem cut_any (ds : List Nat) (v : Value) (w : World) (h : IsRow .u64 w v ds) (hd : Dgs b64 ds) :
  Calls Tryz.prog 75 #[v] w (RetNatSame .u64 b64 (lv b64 ds) w) := by
 rcases h with ⟨rfl, ao, cap, rfl, h2, h3⟩ | ⟨h0, b, off, cap, rfl, h1, h2, h3, h4⟩
 ·
  go_enter Tryz.func75, Tryz.ntmps75
  go_wp2
  refine wp_loop_rounds 1 ?_
  rw [rounds_succ]
  go_wp2
  go_ret
  exact ⟨_, rfl, .inl ⟨rfl, ao, cap, rfl, h2, h3⟩, rfl⟩
 ·
  have H2 := Lib.hid h2
  unfold maxLen at h2
  go_enter Tryz.func75, Tryz.ntmps75
  go_wp2
  go_loop [0] (fun s => ∃ m : Nat, m ≤ ds.length ∧ Hid (lv b64 (ds.take m) = lv b64 ds) ∧ s = .slice (some ⟨b, off, none⟩) m cap) (fun s => match s with | .slice _ n _ => n | _ => 0)
  case atStart => exact ⟨ds.length, Nat.le_refl _, by show _ = _; simp, rfl⟩
  case round =>
   obtain ⟨m, hm, hv, rfl⟩ := hrel
   rcases Nat.eq_zero_or_pos m with rfl | hpos
   ·
    go_wp2
    go_ret
    exact ⟨_, rfl, isNat_take b64_two hd h1 H2.out h3 h4 0 (by omega) (.inl rfl) hv.out, rfl⟩
   ·
    obtain ⟨m, rfl⟩ : ∃ m', m = m' + 1 := ⟨m - 1, by omega⟩
    have hc := h4 m (by omega)
    go_wp2
    ·
     have hz : (((ds[m]?.getD 0 : Nat) : Int) == 0) = true := by assumption
     have hz' : ds.getD m 0 = 0 := by simpa using hz
     exact ⟨⟨m, by omega, lv_cut_step _ _ _ hm hz' hv.out, rfl⟩, by simp⟩
    ·
     have hz : (((ds[m]?.getD 0 : Nat) : Int) == 0) = false := by assumption
     have hz' : ds.getD m 0 ≠ 0 := by intro e; simp at e; rw [e] at hz; simp at hz
     go_ret
     exact ⟨_, rfl, isNat_take b64_two hd h1 H2.out h3 h4 (m + 1) (by omega) (.inr hz') hv.out, rfl⟩


theorem dig_isOne {B : Nat} (hB : 2 ≤ B) (n : Nat) : n = 1 ↔ dig B n = [1] := by
 constructor
 ·
  rintro rfl; exact dig_one hB (by omega) (by omega)
 ·
  intro h
  have := lv_dig hB n
  rw [h] at this
  simpa [lv] using this.symm

set_option maxHeartbeats 400000 in
theorem word_any (n : Nat) (w : World) (h : n < b64) : Calls Tryz.prog 90 #[.int .u64 n] w (RetNat .u64 b64 n w) := by
 go_enter Tryz.func90, Tryz.ntmps90
 go_wp2_with fail
 refine (cut_any [n] _ _ (.inr ⟨by simp, w.heap.size, 0, 1, rfl, by simp, by unfold maxLen; omega, by simp, ?_⟩) ?_).mono ?_
 ·
  intro j hj
  obtain rfl : j = 0 := by simpa using hj
  simp
 ·
  exact Dgs.cons h (Dgs.nil _)
 ·
  rintro e w' ⟨v, rfl, hv, rfl⟩
  go_wp2
  go_ret
  exact ⟨_, rfl, by simpa [lv] using hv, (Below.refl _ _).alloc (Nat.le_refl _) _⟩

set_option maxHeartbeats 400000 in
theorem isOne_any (n : Nat) (v : Value) (w : World) (h : IsNat .u64 b64 w v n) :
    Calls Tryz.prog 91 #[v] w (fun e w' => e = .returned (.bool (decide (n = 1))) ∧ w = w') := by
  have hd := dig_isOne b64_two n
  have hdg := dgs_dig b64_two n
  unfold IsNat at h
  have hn : decide (n = 1) = decide (dig b64 n = [1]) := by simp [hd]
  rw [hn]
  clear hn hd
  generalize dig b64 n = ds at *
  rcases h with ⟨rfl, ao, cap, rfl, h2, h3⟩ | ⟨h0, b, off, cap, rfl, h1, h2, h3, h4⟩
  · go_enter Tryz.func91, Tryz.ntmps91
    go_wp2
    go_ret
    exact ⟨by simp, rfl⟩
  · by_cases hl : ds.length = 1
    · obtain ⟨d, rfl⟩ : ∃ d, ds = [d] := by
        match ds, hl with
        | [d], _ => exact ⟨d, rfl⟩
      have hc := h4 0 (by simp)
      simp at hc
      clear h4 h0 h1 hl
      go_enter Tryz.func91, Tryz.ntmps91
      go_wp2
      go_ret
      exact ⟨by have : ((d : Int) == 1) = decide (d = 1) := by rw [Bool.eq_iff_iff]; simp; omega
                rw [this]; simp, rfl⟩
    · have hb : ((ds.length : Int) == 1) = false := by simp; omega
      have hne : decide (ds = [1]) = false := by
        simp; rintro rfl; simp at hl
      go_enter Tryz.func91, Tryz.ntmps91
      go_wp2
      go_ret
      rw [hne]
      exact ⟨rfl, rfl⟩


def cmpN (a b : Nat) : Int := if a < b then -1 else if b < a then 1 else 0

theorem cmp_all {B : Nat} {a b : List Nat} (hlen : a.length = b.length) (h : a.drop 0 = b.drop 0) : cmpN (lv B a) (lv B b) = 0 := by
 simp at h; subst h; simp [cmpN]
theorem cmp_lss {B : Nat} {a b : List Nat} (ha : Dgs B a) (i : Nat) (hi : i < a.length) (hlen : a.length = b.length)
  (heq : a.drop (i + 1) = b.drop (i + 1)) (hlt : a.getD i 0 < b.getD i 0) : cmpN (lv B a) (lv B b) = -1 := by
 have := lv_lt_of_digit ha i hi hlen heq hlt
 simp [cmpN, this]
theorem cmp_gtr {B : Nat} {a b : List Nat} (hb : Dgs B b) (i : Nat) (hi : i < a.length) (hlen : a.length = b.length)
  (heq : a.drop (i + 1) = b.drop (i + 1)) (hlt : b.getD i 0 < a.getD i 0) : cmpN (lv B a) (lv B b) = 1 := by
 have := lv_lt_of_digit hb i (by omega) hlen.symm heq.symm hlt
 have h2 : ¬ lv B a < lv B b := by omega
 simp [cmpN, this, h2]
theorem drop_step {a b : List Nat} (i : Nat) (hi : i < a.length) (hlen : a.length = b.length) (heq : a.drop (i + 1) = b.drop (i + 1)) (h1 : ¬ a.getD i 0 < b.getD i 0) (h2 : ¬ b.getD i 0 < a.getD i 0) : a.drop i = b.drop i := by
 have e : a.getD i 0 = b.getD i 0 := by omega
 rw [List.drop_eq_getElem_cons hi, List.drop_eq_getElem_cons (by omega : i < b.length), heq]
 simp [hi, (by omega : i < b.length)] at e
 rw [e]
theorem cmpN_len_lt {B : Nat} (hB : 2 ≤ B) {m n : Nat} (h : (dig B m).length < (dig B n).length) : cmpN m n = -1 := by
 simp [cmpN, lt_of_dig_length hB h]
theorem cmpN_len_gt {B : Nat} (hB : 2 ≤ B) {m n : Nat} (h : (dig B n).length < (dig B m).length) : cmpN m n = 1 := by
 have := lt_of_dig_length hB h
 have h2 : ¬ m < n := by omega
 simp [cmpN, this, h2]

def Quiet (w w' : World) : Prop := ∃ n, w' = w.drewN n
theorem Quiet.refl (w : World) : Quiet w w := ⟨0, rfl⟩
theorem Quiet.step {w w' : World} (h : Quiet w w') (n : Nat) : Quiet w (w'.drewN n) := by
 obtain ⟨m, rfl⟩ := h; exact ⟨m + n, by simp⟩
theorem Quiet.below {w w' : World} (h : Quiet w w') : Below w.heap.size w w' := by
 obtain ⟨m, rfl⟩ := h; exact ⟨rfl, rfl, rfl, Nat.le_refl _, fun _ _ => rfl⟩

theorem quiet_at {P : Program} {f : FuncId} {args : Array Value} {w : World} {n a : Nat} {v : Value}
  (h : Calls P f args (w.drewN (n + a)) fun e w' => e = .returned v ∧ Quiet (w.drewN (n + a)) w') : Calls P f args (w.drewN (n + a)) fun e w'' => e = .returned v ∧ ∃ m, w'' = w.drewN (n + m) :=
 h.mono fun _ _ ⟨he, m, hm⟩ => ⟨he, a + m, by rw [hm, World.drewN_drewN, Nat.add_assoc]⟩
theorem quiet_at0 {P : Program} {f : FuncId} {args : Array Value} {w : World} {a : Nat} {v : Value}
  (h : Calls P f args (w.drewN a) fun e w' => e = .returned v ∧ Quiet (w.drewN a) w') : Calls P f args (w.drewN a) fun e w'' => e = .returned v ∧ ∃ m, w'' = w.drewN m :=
 h.mono fun _ _ ⟨he, m, hm⟩ => ⟨he, a + m, by rw [hm, World.drewN_drewN]⟩

def RetIntQ (n : Int) (w : World) (e : Ending) (w' : World) : Prop := e = .returned (.int .i64 n) ∧ Quiet w w'


set_option maxHeartbeats 1000000 in
theorem cmp_row (da db : List Nat) (va vb : Value) (w : World) (r : Int) (ha : IsRow .u64 w va da) (hb : IsRow .u64 w vb db) (hda : Dgs b64 da) (hdb : Dgs b64 db)
  (h1 : da.length < db.length → r = -1) (h2 : db.length < da.length → r = 1) (h3 : da.length = db.length → cmpN (lv b64 da) (lv b64 db) = r) :
  Calls Tryz.prog 69 #[va, vb] w (RetIntQ r w) := by
 have hla := ha.len
 have hlb := hb.len
 unfold maxLen at hla hlb
 obtain ⟨aa, ca, rfl⟩ : ∃ aa ca, va = .slice aa da.length ca := by
  rcases ha with ⟨rfl, ao, cap, rfl, _⟩ | ⟨_, b, off, cap, rfl, _⟩ <;> exact ⟨_, _, rfl⟩
 obtain ⟨ab, cb, rfl⟩ : ∃ ab cb, vb = .slice ab db.length cb := by
  rcases hb with ⟨rfl, ao, cap, rfl, _⟩ | ⟨_, b, off, cap, rfl, _⟩ <;> exact ⟨_, _, rfl⟩
 rcases Nat.lt_trichotomy da.length db.length with hlt | heq | hgt
 ·
  have hr := h1 hlt
  subst hr
  have hne : ((da.length : Int) != db.length) = true := by rw [bne_iff_ne]; omega
  clear h1 h2 h3 ha hb
  go_enter Tryz.func69, Tryz.ntmps69
  go_wp2
  go_ret
  exact ⟨rfl, .refl _⟩
 ·
  have H3 := Lib.hid (h3 heq)
  clear h1 h2 h3
  have Heq := Lib.hid heq
  have hne : ((da.length : Int) != db.length) = false := by simp; omega
  have hle : da.length ≤ db.length := by omega
  have hge : db.length ≤ da.length := by omega
  clear heq
  rcases Nat.eq_zero_or_pos da.length with h0 | hpos
  ·
   have hr : r = 0 := by
    rw [← H3.out]
    exact cmp_all Heq.out (by rw [List.eq_nil_of_length_eq_zero h0, List.eq_nil_of_length_eq_zero (by omega : db.length = 0)])
   have h0' : db.length = 0 := by omega
   clear H3 Heq ha hb
   subst hr
   have e0 : da.length = 0 := h0
   rw [e0, h0'] 
   rw [e0, h0'] at hne
   clear h0 h0' e0 hle hge hla hlb hda hdb
   go_enter Tryz.func69, Tryz.ntmps69
   go_wp2
   refine wp_loop_rounds 1 ?_
   rw [rounds_succ]
   go_wp2
   go_ret
   exact ⟨rfl, .refl _⟩
  ·
   rcases ha with ⟨rfl, _⟩ | ⟨_, b, off, cap, hv, _, _, hba, hca⟩
   ·
    simp at hpos
   rcases hb with ⟨rfl, _⟩ | ⟨_, b', off', cap', hv', _, _, hbb, hcb⟩
   ·
    simp only [List.length_nil] at hle; omega
   simp only [Value.slice.injEq] at hv hv'
   obtain ⟨rfl, _, rfl⟩ := hv
   obtain ⟨rfl, _, rfl⟩ := hv'
   go_enter Tryz.func69, Tryz.ntmps69
   go_wp2
   go_loopw [5] (fun s wr => ∃ i : Nat, i ≤ da.length ∧ Hid (da.drop i = db.drop i) ∧ s = .int .i64 ((i : Int) - 1) ∧ Quiet w wr) (fun s _ => ((intOf s) + 1).toNat)
   case atStart => exact ⟨da.length, Nat.le_refl _, by show _ = _; simp; omega, by go_num, .refl _⟩
   case round =>
    obtain ⟨i, hi, hdr, rfl, nq, rfl⟩ := hrel
    rcases Nat.eq_zero_or_pos i with rfl | hip
    ·
     go_wp2
     go_ret
     have := cmp_all (B := b64) Heq.out hdr.out
     rw [H3.out] at this
     subst this
     exact ⟨rfl, nq, rfl⟩
    ·
     obtain ⟨j, rfl⟩ : ∃ j, i = j + 1 := ⟨i - 1, by omega⟩
     have hc1 := hca j (by omega)
     have hc2 := hcb j (by omega)
     have e1 : ((j + 1 : Nat) : Int) - 1 = (j : Int) := by omega
     rw [e1]
     have hj1 : (j : Int) < da.length := by omega
     have hj2 : (j : Int) < db.length := by omega
     go_wp2
     go_quiet (fail)
     go_wp2
     ·
      have hlt : da[j]?.getD 0 < db[j]?.getD 0 := by assumption
      have := cmp_lss hda j (by omega) Heq.out hdr.out (by simpa using hlt)
      rw [H3.out] at this
      subst this
      go_ret
      exact ⟨rfl, Quiet.step ⟨_, rfl⟩ _⟩
     ·
      have hlt : ¬ da[j]?.getD 0 < db[j]?.getD 0 := by assumption
      go_quiet (fail)
      go_wp2
      ·
       have hgt : db[j]?.getD 0 < da[j]?.getD 0 := by assumption
       have := cmp_gtr hdb j (by omega) Heq.out hdr.out (by simpa using hgt)
       rw [H3.out] at this
       subst this
       go_ret
       exact ⟨rfl, Quiet.step (Quiet.step ⟨_, rfl⟩ _) _⟩
      ·
       have hgt : ¬ db[j]?.getD 0 < da[j]?.getD 0 := by assumption
       go_roundw
       case rel => exact ⟨j, by omega, drop_step j (by omega) Heq.out hdr.out (by simpa using hlt) (by simpa using hgt), by go_num, _, rfl⟩
       case measure => simp [intOf]
 ·
  have hr := h2 hgt
  subst hr
  have hne : ((da.length : Int) != db.length) = true := by rw [bne_iff_ne]; omega
  clear h1 h2 h3 ha hb
  go_enter Tryz.func69, Tryz.ntmps69
  go_wp2
  go_ret
  exact ⟨rfl, .refl _⟩


theorem cmp_any (m n : Nat) (va vb : Value) (w : World) (ha : IsNat .u64 b64 w va m) (hb : IsNat .u64 b64 w vb n) :
  Calls Tryz.prog 69 #[va, vb] w (RetIntQ (cmpN m n) w) := by
 refine cmp_row _ _ va vb w (cmpN m n) ha hb (dgs_dig b64_two m) (dgs_dig b64_two n) (cmpN_len_lt b64_two) (cmpN_len_gt b64_two) ?_
 rw [lv_dig b64_two, lv_dig b64_two]
 exact fun _ => rfl

end Go.Proofs.YtofijjomfhmbjaaGreat

namespace Go.Proofs.YtofijjomfhmbjaaGreat
open Go.RowKit

theorem info_u32 : (Tryz.prog.info? 144).map (fun i => (i.zero, i.size, i.bytes)) = some (some (.int .u32 0), 1, 4) := by kernel_rfl

set_option maxHeartbeats 1000000 in
theorem order_row (da db : List Nat) (va vb : Value) (w : World) (r : Int) (ha : IsRow .u32 w va da) (hb : IsRow .u32 w vb db) (hda : Dgs b32 da) (hdb : Dgs b32 db)
  (h1 : da.length < db.length → r = -1) (h2 : db.length < da.length → r = 1) (h3 : da.length = db.length → cmpN (lv b32 da) (lv b32 db) = r) :
  Calls Tryz.prog 83 #[va, vb] w (RetIntQ r w) := by
 have hla := ha.len
 have hlb := hb.len
 unfold maxLen at hla hlb
 obtain ⟨aa, ca, rfl⟩ : ∃ aa ca, va = .slice aa da.length ca := by
  rcases ha with ⟨rfl, ao, cap, rfl, _⟩ | ⟨_, b, off, cap, rfl, _⟩ <;> exact ⟨_, _, rfl⟩
 obtain ⟨ab, cb, rfl⟩ : ∃ ab cb, vb = .slice ab db.length cb := by
  rcases hb with ⟨rfl, ao, cap, rfl, _⟩ | ⟨_, b, off, cap, rfl, _⟩ <;> exact ⟨_, _, rfl⟩
 rcases Nat.lt_trichotomy da.length db.length with hlt | heq | hgt
 ·
  have hr := h1 hlt
  subst hr
  have hne : ((da.length : Int) != db.length) = true := by rw [bne_iff_ne]; omega
  clear h1 h2 h3 ha hb
  go_enter Tryz.func83, Tryz.ntmps83
  go_wp2
  go_ret
  exact ⟨rfl, .refl _⟩
 ·
  have H3 := Lib.hid (h3 heq)
  clear h1 h2 h3
  have Heq := Lib.hid heq
  have hne : ((da.length : Int) != db.length) = false := by simp; omega
  have hle : da.length ≤ db.length := by omega
  have hge : db.length ≤ da.length := by omega
  clear heq
  rcases Nat.eq_zero_or_pos da.length with h0 | hpos
  ·
   have hr : r = 0 := by
    rw [← H3.out]
    exact cmp_all Heq.out (by rw [List.eq_nil_of_length_eq_zero h0, List.eq_nil_of_length_eq_zero (by omega : db.length = 0)])
   have h0' : db.length = 0 := by omega
   clear H3 Heq ha hb
   subst hr
   have e0 : da.length = 0 := h0
   rw [e0, h0'] 
   rw [e0, h0'] at hne
   clear h0 h0' e0 hle hge hla hlb hda hdb
   go_enter Tryz.func83, Tryz.ntmps83
   go_wp2
   refine wp_loop_rounds 1 ?_
   rw [rounds_succ]
   go_wp2
   go_ret
   exact ⟨rfl, .refl _⟩
  ·
   rcases ha with ⟨rfl, _⟩ | ⟨_, b, off, cap, hv, _, _, hba, hca⟩
   ·
    simp at hpos
   rcases hb with ⟨rfl, _⟩ | ⟨_, b', off', cap', hv', _, _, hbb, hcb⟩
   ·
    simp only [List.length_nil] at hle; omega
   simp only [Value.slice.injEq] at hv hv'
   obtain ⟨rfl, _, rfl⟩ := hv
   obtain ⟨rfl, _, rfl⟩ := hv'
   go_enter Tryz.func83, Tryz.ntmps83
   go_wp2
   go_loopw [5] (fun s wr => ∃ i : Nat, i ≤ da.length ∧ Hid (da.drop i = db.drop i) ∧ s = .int .i64 ((i : Int) - 1) ∧ Quiet w wr) (fun s _ => ((intOf s) + 1).toNat)
   case atStart => exact ⟨da.length, Nat.le_refl _, by show _ = _; simp; omega, by go_num, .refl _⟩
   case round =>
    obtain ⟨i, hi, hdr, rfl, nq, rfl⟩ := hrel
    rcases Nat.eq_zero_or_pos i with rfl | hip
    ·
     go_wp2
     go_ret
     have := cmp_all (B := b32) Heq.out hdr.out
     rw [H3.out] at this
     subst this
     exact ⟨rfl, nq, rfl⟩
    ·
     obtain ⟨j, rfl⟩ : ∃ j, i = j + 1 := ⟨i - 1, by omega⟩
     have hc1 := hca j (by omega)
     have hc2 := hcb j (by omega)
     have e1 : ((j + 1 : Nat) : Int) - 1 = (j : Int) := by omega
     rw [e1]
     have hj1 : (j : Int) < da.length := by omega
     have hj2 : (j : Int) < db.length := by omega
     go_wp2
     go_quiet (fail)
     go_wp2
     ·
      have hlt : da[j]?.getD 0 < db[j]?.getD 0 := by assumption
      have := cmp_lss hda j (by omega) Heq.out hdr.out (by simpa using hlt)
      rw [H3.out] at this
      subst this
      go_ret
      exact ⟨rfl, Quiet.step ⟨_, rfl⟩ _⟩
     ·
      have hlt : ¬ da[j]?.getD 0 < db[j]?.getD 0 := by assumption
      go_quiet (fail)
      go_wp2
      ·
       have hgt : db[j]?.getD 0 < da[j]?.getD 0 := by assumption
       have := cmp_gtr hdb j (by omega) Heq.out hdr.out (by simpa using hgt)
       rw [H3.out] at this
       subst this
       go_ret
       exact ⟨rfl, Quiet.step (Quiet.step ⟨_, rfl⟩ _) _⟩
      ·
       have hgt : ¬ db[j]?.getD 0 < da[j]?.getD 0 := by assumption
       go_roundw
       case rel => exact ⟨j, by omega, drop_step j (by omega) Heq.out hdr.out (by simpa using hlt) (by simpa using hgt), by go_num, _, rfl⟩
       case measure => simp [intOf]
 ·
  have hr := h2 hgt
  subst hr
  have hne : ((da.length : Int) != db.length) = true := by rw [bne_iff_ne]; omega
  clear h1 h2 h3 ha hb
  go_enter Tryz.func83, Tryz.ntmps83
  go_wp2
  go_ret
  exact ⟨rfl, .refl _⟩


theorem order_any (m n : Nat) (va vb : Value) (w : World) (ha : IsNat .u32 b32 w va m) (hb : IsNat .u32 b32 w vb n) :
  Calls Tryz.prog 83 #[va, vb] w (RetIntQ (cmpN m n) w) := by
 refine order_row _ _ va vb w (cmpN m n) ha hb (dgs_dig b32_two m) (dgs_dig b32_two n) (cmpN_len_lt b32_two) (cmpN_len_gt b32_two) ?_
 rw [lv_dig b32_two, lv_dig b32_two]
 exact fun _ => rfl


def RetNatNew (k : IntKind) (B n : Nat) (w : World) (e : Ending) (w' : World) : Prop :=
 ∃ v, e = .returned v ∧ IsNat k B w' v n ∧ Below w.heap.size w w' ∧ ∀ g, v.ownBlock = some g → w.heap.size ≤ g
def RetNatOwn (k : IntKind) (B n : Nat) (v0 : Value) (w : World) (e : Ending) (w' : World) : Prop :=
 ∃ v, e = .returned v ∧ IsNat k B w v n ∧ w = w' ∧ v.ownBlock = v0.ownBlock
theorem RetNatNew.old {k : IntKind} {B n : Nat} {w : World} {e : Ending} {w' : World} (h : RetNatNew k B n w e w') : RetNat k B n w e w' := by
 obtain ⟨v, h1, h2, h3, _⟩ := h
 exact ⟨v, h1, h2, h3⟩
theorem IsRow.other {k : IntKind} {w : World} {v : Value} {ds : List Nat} (h : IsRow k w v ds) (a : Addr) (ha : v.ownBlock ≠ some a.block) (u : Value) : IsRow k (w.setCell a u) v ds := by
 rcases h with ⟨rfl, ao, cap, rfl, h2, h3⟩ | ⟨h0, b, off, cap, rfl, h1, h2, h3, h4⟩
 ·
  exact .inl ⟨rfl, ao, cap, rfl, h2, h3⟩
 ·
  refine .inr ⟨h0, b, off, cap, rfl, h1, h2, by simpa using h3, fun j hj => ?_⟩
  rw [← h4 j hj]
  exact World.cell?_setCell_other _ _ _ _ (fun e => ha (by rw [e]; rfl))

set_option maxHeartbeats 400000 in
theorem qcut_own (ds : List Nat) (v : Value) (w : World) (h : IsRow .u32 w v ds) (hd : Dgs b32 ds) :
  Calls Tryz.prog 85 #[v] w (RetNatOwn .u32 b32 (lv b32 ds) v w) := by
 rcases h with ⟨rfl, ao, cap, rfl, h2, h3⟩ | ⟨h0, b, off, cap, rfl, h1, h2, h3, h4⟩
 ·
  go_enter Tryz.func85, Tryz.ntmps85
  go_wp2
  refine wp_loop_rounds 1 ?_
  rw [rounds_succ]
  go_wp2
  go_ret
  exact ⟨_, rfl, .inl ⟨rfl, ao, cap, rfl, h2, h3⟩, rfl, rfl⟩
 ·
  have H2 := Lib.hid h2
  unfold maxLen at h2
  go_enter Tryz.func85, Tryz.ntmps85
  go_wp2
  go_loop [3] (fun s => ∃ m : Nat, m ≤ ds.length ∧ Hid (lv b32 (ds.take m) = lv b32 ds) ∧ s = .int .i64 m) (fun s => (intOf s).toNat)
  case atStart => exact ⟨ds.length, Nat.le_refl _, by show _ = _; simp, rfl⟩
  case round =>
   obtain ⟨m, hm, hv, rfl⟩ := hrel
   rcases Nat.eq_zero_or_pos m with rfl | hpos
   ·
    go_wp2
    go_ret
    exact ⟨_, rfl, isNat_take b32_two hd h1 H2.out h3 h4 0 (by omega) (.inl rfl) hv.out, rfl, rfl⟩
   ·
    obtain ⟨m, rfl⟩ : ∃ m', m = m' + 1 := ⟨m - 1, by omega⟩
    have hc := h4 m (by omega)
    go_wp2
    ·
     have hz : (((ds[m]?.getD 0 : Nat) : Int) == 0) = true := by assumption
     have hz' : ds.getD m 0 = 0 := by simpa using hz
     exact ⟨⟨m, by omega, lv_cut_step _ _ _ hm hz' hv.out, by go_num⟩, by simp [intOf]⟩
    ·
     have hz : (((ds[m]?.getD 0 : Nat) : Int) == 0) = false := by assumption
     have hz' : ds.getD m 0 ≠ 0 := by intro e; simp at e; rw [e] at hz; simp at hz
     go_ret
     exact ⟨_, rfl, isNat_take b32_two hd h1 H2.out h3 h4 (m + 1) (by omega) (.inr hz') hv.out, rfl, rfl⟩

theorem qcut_any (ds : List Nat) (v : Value) (w : World) (h : IsRow .u32 w v ds) (hd : Dgs b32 ds) :
  Calls Tryz.prog 85 #[v] w (RetNatSame .u32 b32 (lv b32 ds) w) := by
 refine (qcut_own ds v w h hd).mono ?_
 rintro e w' ⟨v, h1, h2, h3, _⟩
 exact ⟨v, h1, h2, h3⟩

set_option maxHeartbeats 400000 in
theorem nat_any (n : Nat) (w : World) (h : n < b64) : Calls Tryz.prog 81 #[.int .u64 n] w (RetNat .u32 b32 n w) := by
 have e1 : IntKind.u32.wrap ((n : Int) % 4294967296) = ((n % b32 : Nat) : Int) := by unfold b32; rw [IntKind.wrap_u32]; omega
 have e2 : IntKind.u32.wrap ((n : Int) / 4294967296) = ((n / b32 : Nat) : Int) := by unfold b32; unfold b64 at h; rw [IntKind.wrap_u32]; omega
 have h1 : n % b32 < b32 := Nat.mod_lt _ b32_pos
 have h2 : n / b32 < b32 := by rw [Nat.div_lt_iff_lt_mul b32_pos, ← b64_sq]; exact h
 have hv := Nat.mod_add_div n b32
 have g1 : (n : Int) ≤ 18446744073709551615 := by unfold b64 at h; omega
 obtain ⟨l, hl⟩ : ∃ l, l = n % b32 := ⟨_, rfl⟩
 obtain ⟨u, hu⟩ : ∃ u, u = n / b32 := ⟨_, rfl⟩
 rw [← hl] at e1 h1 hv
 rw [← hu] at e2 h2 hv
 have HV := Lib.hid hv
 have H1 := Lib.hid h1
 have H2 := Lib.hid h2
 clear hl hu h hv h1 h2
 go_enter Tryz.func81, Tryz.ntmps81
 go_wp2_with fail
 refine (qcut_any [l, u] _ _ (.inr ⟨by simp, w.heap.size, 0, 2, rfl, by simp, by unfold maxLen; omega, by simp, ?_⟩) (Dgs.cons H1.out (Dgs.cons H2.out (Dgs.nil _)))).mono ?_
 ·
  intro j hj
  match j, hj with
  | 0, _ => simp
  | 1, _ => simp
 ·
  rintro e w' ⟨v, rfl, hv, rfl⟩
  go_wp2_with fail
  go_ret
  have e3 : lv b32 [l, u] = n := by simp only [lv, Nat.mul_zero, Nat.add_zero]; exact HV.out
  rw [e3] at hv
  exact ⟨_, rfl, hv, (Below.refl _ _).alloc (Nat.le_refl _) _⟩

end Go.Proofs.YtofijjomfhmbjaaGreat

namespace Go.Proofs.YtofijjomfhmbjaaGreat
open Go.RowKit

theorem info_u64 : (Tryz.prog.info? 103).map (fun i => (i.zero, i.size, i.bytes)) = some (some (.int .u64 0), 1, 8) := by kernel_rfl

theorem mul64_any (x y : Nat) (w : World) (hx : x < b64) (hy : y < b64) :
  Calls Tryz.prog 92 #[.int .u64 x, .int .u64 y] w fun e w' => e = .returned (.tuple #[.int .u64 (mulHi x y : Nat), .int .u64 (mulLo x y : Nat)]) ∧ w = w' := by
 unfold mulHi mulLo
 unfold b64 at *
 exact (Tryz.bits_Mul64 x y hx hy w).mono fun e w' ⟨h1, h2⟩ => ⟨h1, h2.symm⟩

theorem run_Add64 (x y c : Nat) (hc : c ≤ 1) (w : World) :
  (callFunc 93 #[.int .u64 x, .int .u64 y, .int .u64 c]).run Tryz.prog w = .ok (.value (.tuple #[.int .u64 (addLo x y c : Nat), .int .u64 (addHi x y c : Nat)])) w := by
 unfold addLo addHi b64
 rw [run_callFunc_extern Tryz.func93 (by kernel_rfl) (by kernel_rfl) (by kernel_rfl) (e := add64Entry) (by kernel_rfl), run_add64 x y c (by omega) (by omega) (by omega) (by omega)]
 simp only [Result.andThen]
 congr 5 <;> omega
theorem run_Add64_0 (x y : Nat) (w : World) :
  (callFunc 93 #[.int .u64 x, .int .u64 y, .int .u64 0]).run Tryz.prog w = .ok (.value (.tuple #[.int .u64 (addLo x y 0 : Nat), .int .u64 (addHi x y 0 : Nat)])) w :=
 run_Add64 x y 0 (by omega) w
theorem run_Sub64 (x y c : Nat) (hc : c ≤ 1) (w : World) :
  (callFunc 96 #[.int .u64 x, .int .u64 y, .int .u64 c]).run Tryz.prog w = .ok (.value (.tuple #[.int .u64 (subLo x y c : Nat), .int .u64 (subHi x y c : Nat)])) w := by
 have e : subLo x y c = (x + 18446744073709551616 - y - c) % 18446744073709551616 := by unfold subLo b64; rw [Nat.add_comm]
 rw [e]
 unfold subHi
 rw [run_callFunc_extern Tryz.func96 (by kernel_rfl) (by kernel_rfl) (by kernel_rfl) (e := sub64Entry) (by kernel_rfl), run_sub64 x y c hc]
 rfl

theorem mul_step (o c x y : Nat) (ho : o < b64) (hc : c < b64) (hx : x < b64) (hy : y < b64) :
  addLo (addLo (mulLo x y) o 0) c 0 + b64 * (mulHi x y + addHi (mulLo x y) o 0 + addHi (addLo (mulLo x y) o 0) c 0) = x * y + o + c ∧
  mulHi x y + addHi (mulLo x y) o 0 + addHi (addLo (mulLo x y) o 0) c 0 < b64 ∧ mulHi x y + addHi (mulLo x y) o 0 < b64 := by
 have e : addLo (addLo (mulLo x y) o 0) c 0 + b64 * (mulHi x y + addHi (mulLo x y) o 0 + addHi (addLo (mulLo x y) o 0) c 0) = x * y + o + c := by
  have h1 := mul_eq x y
  have h2 := add_eq (mulLo x y) o 0
  have h3 := add_eq (addLo (mulLo x y) o 0) c 0
  rw [Nat.mul_add, Nat.mul_add]
  omega
 have hm : x * y + o + c < b64 * b64 := by
  have h1 : x ≤ b64 - 1 := by omega
  have h2 : y ≤ b64 - 1 := by omega
  have h3 : x * y ≤ (b64 - 1) * (b64 - 1) := Nat.mul_le_mul h1 h2
  have hp := b64_pos
  generalize b64 = B at *
  obtain ⟨b, rfl⟩ : ∃ b, B = b + 1 := ⟨B - 1, by omega⟩
  simp only [Nat.add_sub_cancel] at h3
  have e2 : (b + 1) * (b + 1) = b * b + b + b + 1 := by rw [Nat.add_mul, Nat.mul_add]; omega
  omega
 have hq : mulHi x y + addHi (mulLo x y) o 0 + addHi (addLo (mulLo x y) o 0) c 0 < b64 := by
  rcases Nat.lt_or_ge (mulHi x y + addHi (mulLo x y) o 0 + addHi (addLo (mulLo x y) o 0) c 0) b64 with h | h
  ·
   exact h
  ·
   have := Nat.mul_le_mul_left b64 h
   omega
 exact ⟨e, hq, Nat.lt_of_le_of_lt (Nat.le_add_right _ _) hq⟩

structure MulIn (a b : List Nat) (i k : Nat) (o : List Nat) (c : Nat) : Prop where
 len : o.length = a.length + b.length
 dgs : Dgs b64 o
 car : c < b64
 val : lv b64 o + c * b64 ^ (i + k) = lv b64 (a.take i) * lv b64 b + a.getD i 0 * b64 ^ i * lv b64 (b.take k)
 top : ∀ j, i + b.length ≤ j → o.getD j 0 = 0

structure MulOut (a b : List Nat) (i : Nat) (o : List Nat) : Prop where
 len : o.length = a.length + b.length
 dgs : Dgs b64 o
 val : lv b64 o = lv b64 (a.take i) * lv b64 b
 top : ∀ j, i + b.length ≤ j → o.getD j 0 = 0

theorem MulOut.start (a b : List Nat) : MulOut a b 0 (List.replicate (a.length + b.length) 0) :=
 ⟨by simp, Dgs.replicate b64_pos _, by simp [lv_replicate, lv], fun j _ => by simp [List.getElem?_replicate]; split <;> rfl⟩

theorem MulOut.inner {a b : List Nat} {i : Nat} {o : List Nat} (h : MulOut a b i o) : MulIn a b i 0 o 0 :=
 ⟨h.len, h.dgs, b64_pos, by simp [h.val, lv], h.top⟩

theorem MulIn.step {a b : List Nat} {i k : Nat} {o : List Nat} {c : Nat} (h : MulIn a b i k o c) (_ha : Dgs b64 a) (_hb : Dgs b64 b) (hi : i < a.length) (hk : k < b.length) (lo hi' : Nat)
  (e : lo + b64 * hi' = a.getD i 0 * b.getD k 0 + o.getD (i + k) 0 + c) (hlo : lo < b64) (hhi : hi' < b64) : MulIn a b i (k + 1) (o.set (i + k) lo) hi' := by
 refine ⟨by simpa using h.len, h.dgs.set _ _ hlo, hhi, ?_, fun j hj => ?_⟩
 ·
  have h1 := lv_set b64 o (i + k) lo (by rw [h.len]; omega)
  have h2 := h.val
  rw [lv_take_succ b64 b k hk]
  have h3 : b64 ^ (i + (k + 1)) = b64 * b64 ^ (i + k) := by rw [← Nat.add_assoc, Nat.pow_succ, Nat.mul_comm]
  rw [h3, Nat.mul_add, ← Nat.add_assoc, ← h2]
  have h4 : hi' * (b64 * b64 ^ (i + k)) = b64 ^ (i + k) * (b64 * hi') := by ac_rfl
  have h5 : a.getD i 0 * b64 ^ i * (b64 ^ k * b.getD k 0) = b64 ^ (i + k) * (a.getD i 0 * b.getD k 0) := by
   rw [Nat.pow_add]
   ac_rfl
  have h6 : c * b64 ^ (i + k) = b64 ^ (i + k) * c := Nat.mul_comm _ _
  rw [h4, h5, h6]
  have h7 : b64 ^ (i + k) * (lo + b64 * hi') = b64 ^ (i + k) * (a.getD i 0 * b.getD k 0 + o.getD (i + k) 0 + c) := by rw [e]
  simp only [Nat.mul_add] at h7
  omega
 ·
  have := h.top j hj
  rw [List.getD_eq_getElem?_getD] at *
  rw [List.getElem?_set_ne (by omega)]
  exact this

theorem MulIn.done {a b : List Nat} {i : Nat} {o : List Nat} {c : Nat} (h : MulIn a b i b.length o c) (hi : i < a.length) : MulOut a b (i + 1) (o.set (i + b.length) c) := by
 refine ⟨by simpa using h.len, h.dgs.set _ _ h.car, ?_, fun j hj => ?_⟩
 ·
  have h1 := lv_set b64 o (i + b.length) c (by rw [h.len]; omega)
  rw [h.top _ (Nat.le_refl _)] at h1
  have h2 := h.val
  rw [List.take_length] at h2
  rw [lv_take_succ b64 a i hi, Nat.add_mul]
  have h3 : c * b64 ^ (i + b.length) = b64 ^ (i + b.length) * c := Nat.mul_comm _ _
  have h4 : a.getD i 0 * b64 ^ i * lv b64 b = b64 ^ i * a.getD i 0 * lv b64 b := by rw [Nat.mul_comm (a.getD i 0)]
  omega
 ·
  have := h.top j (by omega)
  rw [List.getD_eq_getElem?_getD] at *
  rw [List.getElem?_set_ne (by omega)]
  exact this


set_option maxRecDepth 100000 in
set_option maxHeartbeats 1000000 in
theorem times_any (m n : Nat) (va vb : Value) (w : World) (ha : IsNat .u64 b64 w va m) (hb : IsNat .u64 b64 w vb n) (hsz : (dig b64 m).length + (dig b64 n).length ≤ 1099511627776) :
  Calls Tryz.prog 66 #[va, vb] w (RetNat .u64 b64 (m * n) w) := by
 by_cases hm : m = 1
 ·
  have hd : decide (m = 1) = true := by simp [hm]
  have Hm := Lib.hid hm
  clear hm
  go_enter Tryz.func66, Tryz.ntmps66
  go_wp2_with fail
  refine (isOne_any m va _ ha).mono ?_
  rw [hd]
  rintro e w' ⟨rfl, rfl⟩
  go_wp2_with fail
  go_ret
  exact ⟨_, rfl, by rw [Hm.out, Nat.one_mul]; exact hb, Below.refl _ _⟩
 ·
  have hd : decide (m = 1) = false := by simp [hm]
  clear hm
  by_cases hn : n = 1
  ·
   have hd2 : decide (n = 1) = true := by simp [hn]
   have Hn := Lib.hid hn
   clear hn
   go_enter Tryz.func66, Tryz.ntmps66
   go_wp2_with fail
   refine (isOne_any m va _ ha).mono ?_
   rw [hd]
   rintro e w' ⟨rfl, rfl⟩
   go_wp2_with fail
   refine (isOne_any n vb _ hb).mono ?_
   rw [hd2]
   rintro e w' ⟨rfl, rfl⟩
   go_wp2_with fail
   go_ret
   exact ⟨_, rfl, by rw [Hn.out, Nat.mul_one]; exact ha, Below.refl _ _⟩
  ·
   have hd2 : decide (n = 1) = false := by simp [hn]
   clear hn
   obtain ⟨aa, ca, rfl, hA⟩ := IsRow.opened ha
   obtain ⟨ab, cb, rfl, hB⟩ := IsRow.opened hb
   have hda := dgs_dig b64_two m
   have hdb := dgs_dig b64_two n
   have hva := lv_dig b64_two m
   have hvb := lv_dig b64_two n
   have Hva := Lib.hid hva
   have Hvb := Lib.hid hvb
   have Ha := Lib.hid ha
   have Hb := Lib.hid hb
   clear hva hvb ha hb
   generalize dig b64 m = da at *
   generalize dig b64 n = db at *
   obtain ⟨i0, hi, hz0, hz1, hz2⟩ := info_parts info_u64
   go_enter Tryz.func66, Tryz.ntmps66
   go_wp2_with fail
   refine (isOne_any m _ _ Ha.out).mono ?_
   rw [hd]
   rintro e w' ⟨rfl, rfl⟩
   go_wp2_with fail
   refine (isOne_any n _ _ Hb.out).mono ?_
   rw [hd2]
   rintro e w' ⟨rfl, rfl⟩
   go_wp2_with (at_make; refine wpList_make_full _ rfl _ _ 52 rfl w.heap.size 103 i0 (.int .u64 0) 1 Tryz.underlying52 hi hz0 hz1 _ _ _ _ (da.length + db.length) rfl rfl (by omega) (by omega) (by rw [hz2]; omega) (by unfold maxLen; omega) (by omega) ?_)
   intro w1 hown hgrow
   have ho := Own.of_made hown
   have hbel := (Below.refl w.heap.size w).grown hgrow (Nat.le_refl _) (by simp)
   clear hown hgrow
   clear hi hz0 hz1 hz2
   go_wp2_with fail
   go_loopw [28] (fun c wr => ∃ (i : Nat) (o : List Nat), i ≤ da.length ∧ c = .int .i64 i ∧ Own wr w.heap.size .u64 103 o ∧ Hid (MulOut da db i o) ∧ Below w.heap.size w wr)
    (fun c _ => da.length - (intOf c).toNat)
   case atStart => exact ⟨0, _, Nat.zero_le _, rfl, ho, MulOut.start da db, hbel⟩
   case round =>
    clear ho hbel
    obtain ⟨i, o, hile, rfl, ho, hM, hbel⟩ := hrel
    by_cases hlt : i < da.length
    ·
     obtain ⟨b, off, rfl, hbA, hcA⟩ := hA (by omega)
     have hca : wr.cell? ⟨b, off + i, none⟩ = some (.int .u64 (da.getD i 0 : Nat)) := (hbel.cell (p := ⟨b, off + i, none⟩) hbA).trans (hcA i hlt)
     obtain ⟨x, hx⟩ : ∃ x, x = da.getD i 0 := ⟨_, rfl⟩
     rw [← hx] at hca
     have Hx := Lib.hid hx
     have Hxlt : Hid (x < b64) := by show x < b64; rw [hx]; exact hda.getD b64_pos i
     clear hx
     go_wp2_with fail
     obtain ⟨wo, hwo⟩ : ∃ wo : World, wo = wr := ⟨_, rfl⟩
     subst hwo
     go_loopw [8, 35] (fun cv kv wr => ∃ (k : Nat) (o : List Nat) (c : Nat), k ≤ db.length ∧ kv = .int .i64 k ∧ cv = .int .u64 c ∧ Own wr w.heap.size .u64 103 o ∧ Hid (MulIn da db i k o c) ∧ Below w.heap.size w wr)
      (fun _ kv _ => db.length - (intOf kv).toNat)
     case atStart => exact ⟨0, o, 0, Nat.zero_le _, rfl, rfl, ho, hM.out.inner, hbel⟩
     case round =>
      clear hca hM ho hbel
      obtain ⟨k, o, c, hkl, rfl, rfl, ho, hM, hbel⟩ := hrel
      by_cases hlk : k < db.length
      ·
       obtain ⟨b', off', rfl, hbB, hcB⟩ := hB (by omega)
       have hcb : wr.cell? ⟨b', off' + k, none⟩ = some (.int .u64 (db.getD k 0 : Nat)) := (hbel.cell (p := ⟨b', off' + k, none⟩) hbB).trans (hcB k hlk)
       obtain ⟨y, hy⟩ : ∃ y, y = db.getD k 0 := ⟨_, rfl⟩
       rw [← hy] at hcb
       have Hy := Lib.hid hy
       have Hylt : Hid (y < b64) := by show y < b64; rw [hy]; exact hdb.getD b64_pos k
       clear hy
       have hco := ho.cell (i + k) (by rw [hM.out.len]; omega)
       have hfo := ho.frozen (i + k)
       obtain ⟨z, hz⟩ : ∃ z, z = o.getD (i + k) 0 := ⟨_, rfl⟩
       rw [← hz] at hco
       have Hz := Lib.hid hz
       have Hzlt : Hid (z < b64) := by show z < b64; rw [hz]; exact hM.out.dgs.getD b64_pos _
       clear hz
       go_wp2_with fail
       refine (mul64_any x y _ Hxlt.out Hylt.out).mono ?_
       have hadd := run_Add64_0
       have hstep := mul_step z c x y Hzlt.out hM.out.car Hxlt.out Hylt.out
       unfold b64 at hstep
       have hb1 := hstep.2.1
       have hb2 := hstep.2.2
       clear hstep
       rintro e w' ⟨rfl, rfl⟩
       go_wp2_with fail
       have hstep := mul_step z c x y Hzlt.out hM.out.car Hxlt.out Hylt.out
       refine ⟨⟨k + 1, _, mulHi x y + addHi (mulLo x y) z 0 + addHi (addLo (mulLo x y) z 0) c 0, by omega, by go_num, by go_num, ho.store _ _, ?_, hbel.setCell (p := ⟨w.heap.size, i + k, none⟩) (Nat.le_refl _) _⟩, by simp [intOf]; omega⟩
       refine hM.out.step hda hdb hlt hlk _ _ ?_ (addLo_lt _ _ _) hstep.2.1
       rw [hstep.1, Hx.out, Hy.out, Hz.out]
      ·
       obtain rfl : k = db.length := by omega
       have hco := ho.cell (i + db.length) (by rw [hM.out.len]; omega)
       have hfo := ho.frozen (i + db.length)
       go_wp2_with fail
       refine ⟨⟨i + 1, _, by omega, by go_num, ho.store _ _, hM.out.done hlt, hbel.setCell (p := ⟨w.heap.size, i + db.length, none⟩) (Nat.le_refl _) _⟩, by simp [intOf]; omega⟩
    ·
     obtain rfl : i = da.length := by omega
     have hlen := Lib.hid hM.out.len
     go_wp2_with fail
     have hrow := ho.isRow (by unfold maxLen; rw [hlen.out]; omega)
     rw [hlen.out] at hrow
     refine (cut_any o _ _ hrow hM.out.dgs).mono ?_
     rintro e w' ⟨v, rfl, hv, rfl⟩
     go_wp2_with fail
     go_ret
     refine ⟨v, rfl, ?_, hbel⟩
     have := hM.out.val
     rw [List.take_length, Hva.out, Hvb.out] at this
     rw [← this]
     exact hv

end Go.Proofs.YtofijjomfhmbjaaGreat

namespace Go.Proofs.YtofijjomfhmbjaaGreat
open Go.RowKit

structure PrIn (a b : List Nat) (i k : Nat) (o : List Nat) (c : Nat) : Prop where
 len : o.length = a.length + b.length
 dgs : Dgs b32 o
 car : c < b32
 val : lv b32 o + c * b32 ^ (i + k) = lv b32 (a.take i) * lv b32 b + a.getD i 0 * b32 ^ i * lv b32 (b.take k)

structure PrOut (a b : List Nat) (i : Nat) (o : List Nat) : Prop where
 len : o.length = a.length + b.length
 dgs : Dgs b32 o
 val : lv b32 o = lv b32 (a.take i) * lv b32 b

theorem PrOut.start (a b : List Nat) : PrOut a b 0 (List.replicate (a.length + b.length) 0) :=
 ⟨by simp, Dgs.replicate b32_pos _, by simp [lv_replicate, lv]⟩
theorem PrOut.inner {a b : List Nat} {i : Nat} {o : List Nat} (h : PrOut a b i o) : PrIn a b i 0 o 0 :=
 ⟨h.len, h.dgs, b32_pos, by simp [h.val, lv]⟩

theorem pr_word (z c x y : Nat) (hz : z < b32) (hc : c < b32) (hx : x < b32) (hy : y < b32) : (z + c + x * y) / b32 < b32 ∧ z + c + x * y < b64 := by
 have h : z + c + x * y < b64 := by
  rw [b64_sq]
  have h3 : x * y ≤ (b32 - 1) * (b32 - 1) := Nat.mul_le_mul (by omega) (by omega)
  have hp := b32_pos
  generalize b32 = B at *
  obtain ⟨b, rfl⟩ : ∃ b, B = b + 1 := ⟨B - 1, by omega⟩
  simp only [Nat.add_sub_cancel] at h3
  have e2 : (b + 1) * (b + 1) = b * b + b + b + 1 := by rw [Nat.add_mul, Nat.mul_add]; omega
  omega
 exact ⟨by rw [Nat.div_lt_iff_lt_mul b32_pos, ← b64_sq]; exact h, h⟩

theorem PrIn.step {a b : List Nat} {i k : Nat} {o : List Nat} {c : Nat} (h : PrIn a b i k o c) (X : Nat) (hk : i + k < a.length + b.length)
  (hX : X = o.getD (i + k) 0 + c + a.getD i 0 * b.getD k 0) (hlt : X / b32 < b32) : PrIn a b i (k + 1) (o.set (i + k) (X % b32)) (X / b32) := by
 refine ⟨by simpa using h.len, h.dgs.set _ _ (Nat.mod_lt _ b32_pos), hlt, ?_⟩
 have h1 := lv_set b32 o (i + k) (X % b32) (by rw [h.len]; exact hk)
 have h2 := h.val
 have h3 : lv b32 (b.take (k + 1)) = lv b32 (b.take k) + b32 ^ k * b.getD k 0 := by
  by_cases hkb : k < b.length
  ·
   exact lv_take_succ b32 b k hkb
  ·
   rw [List.take_of_length_le (by omega), List.take_of_length_le (by omega)]
   simp [List.getElem?_eq_none (Nat.le_of_not_lt hkb)]
 rw [h3]
 have h4 : b32 ^ (i + (k + 1)) = b32 * b32 ^ (i + k) := by rw [← Nat.add_assoc, Nat.pow_succ, Nat.mul_comm]
 rw [h4, Nat.mul_add, ← Nat.add_assoc, ← h2]
 have e1 : X / b32 * (b32 * b32 ^ (i + k)) = b32 ^ (i + k) * (b32 * (X / b32)) := by ac_rfl
 have e2 : a.getD i 0 * b32 ^ i * (b32 ^ k * b.getD k 0) = b32 ^ (i + k) * (a.getD i 0 * b.getD k 0) := by rw [Nat.pow_add]; ac_rfl
 have e3 : c * b32 ^ (i + k) = b32 ^ (i + k) * c := Nat.mul_comm _ _
 have e4 := Nat.mod_add_div X b32
 have e5 : b32 ^ (i + k) * (X % b32 + b32 * (X / b32)) = b32 ^ (i + k) * (o.getD (i + k) 0 + c + a.getD i 0 * b.getD k 0) := by rw [e4, hX]
 rw [e1, e2, e3]
 simp only [Nat.mul_add] at e5
 omega

theorem PrIn.room {a b : List Nat} {i k : Nat} {o : List Nat} {c : Nat} (h : PrIn a b i k o c) (ha : Dgs b32 a) (hb : Dgs b32 b) (hi : i < a.length) (hc : 0 < c) : i + k < i + 1 + b.length := by
 rcases Nat.lt_or_ge (i + k) (i + 1 + b.length) with h' | h'
 ·
  exact h'
 ·
  exfalso
  have h1 : lv b32 (a.take i) * lv b32 b + a.getD i 0 * b32 ^ i * lv b32 (b.take k) = lv b32 (a.take (i + 1)) * lv b32 b := by
   rw [List.take_of_length_le (by omega : b.length ≤ k), lv_take_succ b32 a i hi, Nat.add_mul, Nat.mul_comm (a.getD i 0)]
  have h2 := h.val
  rw [h1] at h2
  have h3 : lv b32 (a.take (i + 1)) * lv b32 b < b32 ^ (i + 1 + b.length) := by
   have h4 := lv_lt (ha.take (i + 1))
   have e : (a.take (i + 1)).length = i + 1 := by simp; omega
   rw [e] at h4
   have h5 := lv_lt hb
   rw [Nat.pow_add]
   exact Nat.mul_lt_mul_of_lt_of_le h4 (Nat.le_of_lt h5) (Nat.pow_pos b32_pos)
  have h6 : b32 ^ (i + 1 + b.length) ≤ b32 ^ (i + k) := Nat.pow_le_pow_right b32_pos h'
  have h7 : b32 ^ (i + k) ≤ c * b32 ^ (i + k) := Nat.le_mul_of_pos_left _ hc
  omega

theorem PrIn.done {a b : List Nat} {i k : Nat} {o : List Nat} {c : Nat} (h : PrIn a b i k o c) (hi : i < a.length) (hk : b.length ≤ k) (hc : c = 0) : PrOut a b (i + 1) o := by
 refine ⟨h.len, h.dgs, ?_⟩
 have h2 := h.val
 rw [hc, Nat.zero_mul, Nat.add_zero, List.take_of_length_le hk] at h2
 rw [h2, lv_take_succ b32 a i hi, Nat.add_mul, Nat.mul_comm (a.getD i 0)]

set_option maxRecDepth 100000 in
set_option maxHeartbeats 2000000 in
theorem product_row_own (da db : List Nat) (va vb : Value) (w : World) (ha : IsRow .u32 w va da) (hb : IsRow .u32 w vb db) (hda : Dgs b32 da) (hdb : Dgs b32 db) (hsz : da.length + db.length ≤ 1099511627776) :
  Calls Tryz.prog 58 #[va, vb] w (RetNatNew .u32 b32 (lv b32 da * lv b32 db) w) := by
 obtain ⟨aa, ca, rfl, hA⟩ := IsRow.opened ha
 obtain ⟨ab, cb, rfl, hB⟩ := IsRow.opened hb
 clear ha hb
 obtain ⟨i0, hi, hz0, hz1, hz2⟩ := info_parts info_u32
 go_enter Tryz.func58, Tryz.ntmps58
 go_wp2_with (at_make; refine wpList_make_full _ rfl _ _ 68 rfl w.heap.size 144 i0 (.int .u32 0) 1 Tryz.underlying68 hi hz0 hz1 _ _ _ _ (da.length + db.length) rfl rfl (by omega) (by omega) (by rw [hz2]; omega) (by unfold maxLen; omega) (by omega) ?_)
 intro w1 hown hgrow
 have ho := Own.of_made hown
 have hbel := (Below.refl w.heap.size w).grown hgrow (Nat.le_refl _) (by simp)
 clear hown hgrow hi hz0 hz1 hz2
 go_wp2_with fail
 go_loopw [6] (fun c wr => ∃ (i : Nat) (o : List Nat), i ≤ da.length ∧ c = .int .i64 i ∧ Own wr w.heap.size .u32 144 o ∧ Hid (PrOut da db i o) ∧ Below w.heap.size w wr)
  (fun c _ => da.length - (intOf c).toNat)
 case atStart => exact ⟨0, _, Nat.zero_le _, rfl, ho, PrOut.start da db, hbel⟩
 case round =>
  clear ho hbel
  obtain ⟨i, o, hile, rfl, ho, hM, hbel⟩ := hrel
  by_cases hlt : i < da.length
  ·
   obtain ⟨b, off, rfl, hbA, hcA⟩ := hA (by omega)
   go_wp2_with fail
   obtain ⟨wo, hwo⟩ : ∃ wo : World, wo = wr := ⟨_, rfl⟩
   subst hwo
   go_loopw [7, 8] (fun cv kv wr => ∃ (k : Nat) (o : List Nat) (c : Nat), k ≤ db.length + 1 ∧ kv = .int .i64 k ∧ cv = .int .u64 c ∧ Own wr w.heap.size .u32 144 o ∧ Hid (PrIn da db i k o c) ∧ Below w.heap.size w wr)
    (fun _ kv _ => db.length + 2 - (intOf kv).toNat)
   case atStart => exact ⟨0, o, 0, Nat.zero_le _, rfl, rfl, ho, hM.out.inner, hbel⟩
   case round =>
    clear hM ho hbel
    obtain ⟨k, o, c, hkl, rfl, rfl, ho, hM, hbel⟩ := hrel
    have hc := hM.out.car
    have hcb : (c : Int) ≤ 4294967295 := by unfold b32 at hc; omega
    have HC := Lib.hid hc
    clear hc
    by_cases hlk : k < db.length
    ·
     have t1 : decide ((k : Int) < db.length) = true := by simp; omega
     obtain ⟨b', off', rfl, hbB, hcB⟩ := hB (by omega)
     have hca : wr.cell? ⟨b, off + i, none⟩ = some (.int .u32 (da.getD i 0 : Nat)) := (hbel.cell (p := ⟨b, off + i, none⟩) hbA).trans (hcA i hlt)
     have hcb2 : wr.cell? ⟨b', off' + k, none⟩ = some (.int .u32 (db.getD k 0 : Nat)) := (hbel.cell (p := ⟨b', off' + k, none⟩) hbB).trans (hcB k hlk)
     have hco := ho.cell (i + k) (by rw [hM.out.len]; omega)
     have hfo := ho.frozen (i + k)
     have hx := hda.getD b32_pos i
     have hy := hdb.getD b32_pos k
     have hz := hM.out.dgs.getD b32_pos (i + k)
     have hst := Lib.hid (fun X h => hM.out.step X (show i + k < da.length + db.length by omega) h)
     generalize da.getD i 0 = x at *
     generalize db.getD k 0 = y at *
     generalize o.getD (i + k) 0 = z at *
     have hpw := pr_word z c x y hz HC.out hx hy
     have hxb : (x : Int) ≤ 4294967295 := by unfold b32 at hx; omega
     have hyb : (y : Int) ≤ 4294967295 := by unfold b32 at hy; omega
     have hzb : (z : Int) ≤ 4294967295 := by unfold b32 at hz; omega
     obtain ⟨X, hX⟩ : ∃ X, X = z + c + x * y := ⟨_, rfl⟩
     rw [← hX] at hpw
     have m1 : (X : Int) ≤ 18446744073709551615 := by have := hpw.2; unfold b64 at this; omega
     obtain ⟨P, hP⟩ : ∃ P, P = x * y := ⟨_, rfl⟩
     have ex : IntKind.u64.wrap (x : Int) = x := IntWalk.u64_in _ (by omega)
     have ey : IntKind.u64.wrap (y : Int) = y := IntWalk.u64_in _ (by omega)
     have eP : IntKind.u64.wrap ((x : Int) * y) = (P : Int) := by rw [hP, IntWalk.u64_in _ (by rw [← Int.natCast_mul]; omega)]; simp
     have eX : IntKind.u64.wrap ((z : Int) + c + P) = (X : Int) := by rw [hX, ← hP, IntWalk.u64_in _ (by omega)]; simp
     have e2 : IntKind.u32.wrap ((X : Int) % 4294967296) = ((X % b32 : Nat) : Int) := by unfold b32; rw [IntKind.wrap_u32]; omega
     obtain ⟨lo, hlo⟩ : ∃ lo, lo = X % b32 := ⟨_, rfl⟩
     obtain ⟨hi', hhi⟩ : ∃ hi', hi' = X / b32 := ⟨_, rfl⟩
     have e3 : (X : Int) / 4294967296 = (hi' : Int) := by rw [hhi]; unfold b32; simp
     rw [← hlo] at e2
     have HX := Lib.hid hX
     have HP := Lib.hid hpw.1
     have HLO := Lib.hid hlo
     have HHI := Lib.hid hhi
     clear hX hpw hlo hhi hx hy hz hP
     go_wp2_with fail
     go_quiet (fail)
     go_wp2_with fail
     refine ⟨⟨k + 1, _, hi', by omega, by go_num, rfl, (ho.drewN nq).store _ _, ?_, (below_dn hbel nq).setCell (p := ⟨w.heap.size, i + k, none⟩) (Nat.le_refl _) _⟩, by simp [intOf]; omega⟩
     have := hst.out X HX.out HP.out
     rw [← HLO.out, ← HHI.out] at this
     exact this
    ·
     have t1 : decide ((k : Int) < db.length) = false := by simp; omega
     by_cases hc0 : 0 < c
     ·
      have hroom := hM.out.room hda hdb hlt hc0
      have hco := ho.cell (i + k) (by rw [hM.out.len]; omega)
      have hfo := ho.frozen (i + k)
      have hz := hM.out.dgs.getD b32_pos (i + k)
      have hy0 : db.getD k 0 = 0 := by simp [List.getElem?_eq_none (Nat.le_of_not_lt hlk)]
      have hst := Lib.hid (fun X h => hM.out.step X (show i + k < da.length + db.length by omega) h)
      rw [hy0, Nat.mul_zero] at hst
      generalize o.getD (i + k) 0 = z at *
      have hzb : (z : Int) ≤ 4294967295 := by unfold b32 at hz; omega
      have hpw := pr_word z c 0 0 hz HC.out b32_pos b32_pos
      obtain ⟨X, hX⟩ : ∃ X, X = z + c := ⟨_, rfl⟩
      have e1 : (z : Int) + c = (X : Int) := by rw [hX]; simp
      have e2 : IntKind.u32.wrap ((X : Int) % 4294967296) = ((X % b32 : Nat) : Int) := by unfold b32; rw [IntKind.wrap_u32]; omega
      obtain ⟨lo, hlo⟩ : ∃ lo, lo = X % b32 := ⟨_, rfl⟩
      obtain ⟨hi', hhi⟩ : ∃ hi', hi' = X / b32 := ⟨_, rfl⟩
      have e3 : (X : Int) / 4294967296 = (hi' : Int) := by rw [hhi]; unfold b32; simp
      rw [← hlo] at e2
      have hPX : Hid (hi' < b32) := by show hi' < b32; rw [hhi, hX]; exact hpw.1
      have HX := Lib.hid hX
      have HLO := Lib.hid hlo
      have HHI := Lib.hid hhi
      have hXb : (X : Int) ≤ 8589934590 := by omega
      have t2 : decide ((0 : Int) < c) = true := by simp; omega
      have hkk : k ≤ db.length := by omega
      have e1' : IntKind.u64.wrap ((z : Int) + c) = (X : Int) := by rw [e1]; exact IntWalk.u64_in _ (by omega)
      clear hX hpw hlo hhi hz hy0 hroom
      go_wp2_with fail
      refine ⟨⟨k + 1, _, hi', by omega, by go_num, rfl, ho.store _ _, ?_, hbel.setCell (p := ⟨w.heap.size, i + k, none⟩) (Nat.le_refl _) _⟩, by simp [intOf]; omega⟩
      have := hst.out X HX.out (by rw [← HHI.out]; exact hPX.out)
      rw [← HLO.out, ← HHI.out] at this
      exact this
     ·
      obtain rfl : c = 0 := by omega
      have hdn := Lib.hid (hM.out.done hlt (by omega) rfl)
      clear hM HC
      go_wp2_with fail
      exact ⟨⟨i + 1, o, by omega, by go_num, ho, hdn.out, hbel⟩, meas_up hlt⟩
  ·
   obtain rfl : i = da.length := by omega
   have hlen := Lib.hid hM.out.len
   go_wp2_with fail
   have hrow := ho.isRow (by unfold maxLen; rw [hlen.out]; omega)
   rw [hlen.out] at hrow
   refine (qcut_own o _ _ hrow hM.out.dgs).mono ?_
   rintro e w' ⟨v, rfl, hv, rfl, hob⟩
   go_wp2_with fail
   go_ret
   refine ⟨v, rfl, ?_, hbel, fun k hk => by rw [hob] at hk; cases hk; exact Nat.le_refl _⟩
   have := hM.out.val
   rw [List.take_length] at this
   rw [← this]
   exact hv

theorem product_row (da db : List Nat) (va vb : Value) (w : World) (ha : IsRow .u32 w va da) (hb : IsRow .u32 w vb db) (hda : Dgs b32 da) (hdb : Dgs b32 db) (hsz : da.length + db.length ≤ 1099511627776) :
  Calls Tryz.prog 58 #[va, vb] w (RetNat .u32 b32 (lv b32 da * lv b32 db) w) := by
 refine (product_row_own da db va vb w ha hb hda hdb hsz).mono ?_
 rintro e w' h
 exact h.old

theorem product_any (m n : Nat) (va vb : Value) (w : World) (ha : IsNat .u32 b32 w va m) (hb : IsNat .u32 b32 w vb n) (hsz : (dig b32 m).length + (dig b32 n).length ≤ 1099511627776) :
  Calls Tryz.prog 58 #[va, vb] w (RetNat .u32 b32 (m * n) w) := by
 have h := product_row _ _ va vb w ha hb (dgs_dig b32_two m) (dgs_dig b32_two n) hsz
 rw [lv_dig b32_two, lv_dig b32_two] at h
 exact h

end Go.Proofs.YtofijjomfhmbjaaGreat

namespace Go.Proofs.YtofijjomfhmbjaaGreat
open Go.RowKit

structure SmIn (a b : List Nat) (n i : Nat) (o : List Nat) (c : Nat) : Prop where
 len : o.length = n
 dgs : Dgs b32 o
 car : c ≤ 1
 val : lv b32 o + c * b32 ^ i = lv b32 (a.take i) + lv b32 (b.take i)
 top : ∀ j, i ≤ j → o.getD j 0 = 0

theorem take_step (B : Nat) (a : List Nat) (i : Nat) : lv B (a.take (i + 1)) = lv B (a.take i) + B ^ i * a.getD i 0 := by
 by_cases h : i < a.length
 ·
  exact lv_take_succ B a i h
 ·
  rw [List.take_of_length_le (by omega), List.take_of_length_le (by omega)]
  simp [List.getElem?_eq_none (Nat.le_of_not_lt h)]

theorem SmIn.step {a b : List Nat} {n i : Nat} {o : List Nat} {c : Nat} (h : SmIn a b n i o c) (ha : Dgs b32 a) (hb : Dgs b32 b) (hi : i < n) (X : Nat) (hX : X = c + a.getD i 0 + b.getD i 0) :
  SmIn a b n (i + 1) (o.set i (X % b32)) (X / b32) := by
 have hx := ha.getD b32_pos i
 have hy := hb.getD b32_pos i
 have hc := h.car
 refine ⟨by simpa using h.len, h.dgs.set _ _ (Nat.mod_lt _ b32_pos), ?_, ?_, fun j hj => ?_⟩
 ·
  have : X / b32 < 2 := by rw [Nat.div_lt_iff_lt_mul b32_pos]; omega
  omega
 ·
  have h1 := lv_set b32 o i (X % b32) (by rw [h.len]; exact hi)
  rw [h.top i (Nat.le_refl _)] at h1
  have h2 := h.val
  rw [take_step, take_step, Nat.pow_succ]
  have e1 : X / b32 * (b32 ^ i * b32) = b32 ^ i * (b32 * (X / b32)) := by ac_rfl
  have e4 := Nat.mod_add_div X b32
  have e5 : b32 ^ i * (X % b32 + b32 * (X / b32)) = b32 ^ i * (c + a.getD i 0 + b.getD i 0) := by rw [e4, hX]
  have e6 : c * b32 ^ i = b32 ^ i * c := Nat.mul_comm _ _
  rw [e1]
  simp only [Nat.mul_add] at e5
  omega
 ·
  have := h.top j (by omega)
  rw [List.getD_eq_getElem?_getD] at *
  rw [List.getElem?_set_ne (by omega)]
  exact this

theorem SmIn.done {a b : List Nat} {m : Nat} {o : List Nat} {c : Nat} (h : SmIn a b (m + 1) (m + 1) o c) (ha : Dgs b32 a) (hb : Dgs b32 b) (h1 : a.length ≤ m) (h2 : b.length ≤ m) : lv b32 o = lv b32 a + lv b32 b := by
 have hv := h.val
 rw [List.take_of_length_le (by omega), List.take_of_length_le (by omega)] at hv
 have ha' : lv b32 a < b32 ^ m := Nat.lt_of_lt_of_le (lv_lt ha) (Nat.pow_le_pow_right b32_pos h1)
 have hb' : lv b32 b < b32 ^ m := Nat.lt_of_lt_of_le (lv_lt hb) (Nat.pow_le_pow_right b32_pos h2)
 rcases Nat.eq_zero_or_pos c with h0 | h0
 ·
  subst h0; omega
 ·
  exfalso
  have e : b32 ^ (m + 1) ≤ c * b32 ^ (m + 1) := Nat.le_mul_of_pos_left _ h0
  rw [Nat.pow_succ] at e
  have e2 : b32 ^ m * 2 ≤ b32 ^ m * b32 := Nat.mul_le_mul_left _ b32_two
  rw [Nat.pow_succ] at hv
  omega

set_option maxRecDepth 100000 in
set_option maxHeartbeats 2000000 in
theorem sum_any (m n : Nat) (va vb : Value) (w : World) (ha : IsNat .u32 b32 w va m) (hb : IsNat .u32 b32 w vb n) (hla : (dig b32 m).length ≤ 1099511627776) (hlb : (dig b32 n).length ≤ 1099511627776) :
  Calls Tryz.prog 86 #[va, vb] w (RetNat .u32 b32 (m + n) w) := by
 obtain ⟨aa, ca, rfl, hA⟩ := IsRow.opened ha
 obtain ⟨ab, cb, rfl, hB⟩ := IsRow.opened hb
 have hda := dgs_dig b32_two m
 have hdb := dgs_dig b32_two n
 have Hva := Lib.hid (lv_dig b32_two m)
 have Hvb := Lib.hid (lv_dig b32_two n)
 clear ha hb
 generalize dig b32 m = da at *
 generalize dig b32 n = db at *
 obtain ⟨i0, hi, hz0, hz1, hz2⟩ := info_parts info_u32
 obtain ⟨L, hL⟩ : ∃ L, L = max da.length db.length := ⟨_, rfl⟩
 have hmx : max (da.length : Int) db.length = (L : Int) := by omega
 have l1 : da.length ≤ L := by omega
 have l2 : db.length ≤ L := by omega
 have l3 : L ≤ 1099511627776 := by omega
 clear hL
 go_enter Tryz.func86, Tryz.ntmps86
 go_wp2_with (at_make; refine wpList_make_full _ rfl _ _ 68 rfl w.heap.size 144 i0 (.int .u32 0) 1 Tryz.underlying68 hi hz0 hz1 _ _ _ _ (L + 1) rfl rfl (by omega) (by omega) (by rw [hz2]; omega) (by unfold maxLen; omega) (by omega) ?_)
 intro w1 hown hgrow
 have ho := Own.of_made hown
 have hbel := (Below.refl w.heap.size w).grown hgrow (Nat.le_refl _) (by simp)
 clear hown hgrow hi hz0 hz1 hz2
 go_wp2_with fail
 go_loopw [6, 7] (fun cv iv wr => ∃ (i : Nat) (o : List Nat) (c : Nat), i ≤ L + 1 ∧ iv = .int .i64 i ∧ cv = .int .u64 c ∧ Own wr w.heap.size .u32 144 o ∧ Hid (SmIn da db (L + 1) i o c) ∧ Below w.heap.size w wr)
  (fun _ iv _ => L + 1 - (intOf iv).toNat)
 case atStart => exact ⟨0, _, 0, Nat.zero_le _, rfl, rfl, ho, ⟨by simp, Dgs.replicate b32_pos _, by omega, by simp [lv_replicate, lv], fun j _ => by simp [List.getElem?_replicate]; split <;> rfl⟩, hbel⟩
 case round =>
  clear ho hbel
  obtain ⟨i, o, c, hil, rfl, rfl, ho, hM, hbel⟩ := hrel
  by_cases hlt : i < L + 1
  ·
   have hco := ho.cell i (by rw [hM.out.len]; exact hlt)
   have hfo := ho.frozen i
   have hx := hda.getD b32_pos i
   have hy := hdb.getD b32_pos i
   have hc := hM.out.car
   have hst := Lib.hid (fun X h => hM.out.step hda hdb hlt X h)
   have hxb : ((da.getD i 0 : Nat) : Int) ≤ 4294967295 := by unfold b32 at hx; omega
   have hyb : ((db.getD i 0 : Nat) : Int) ≤ 4294967295 := by unfold b32 at hy; omega
   have hcA : i < da.length → ∃ b off, aa = some ⟨b, off, none⟩ ∧ wr.cell? ⟨b, off + i, none⟩ = some (.int .u32 (da.getD i 0 : Nat)) := fun h => by
    obtain ⟨b, off, e, hb, hc⟩ := hA (by omega)
    exact ⟨b, off, e, (hbel.cell (p := ⟨b, off + i, none⟩) hb).trans (hc i h)⟩
   have hcB : i < db.length → ∃ b off, ab = some ⟨b, off, none⟩ ∧ wr.cell? ⟨b, off + i, none⟩ = some (.int .u32 (db.getD i 0 : Nat)) := fun h => by
    obtain ⟨b, off, e, hb, hc⟩ := hB (by omega)
    exact ⟨b, off, e, (hbel.cell (p := ⟨b, off + i, none⟩) hb).trans (hc i h)⟩
   have hzA : ¬ i < da.length → da.getD i 0 = 0 := fun h => by simp [List.getElem?_eq_none (Nat.le_of_not_lt h)]
   have hzB : ¬ i < db.length → db.getD i 0 = 0 := fun h => by simp [List.getElem?_eq_none (Nat.le_of_not_lt h)]
   generalize da.getD i 0 = x at *
   generalize db.getD i 0 = y at *
   obtain ⟨X, hX⟩ : ∃ X, X = c + x + y := ⟨_, rfl⟩
   have hXb : (X : Int) ≤ 8589934591 := by omega
   have e2 : IntKind.u32.wrap ((X : Int) % 4294967296) = ((X % b32 : Nat) : Int) := by unfold b32; rw [IntKind.wrap_u32]; omega
   obtain ⟨lo, hlo⟩ : ∃ lo, lo = X % b32 := ⟨_, rfl⟩
   obtain ⟨hi', hhi⟩ : ∃ hi', hi' = X / b32 := ⟨_, rfl⟩
   have e3 : (X : Int) / 4294967296 = (hi' : Int) := by rw [hhi]; unfold b32; simp
   rw [← hlo] at e2
   have HX := Lib.hid hX
   have HLO := Lib.hid hlo
   have HHI := Lib.hid hhi
   have e1 : (c : Int) + x + y = (X : Int) := by rw [hX]; simp
   clear hX hlo hhi hx hy
   by_cases ta : i < da.length
   ·
    have ta' : decide ((i : Int) < da.length) = true := by simp; omega
    obtain ⟨b, off, rfl, hca⟩ := hcA ta
    clear hcA hzA hA
    by_cases tb : i < db.length
    ·
     have tb' : decide ((i : Int) < db.length) = true := by simp; omega
     obtain ⟨b', off', rfl, hcb⟩ := hcB tb
     clear hcB hzB hB
     go_wp2_with fail
     refine ⟨⟨i + 1, _, hi', by omega, by go_num, rfl, ho.store _ _, ?_, hbel.setCell (p := ⟨w.heap.size, i, none⟩) (Nat.le_refl _) _⟩, meas_up hlt⟩
     rw [HLO.out, HHI.out]
     exact hst.out _ HX.out
    ·
     have tb' : decide ((i : Int) < db.length) = false := by simp; omega
     obtain rfl : y = 0 := hzB tb
     have e1' : (c : Int) + x = (X : Int) := by omega
     clear hcB hzB hB e1
     go_wp2_with fail
     refine ⟨⟨i + 1, _, hi', by omega, by go_num, rfl, ho.store _ _, ?_, hbel.setCell (p := ⟨w.heap.size, i, none⟩) (Nat.le_refl _) _⟩, meas_up hlt⟩
     rw [HLO.out, HHI.out]
     exact hst.out _ HX.out
   ·
    have ta' : decide ((i : Int) < da.length) = false := by simp; omega
    obtain rfl : x = 0 := hzA ta
    clear hcA hzA hA
    by_cases tb : i < db.length
    ·
     have tb' : decide ((i : Int) < db.length) = true := by simp; omega
     obtain ⟨b', off', rfl, hcb⟩ := hcB tb
     have e1' : (c : Int) + y = (X : Int) := by omega
     clear hcB hzB hB e1
     go_wp2_with fail
     refine ⟨⟨i + 1, _, hi', by omega, by go_num, rfl, ho.store _ _, ?_, hbel.setCell (p := ⟨w.heap.size, i, none⟩) (Nat.le_refl _) _⟩, meas_up hlt⟩
     rw [HLO.out, HHI.out]
     exact hst.out _ HX.out
    ·
     have tb' : decide ((i : Int) < db.length) = false := by simp; omega
     obtain rfl : y = 0 := hzB tb
     obtain rfl : X = c := by omega
     clear hcB hzB hB e1
     go_wp2_with fail
     refine ⟨⟨i + 1, _, hi', by omega, by go_num, rfl, ho.store _ _, ?_, hbel.setCell (p := ⟨w.heap.size, i, none⟩) (Nat.le_refl _) _⟩, meas_up hlt⟩
     rw [HLO.out, HHI.out]
     exact hst.out _ HX.out
  ·
   obtain rfl : i = L + 1 := by omega
   have hlen := Lib.hid hM.out.len
   go_wp2_with fail
   have hrow := ho.isRow (by unfold maxLen; rw [hlen.out]; omega)
   rw [hlen.out] at hrow
   refine (qcut_any o _ _ hrow hM.out.dgs).mono ?_
   rintro e w' ⟨v, rfl, hv, rfl⟩
   go_wp2_with fail
   go_ret
   refine ⟨v, rfl, ?_, hbel⟩
   have := hM.out.done hda hdb l1 l2
   rw [Hva.out, Hvb.out] at this
   rw [← this]
   exact hv


structure D32 (a b : List Nat) (n i : Nat) (o : List Nat) (c : Nat) : Prop where
 len : o.length = n
 dgs : Dgs b32 o
 bor : c ≤ 1
 val : lv b32 o + lv b32 (b.take i) = lv b32 (a.take i) + c * b32 ^ i
 top : ∀ j, i ≤ j → o.getD j 0 = 0

theorem D32.step {a b : List Nat} {n i : Nat} {o : List Nat} {c : Nat} (h : D32 a b n i o c) (hi : i < n) (X c' : Nat) (hX : X < b32) (hc' : c' ≤ 1) (e : X + b.getD i 0 + c = a.getD i 0 + b32 * c') :
  D32 a b n (i + 1) (o.set i X) c' := by
 refine ⟨by simpa using h.len, h.dgs.set _ _ hX, hc', ?_, fun j hj => ?_⟩
 ·
  have h1 := lv_set b32 o i X (by rw [h.len]; exact hi)
  rw [h.top i (Nat.le_refl _)] at h1
  have h2 := h.val
  rw [take_step, take_step, Nat.pow_succ]
  have e1 : c' * (b32 ^ i * b32) = b32 ^ i * (b32 * c') := by ac_rfl
  have e5 : b32 ^ i * (X + b.getD i 0 + c) = b32 ^ i * (a.getD i 0 + b32 * c') := by rw [e]
  have e6 : c * b32 ^ i = b32 ^ i * c := Nat.mul_comm _ _
  rw [e1]
  simp only [Nat.mul_add] at e5
  omega
 ·
  have := h.top j (by omega)
  rw [List.getD_eq_getElem?_getD] at *
  rw [List.getElem?_set_ne (by omega)]
  exact this

theorem D32.done {a b : List Nat} {o : List Nat} {c : Nat} (h : D32 a b a.length a.length o c) (hl : b.length ≤ a.length) (hle : lv b32 b ≤ lv b32 a) : lv b32 o = lv b32 a - lv b32 b := by
 have hv := h.val
 rw [List.take_length, List.take_of_length_le hl] at hv
 have h2 := lv_lt h.dgs
 rw [h.len] at h2
 have hb : c = 0 := by
  rcases Nat.eq_zero_or_pos c with h0 | h0
  ·
   exact h0
  ·
   have : b32 ^ a.length ≤ c * b32 ^ a.length := Nat.le_mul_of_pos_left _ h0
   omega
 subst hb
 omega

set_option maxRecDepth 100000 in
set_option maxHeartbeats 2000000 in
theorem difference_own (m n : Nat) (va vb : Value) (w : World) (ha : IsNat .u32 b32 w va m) (hb : IsNat .u32 b32 w vb n) (hle : n ≤ m) (hla : (dig b32 m).length ≤ 1099511627776) :
  Calls Tryz.prog 87 #[va, vb] w (RetNatNew .u32 b32 (m - n) w) := by
 obtain ⟨aa, ca, rfl, hA⟩ := IsRow.opened ha
 obtain ⟨ab, cb, rfl, hB⟩ := IsRow.opened hb
 have hda := dgs_dig b32_two m
 have hdb := dgs_dig b32_two n
 have Hva := Lib.hid (lv_dig b32_two m)
 have Hvb := Lib.hid (lv_dig b32_two n)
 have hlb := dig_length_mono b32_two hle
 have Hle := Lib.hid hle
 clear ha hb hle
 generalize dig b32 m = da at *
 generalize dig b32 n = db at *
 obtain ⟨i0, hi, hz0, hz1, hz2⟩ := info_parts info_u32
 go_enter Tryz.func87, Tryz.ntmps87
 go_wp2_with (at_make; refine wpList_make_full _ rfl _ _ 68 rfl w.heap.size 144 i0 (.int .u32 0) 1 Tryz.underlying68 hi hz0 hz1 _ _ _ _ da.length rfl rfl (by omega) (by omega) (by rw [hz2]; omega) (by unfold maxLen; omega) (by omega) ?_)
 intro w1 hown hgrow
 have ho := Own.of_made hown
 have hbel := (Below.refl w.heap.size w).grown hgrow (Nat.le_refl _) (by simp)
 clear hown hgrow hi hz0 hz1 hz2
 go_wp2_with fail
 go_loopw [6, 7] (fun cv iv wr => ∃ (i : Nat) (o : List Nat) (c : Nat), i ≤ da.length ∧ iv = .int .i64 i ∧ cv = .int .u64 c ∧ Own wr w.heap.size .u32 144 o ∧ Hid (D32 da db da.length i o c) ∧ Below w.heap.size w wr)
  (fun _ iv _ => da.length - (intOf iv).toNat)
 case atStart => exact ⟨0, _, 0, Nat.zero_le _, rfl, rfl, ho, ⟨by simp, Dgs.replicate b32_pos _, by omega, by simp [lv_replicate, lv], fun j _ => by simp [List.getElem?_replicate]; split <;> rfl⟩, hbel⟩
 case round =>
  clear ho hbel
  obtain ⟨i, o, c, hil, rfl, rfl, ho, hM, hbel⟩ := hrel
  by_cases hlt : i < da.length
  ·
   have hco := ho.cell i (by rw [hM.out.len]; exact hlt)
   have hfo := ho.frozen i
   have hx := hda.getD b32_pos i
   have hy := hdb.getD b32_pos i
   have hc := hM.out.bor
   have hst := Lib.hid (fun X c' h1 h2 h3 => hM.out.step hlt X c' h1 h2 h3)
   obtain ⟨b, off, rfl, hbA, hcA⟩ := hA (by omega)
   have hca : wr.cell? ⟨b, off + i, none⟩ = some (.int .u32 (da.getD i 0 : Nat)) := (hbel.cell (p := ⟨b, off + i, none⟩) hbA).trans (hcA i hlt)
   have hcB : i < db.length → ∃ b off, ab = some ⟨b, off, none⟩ ∧ wr.cell? ⟨b, off + i, none⟩ = some (.int .u32 (db.getD i 0 : Nat)) := fun h => by
    obtain ⟨b, off, e, hb, hc⟩ := hB (by omega)
    exact ⟨b, off, e, (hbel.cell (p := ⟨b, off + i, none⟩) hb).trans (hc i h)⟩
   have hzB : ¬ i < db.length → db.getD i 0 = 0 := fun h => by simp [List.getElem?_eq_none (Nat.le_of_not_lt h)]
   generalize da.getD i 0 = x at *
   generalize db.getD i 0 = y at *
   have hxb : (x : Int) ≤ 4294967295 := by unfold b32 at hx; omega
   have hyb : (y : Int) ≤ 4294967295 := by unfold b32 at hy; omega
   have hbb : b32 = 4294967296 := rfl
   have HBB := Lib.hid hbb
   by_cases tb : i < db.length
   ·
    have tb' : decide ((i : Int) < db.length) = true := by simp; omega
    obtain ⟨b', off', rfl, hcb⟩ := hcB tb
    clear hcB hzB hB hbb
    by_cases tc : x < (c + y)
    ·
     have tc' : decide ((x : Int) < ((c : Int) + y)) = true := by simp; omega
     obtain ⟨X, hX⟩ : ∃ X, X = x + b32 - (c + y) := ⟨_, rfl⟩
     have HE : Hid (X + y + c = x + b32 * 1) := by show X + y + c = x + b32 * 1; omega
     have HX : Hid (X < b32) := by show X < b32; omega
     have HB : Hid ((1 : Nat) ≤ 1) := Nat.le_refl 1
     have e1 : IntKind.u32.wrap ((x : Int) + 4294967296 - ((c : Int) + y)) = (X : Int) := by rw [IntKind.wrap_u32, hX]; unfold b32 at *; omega
     have g1 : (x : Int) + 4294967296 - ((c : Int) + y) ≤ 18446744073709551615 := by omega
     clear hX tc
     go_wp2_with fail
     refine ⟨⟨i + 1, _, 1, by omega, by go_num, rfl, ho.store _ _, ?_, hbel.setCell (p := ⟨w.heap.size, i, none⟩) (Nat.le_refl _) _⟩, meas_up hlt⟩
     exact hst.out _ _ HX.out HB.out HE.out
    ·
     have tc' : decide ((x : Int) < ((c : Int) + y)) = false := by simp; omega
     obtain ⟨X, hX⟩ : ∃ X, X = x - (c + y) := ⟨_, rfl⟩
     have HE : Hid (X + y + c = x + b32 * 0) := by show X + y + c = x + b32 * 0; omega
     have HX : Hid (X < b32) := by show X < b32; omega
     have HB : Hid ((0 : Nat) ≤ 1) := Nat.zero_le 1
     have e1 : IntKind.u32.wrap ((x : Int) - ((c : Int) + y)) = (X : Int) := by rw [IntKind.wrap_u32, hX]; unfold b32 at *; omega
     clear hX
     go_wp2_with fail
     refine ⟨⟨i + 1, _, 0, by omega, by go_num, rfl, ho.store _ _, ?_, hbel.setCell (p := ⟨w.heap.size, i, none⟩) (Nat.le_refl _) _⟩, meas_up hlt⟩
     exact hst.out _ _ HX.out HB.out HE.out
   ·
    have tb' : decide ((i : Int) < db.length) = false := by simp; omega
    obtain rfl : y = 0 := hzB tb
    clear hcB hzB hB hbb
    by_cases tc : x < c
    ·
     have tc' : decide (x < c) = true := by simp; omega
     obtain ⟨X, hX⟩ : ∃ X, X = x + b32 - c := ⟨_, rfl⟩
     have HE : Hid (X + 0 + c = x + b32 * 1) := by show X + 0 + c = x + b32 * 1; omega
     have HX : Hid (X < b32) := by show X < b32; omega
     have HB : Hid ((1 : Nat) ≤ 1) := Nat.le_refl 1
     have e1 : IntKind.u32.wrap ((x : Int) + 4294967296 - (c : Int)) = (X : Int) := by rw [IntKind.wrap_u32, hX]; unfold b32 at *; omega
     have g1 : (x : Int) + 4294967296 - (c : Int) ≤ 18446744073709551615 := by omega
     clear hX tc
     go_wp2_with fail
     refine ⟨⟨i + 1, _, 1, by omega, by go_num, rfl, ho.store _ _, ?_, hbel.setCell (p := ⟨w.heap.size, i, none⟩) (Nat.le_refl _) _⟩, meas_up hlt⟩
     exact hst.out _ _ HX.out HB.out HE.out
    ·
     have tc' : decide (x < c) = false := by simp; omega
     obtain ⟨X, hX⟩ : ∃ X, X = x - c := ⟨_, rfl⟩
     have HE : Hid (X + 0 + c = x + b32 * 0) := by show X + 0 + c = x + b32 * 0; omega
     have HX : Hid (X < b32) := by show X < b32; omega
     have HB : Hid ((0 : Nat) ≤ 1) := Nat.zero_le 1
     have e1 : IntKind.u32.wrap ((x : Int) - (c : Int)) = (X : Int) := by rw [IntKind.wrap_u32, hX]; unfold b32 at *; omega
     clear hX
     go_wp2_with fail
     refine ⟨⟨i + 1, _, 0, by omega, by go_num, rfl, ho.store _ _, ?_, hbel.setCell (p := ⟨w.heap.size, i, none⟩) (Nat.le_refl _) _⟩, meas_up hlt⟩
     exact hst.out _ _ HX.out HB.out HE.out
  ·
   obtain rfl : i = da.length := by omega
   have hlen := Lib.hid hM.out.len
   go_wp2_with fail
   have hrow := ho.isRow (by unfold maxLen; rw [hlen.out]; omega)
   rw [hlen.out] at hrow
   refine (qcut_own o _ _ hrow hM.out.dgs).mono ?_
   rintro e w' ⟨v, rfl, hv, rfl, hob⟩
   go_wp2_with fail
   go_ret
   refine ⟨v, rfl, ?_, hbel, fun k hk => by rw [hob] at hk; cases hk; exact Nat.le_refl _⟩
   have := hM.out.done hlb (by rw [Hva.out, Hvb.out]; exact Hle.out)
   rw [Hva.out, Hvb.out] at this
   rw [← this]
   exact hv

theorem difference_any (m n : Nat) (va vb : Value) (w : World) (ha : IsNat .u32 b32 w va m) (hb : IsNat .u32 b32 w vb n) (hle : n ≤ m) (hla : (dig b32 m).length ≤ 1099511627776) :
  Calls Tryz.prog 87 #[va, vb] w (RetNat .u32 b32 (m - n) w) := by
 refine (difference_own m n va vb w ha hb hle hla).mono ?_
 rintro e w' h
 exact h.old

end Go.Proofs.YtofijjomfhmbjaaGreat

namespace Go.Proofs.YtofijjomfhmbjaaGreat

structure Guess (b v1 v0 u d q r : Nat) : Prop where
 eq : u = q * v1 + r
 lo : (u * b + d) / (v1 * b + v0) ≤ q
 hi : q ≤ b + 1

theorem Guess.first {b v1 v0 u d : Nat} (hb : 2 ≤ b) (hv1 : b ≤ 2 * v1) (hv0 : v0 < b) (hu : u < v1 * b + v0) (hd : d < b) : Guess b v1 v0 u d (u / v1) (u % v1) := by
 have hp : 0 < v1 := by omega
 refine ⟨by rw [Nat.mul_comm]; exact (Nat.div_add_mod u v1).symm, ?_, ?_⟩
 ·
  have h1 : u * b + d < (u / v1 + 1) * (v1 * b + v0) := by
   have h2 : u < (u / v1 + 1) * v1 := by
    have h3 := Nat.div_add_mod u v1
    have h4 := Nat.mod_lt u hp
    rw [Nat.add_mul, Nat.one_mul, Nat.mul_comm]; omega
   have h5 : (u + 1) * b ≤ (u / v1 + 1) * v1 * b := Nat.mul_le_mul_right b h2
   rw [Nat.add_mul, Nat.one_mul] at h5
   have h6 : (u / v1 + 1) * (v1 * b + v0) = (u / v1 + 1) * v1 * b + (u / v1 + 1) * v0 := by rw [Nat.mul_add, Nat.mul_assoc]
   omega
  have h7 : 0 < v1 * b + v0 := by have := Nat.mul_pos hp (by omega : 0 < b); omega
  have := (Nat.div_lt_iff_lt_mul h7).2 h1
  omega
 ·
  have h1 : u < (b + 2) * v1 := by
   have e : (b + 2) * v1 = b * v1 + 2 * v1 := by rw [Nat.add_mul]
   have e2 : v1 * b = b * v1 := Nat.mul_comm _ _
   omega
  have := (Nat.div_lt_iff_lt_mul hp).2 h1
  omega

theorem quo_lt {b V u d : Nat} (hV : 0 < V) (hu : u < V) (hd : d < b) : (u * b + d) / V < b := by
 rw [Nat.div_lt_iff_lt_mul hV]
 have : (u + 1) * b ≤ V * b := Nat.mul_le_mul_right b hu
 rw [Nat.add_mul, Nat.one_mul] at this
 rw [Nat.mul_comm b V]
 omega

theorem Guess.less {b v1 v0 u d q r : Nat} (h : Guess b v1 v0 u d q r) (hV : 0 < v1 * b + v0) (hu : u < v1 * b + v0) (hd : d < b) (ht : b ≤ q ∨ b * r + d < q * v0) :
  1 ≤ q ∧ Guess b v1 v0 u d (q - 1) (r + v1) := by
 have hq : (u * b + d) / (v1 * b + v0) < q := by
  rcases ht with ht | ht
  ·
   exact Nat.lt_of_lt_of_le (quo_lt hV hu hd) ht
  ·
   rw [Nat.div_lt_iff_lt_mul hV]
   have e := h.eq
   have e2 : u * b = q * v1 * b + r * b := by rw [e, Nat.add_mul]
   have e3 : q * (v1 * b + v0) = q * v1 * b + q * v0 := by rw [Nat.mul_add, Nat.mul_assoc]
   have e4 : r * b = b * r := Nat.mul_comm _ _
   omega
 have h1 : 1 ≤ q := Nat.lt_of_le_of_lt (Nat.zero_le _) hq
 refine ⟨h1, ?_, by omega, by have := h.hi; omega⟩
 have e := h.eq
 obtain ⟨q, rfl⟩ : ∃ q', q = q' + 1 := ⟨q - 1, by omega⟩
 simp only [Nat.add_sub_cancel]
 rw [Nat.add_mul, Nat.one_mul] at e
 omega

theorem Guess.done {b v1 v0 u d q r : Nat} (h : Guess b v1 v0 u d q r) (hV : 0 < v1 * b + v0) (ht : q * v0 ≤ b * r + d) : q = (u * b + d) / (v1 * b + v0) := by
 apply Nat.le_antisymm _ h.lo
 rw [Nat.le_div_iff_mul_le hV]
 have e := h.eq
 have e2 : u * b = q * v1 * b + r * b := by rw [e, Nat.add_mul]
 have e3 : q * (v1 * b + v0) = q * v1 * b + q * v0 := by rw [Nat.mul_add, Nat.mul_assoc]
 have e4 : r * b = b * r := Nat.mul_comm _ _
 omega

theorem Guess.broke {b v1 v0 u d q r : Nat} (h : Guess b v1 v0 u d q r) (hV : 0 < v1 * b + v0) (hv0 : v0 < b) (hq : q ≤ b) (hr : b ≤ r) : q = (u * b + d) / (v1 * b + v0) := by
 refine h.done hV ?_
 have h1 : q * v0 ≤ b * v0 := Nat.mul_le_mul_right _ hq
 have h2 : b * v0 ≤ b * r := Nat.mul_le_mul_left _ (by omega)
 omega

theorem two_halves {b V u d1 d0 q1 q0 r : Nat} (hV : 0 < V) (hu : u < V) (hd0 : d0 < b) (h1 : q1 = (u * b + d1) / V) (hr : r = (u * b + d1) % V) (h0 : q0 = (r * b + d0) / V) :
  q1 * b + q0 = (u * (b * b) + d1 * b + d0) / V ∧ (r * b + d0) % V = (u * (b * b) + d1 * b + d0) % V := by
 have e1 := Nat.div_add_mod (u * b + d1) V
 rw [← h1, ← hr] at e1
 have e2 : u * (b * b) + d1 * b + d0 = (q1 * b) * V + (r * b + d0) := by
  have : (u * b + d1) * b = (V * q1 + r) * b := by rw [e1]
  rw [Nat.add_mul, Nat.add_mul] at this
  have e3 : u * b * b = u * (b * b) := Nat.mul_assoc _ _ _
  have e4 : V * q1 * b = q1 * b * V := by ac_rfl
  omega
 rw [e2, h0]
 constructor
 ·
  rw [Nat.add_comm (q1 * b * V), Nat.add_mul_div_right _ _ hV, Nat.add_comm]
 ·
  rw [Nat.add_comm (q1 * b * V), Nat.add_mul_mod_self_right]

theorem or_disjoint (a x s : Nat) (hx : x < 2 ^ s) : a * 2 ^ s ||| x = a * 2 ^ s + x := by
 rw [Nat.mul_comm]
 exact (Nat.two_pow_add_eq_or_of_lt hx a).symm

end Go.Proofs.YtofijjomfhmbjaaGreat

namespace Go.Proofs.YtofijjomfhmbjaaGreat
open Go.RowKit

def dvQ (hi lo y : Nat) : Nat := (b32 * hi + lo) / y
def dvR (hi lo y : Nat) : Nat := (b32 * hi + lo) % y
theorem quo_lt' {b V u d : Nat} (hV : 0 < V) (hu : u < V) (hd : d < b) : (b * u + d) / V < b := by rw [Nat.mul_comm]; exact quo_lt hV hu hd

structure By32 (a : List Nat) (d j : Nat) (o : List Nat) (r : Nat) : Prop where
 len : o.length = a.length
 dgs : Dgs b32 o
 rem : r < d
 val : lv b32 (a.drop j) = lv b32 (o.drop j) * d + r
 low : ∀ i, i < j → o.getD i 0 = 0

theorem By32.start (a : List Nat) (d : Nat) (hd : 0 < d) : By32 a d a.length (List.replicate a.length 0) 0 :=
 ⟨by simp, Dgs.replicate b32_pos _, hd, by simp [lv], fun i _ => by simp [List.getElem?_replicate]; split <;> rfl⟩

theorem dvQ_lt (hi lo y : Nat) (hy : 0 < y) (hlo : lo < b32) (hh : hi < y) : dvQ hi lo y < b32 := quo_lt' hy hh hlo

theorem By32.step {a : List Nat} {d j : Nat} {o : List Nat} {r : Nat} (h : By32 a d (j + 1) o r) (ha : Dgs b32 a) (hj : j < a.length) :
  By32 a d j (o.set j (dvQ r (a.getD j 0) d)) (dvR r (a.getD j 0) d) := by
 have hd : 0 < d := by have := h.rem; omega
 have hx := ha.getD b32_pos j
 refine ⟨by simpa using h.len, h.dgs.set _ _ (dvQ_lt _ _ _ hd hx h.rem), Nat.mod_lt _ hd, ?_, fun i hi => ?_⟩
 ·
  have h1 : (o.set j (dvQ r (a.getD j 0) d)).drop j = dvQ r (a.getD j 0) d :: o.drop (j + 1) := by
   rw [List.drop_eq_getElem_cons (by simp [h.len]; exact hj)]
   simp [List.drop_set]
  rw [h1, List.drop_eq_getElem_cons hj, lv_cons, lv_cons, h.val]
  have hg : a.getD j 0 = a[j] := by simp [hj]
  rw [← hg]
  have e := Nat.div_add_mod (b32 * r + a.getD j 0) d
  have e2 : d * dvQ r (a.getD j 0) d + dvR r (a.getD j 0) d = b32 * r + a.getD j 0 := e
  rw [Nat.mul_add, Nat.add_mul]
  have e3 : b32 * lv b32 (o.drop (j + 1)) * d = b32 * (lv b32 (o.drop (j + 1)) * d) := Nat.mul_assoc _ _ _
  have e4 : dvQ r (a.getD j 0) d * d = d * dvQ r (a.getD j 0) d := Nat.mul_comm _ _
  omega
 ·
  have := h.low i (by omega)
  rw [List.getD_eq_getElem?_getD] at *
  rw [List.getElem?_set_ne (by omega)]
  exact this

theorem By32.done {a : List Nat} {d : Nat} {o : List Nat} {r : Nat} (h : By32 a d 0 o r) : lv b32 o = lv b32 a / d ∧ r = lv b32 a % d := by
 have hd : 0 < d := by have := h.rem; omega
 have hv := h.val
 simp only [List.drop_zero] at hv
 rw [hv]
 constructor
 ·
  rw [Nat.add_comm, Nat.add_mul_div_right _ _ hd, Nat.div_eq_of_lt h.rem, Nat.zero_add]
 ·
  rw [Nat.add_comm, Nat.add_mul_mod_self_right, Nat.mod_eq_of_lt h.rem]


def RetNatDigit (q r : Nat) (w : World) (e : Ending) (w' : World) : Prop :=
 ∃ v, e = .returned (.tuple #[v, .int .u32 (r : Nat)]) ∧ IsNat .u32 b32 w' v q ∧ Below w.heap.size w w'

set_option maxRecDepth 100000 in
set_option maxHeartbeats 1000000 in
theorem byDigit_any (m d : Nat) (va : Value) (w : World) (ha : IsNat .u32 b32 w va m) (hsz : (dig b32 m).length ≤ 1099511627776) (hd0 : 0 < d) (hd1 : d < b32) :
  Calls Tryz.prog 104 #[va, .int .u32 d] w (RetNatDigit (m / d) (m % d) w) := by
 obtain ⟨aa, ca, rfl, hA⟩ := IsRow.opened ha
 have hda := dgs_dig b32_two m
 have Hva := Lib.hid (lv_dig b32_two m)
 clear ha
 generalize dig b32 m = da at *
 obtain ⟨i0, hi, hz0, hz1, hz2⟩ := info_parts info_u32
 have hdb : (d : Int) ≤ 4294967295 := by unfold b32 at hd1; omega
 have Hd := Lib.hid hd1
 have cd : IntKind.u64.wrap (d : Int) = d := IntWalk.u64_in _ (by omega)
 clear hd1
 go_enter Tryz.func104, Tryz.ntmps104
 go_wp2_with (at_make; refine wpList_make_full _ rfl _ _ 68 rfl w.heap.size 144 i0 (.int .u32 0) 1 Tryz.underlying68 hi hz0 hz1 _ _ _ _ da.length rfl rfl (by omega) (by omega) (by rw [hz2]; omega) (by unfold maxLen; omega) (by omega) ?_)
 intro w1 hown hgrow
 have ho := Own.of_made hown
 have hbel := (Below.refl w.heap.size w).grown hgrow (Nat.le_refl _) (by simp)
 clear hown hgrow hi hz0 hz1 hz2
 go_wp2_with fail
 go_loopw [7, 8] (fun rv jv wr => ∃ (j : Nat) (o : List Nat) (r : Nat), j ≤ da.length ∧ jv = .int .i64 ((j : Int) - 1) ∧ rv = .int .u64 r ∧ Own wr w.heap.size .u32 144 o ∧ Hid (By32 da d j o r) ∧ Below w.heap.size w wr)
  (fun _ jv _ => ((intOf jv) + 1).toNat)
 case atStart => exact ⟨da.length, _, 0, Nat.le_refl _, by go_num, rfl, ho, By32.start da d hd0, hbel⟩
 case round =>
  clear ho hbel
  obtain ⟨j, o, r, hj, rfl, rfl, ho, hB, hbel⟩ := hrel
  have hr := hB.out.rem
  have hrb : (r : Int) ≤ 4294967294 := by omega
  have Hr := Lib.hid hr
  clear hr
  rcases Nat.eq_zero_or_pos j with rfl | hjp
  ·
   have hlen := Lib.hid hB.out.len
   have er : IntKind.u32.wrap (r : Int) = r := IntWalk.u32_in _ (by omega)
   go_wp2_with fail
   have hrow := ho.isRow (by unfold maxLen; rw [hlen.out]; omega)
   rw [hlen.out] at hrow
   refine (qcut_any o _ _ hrow hB.out.dgs).mono ?_
   rintro e w' ⟨v, rfl, hv, rfl⟩
   go_wp2_with fail
   go_ret2
   have hdn := hB.out.done
   rw [Hva.out] at hdn
   rw [← hdn.1, ← hdn.2]
   exact ⟨v, rfl, hv, hbel⟩
  ·
   obtain ⟨i, rfl⟩ : ∃ i, j = i + 1 := ⟨j - 1, by omega⟩
   obtain ⟨b, off, rfl, hbA, hcA⟩ := hA (by omega)
   have hca : wr.cell? ⟨b, off + i, none⟩ = some (.int .u32 (da.getD i 0 : Nat)) := (hbel.cell (p := ⟨b, off + i, none⟩) hbA).trans (hcA i (by omega))
   have hco := ho.cell i (by rw [hB.out.len]; omega)
   have hfo := ho.frozen i
   have hx := hda.getD b32_pos i
   have hst := Lib.hid (hB.out.step hda (show i < da.length by omega))
   have hql := dvQ_lt r (da.getD i 0) d hd0 hx Hr.out
   generalize da.getD i 0 = x at *
   have hxb : (x : Int) ≤ 4294967295 := by unfold b32 at hx; omega
   have e1 : ((i + 1 : Nat) : Int) - 1 = (i : Int) := by omega
   rw [e1]
   have hi1 : (i : Int) < da.length := by omega
   obtain ⟨X, hX⟩ : ∃ X, X = b32 * r + x := ⟨_, rfl⟩
   have eX : (r : Int) * 4294967296 + x = (X : Int) := by rw [hX]; unfold b32; simp; omega
   have hXb : (r : Int) * 4294967296 + x ≤ 18446744073709551615 := by omega
   have hXb2 : (X : Int) ≤ 18446744073709551615 := by omega
   obtain ⟨Q, hQ⟩ : ∃ Q, Q = dvQ r x d := ⟨_, rfl⟩
   obtain ⟨R, hR⟩ : ∃ R, R = dvR r x d := ⟨_, rfl⟩
   have eq : (X : Int) / d = (Q : Int) := by rw [hQ, hX]; unfold dvQ; simp
   have erm : (X : Int) % d = (R : Int) := by rw [hR, hX]; unfold dvR; simp
   rw [← hQ] at hql
   have hQb : (Q : Int) ≤ 4294967295 := by unfold b32 at hql; omega
   have HE := Lib.hid erm
   have HQ := Lib.hid hQ
   have HR := Lib.hid hR
   have hdp : 1 ≤ (d : Int) := by omega
   clear hX hQ hR hx hql hXb
   go_wp2_with fail
   rw [← HQ.out, ← HR.out] at hst
   exact ⟨⟨i, _, R, by omega, rfl, by first | rfl | rw [HE.out], ho.store _ _, hst.out, hbel.setCell (p := ⟨w.heap.size, i, none⟩) (Nat.le_refl _) _⟩, by simp [intOf]⟩


/-! ### halved -/
def hw (x y : Nat) : Nat := 2147483648 * (y % 2) + x / 2
theorem hw_zero (x : Nat) : x / 2 = hw x 0 := by unfold hw; simp
theorem hw_even (x y : Nat) (h : y % 2 = 0) : x / 2 = hw x y := by unfold hw; rw [h]; simp
theorem hw_odd (x y : Nat) (h : y % 2 = 1) : x / 2 + 2147483648 = hw x y := by unfold hw; rw [h, Nat.mul_one, Nat.add_comm]
theorem hw_lt (x y : Nat) (h : x < b32) : hw x y < b32 := by unfold hw; unfold b32 at *; omega
theorem hw_lv (x T : Nat) : hw x T + b32 * (T / 2) = (x + b32 * T) / 2 := by unfold hw b32; omega
def hlL : List Nat → List Nat
 | [] => []
 | x :: t => hw x (t.headD 0) :: hlL t
theorem hlL_length (a : List Nat) : (hlL a).length = a.length := by
 induction a with
 | nil => rfl
 | cons x t ih => simp [hlL, ih]
theorem hlL_getD (a : List Nat) (i : Nat) (hi : i < a.length) : (hlL a).getD i 0 = hw (a.getD i 0) (a.getD (i + 1) 0) := by
 induction a generalizing i with
 | nil => simp at hi
 | cons x t ih =>
  cases i with
  | zero => cases t <;> simp [hlL]
  | succ i => simpa [hlL] using ih i (by simpa using hi)
theorem hlL_dgs (a : List Nat) (ha : Dgs b32 a) : Dgs b32 (hlL a) := by
 induction a with
 | nil => exact Dgs.nil _
 | cons x t ih =>
  exact Dgs.cons (hw_lt _ _ ha.head) (ih ha.tail)
theorem lv_mod2 (t : List Nat) : lv b32 t % 2 = t.headD 0 % 2 := by
 cases t with
 | nil => rfl
 | cons y u =>
  rw [lv_cons]
  generalize lv b32 u = U
  show (y + b32 * U) % 2 = y % 2
  unfold b32
  omega
theorem lv_hlL (a : List Nat) : lv b32 (hlL a) = lv b32 a / 2 := by
 induction a with
 | nil => simp [hlL, lv]
 | cons x t ih =>
  rw [hlL, lv_cons, lv_cons, ih]
  have e : hw x (t.headD 0) = hw x (lv b32 t) := by unfold hw; rw [lv_mod2 t]
  rw [e]
  exact hw_lv x _

structure HlIn (a : List Nat) (i : Nat) (o : List Nat) : Prop where
 len : o.length = a.length
 dgs : Dgs b32 o
 val : ∀ j, j < i → o.getD j 0 = (hlL a).getD j 0
theorem HlIn.done {a : List Nat} {o : List Nat} (h : HlIn a a.length o) : lv b32 o = lv b32 a / 2 := by
 have e : o = hlL a := by
  apply List.ext_getElem
  ·
   rw [h.len, hlL_length]
  ·
   intro j h1 h2
   have := h.val j (by rw [h.len] at h1; exact h1)
   simpa [h1, h2] using this
 rw [e, lv_hlL]
theorem HlIn.step {a : List Nat} {i : Nat} {o : List Nat} (h : HlIn a i o) (ha : Dgs b32 a) (hi : i < a.length) (x : Nat) (hx : x = hw (a.getD i 0) (a.getD (i + 1) 0)) : HlIn a (i + 1) (o.set i x) := by
 have e : x = (hlL a).getD i 0 := by rw [hlL_getD a i hi, hx]
 refine ⟨by simpa using h.len, h.dgs.set _ _ (by rw [e]; exact (hlL_dgs a ha).getD b32_pos i), fun j hj => ?_⟩
 by_cases hji : j = i
 ·
  subst hji
  rw [List.getD_eq_getElem?_getD, List.getElem?_set_self (by rw [h.len]; exact hi)]
  exact e
 ·
  have := h.val j (by omega)
  rw [← this, List.getD_eq_getElem?_getD, List.getElem?_set_ne (by omega), List.getD_eq_getElem?_getD]

set_option maxRecDepth 100000 in
set_option maxHeartbeats 1000000 in
theorem halved_own (m : Nat) (va : Value) (w : World) (ha : IsNat .u32 b32 w va m) (hsz : (dig b32 m).length ≤ 1099511627776) :
  Calls Tryz.prog 107 #[va] w (RetNatNew .u32 b32 (m / 2) w) := by
 obtain ⟨aa, ca, rfl, hA⟩ := IsRow.opened ha
 have hda := dgs_dig b32_two m
 have Hva := Lib.hid (lv_dig b32_two m)
 clear ha
 generalize dig b32 m = da at *
 obtain ⟨i0, hi, hz0, hz1, hz2⟩ := info_parts info_u32
 go_enter Tryz.func107, Tryz.ntmps107
 go_wp2_with (at_make; refine wpList_make_full _ rfl _ _ 68 rfl w.heap.size 144 i0 (.int .u32 0) 1 Tryz.underlying68 hi hz0 hz1 _ _ _ _ da.length rfl rfl (by omega) (by omega) (by rw [hz2]; omega) (by unfold maxLen; omega) (by omega) ?_)
 intro w1 hown hgrow
 have ho := Own.of_made hown
 have hbel := (Below.refl w.heap.size w).grown hgrow (Nat.le_refl _) (by simp)
 clear hown hgrow hi hz0 hz1 hz2
 go_wp2_with fail
 go_loopw [4] (fun c wr => ∃ (i : Nat) (o : List Nat), i ≤ da.length ∧ c = .int .i64 i ∧ Own wr w.heap.size .u32 144 o ∧ Hid (HlIn da i o) ∧ Below w.heap.size w wr)
  (fun c _ => da.length - (intOf c).toNat)
 case atStart => exact ⟨0, _, Nat.zero_le _, rfl, ho, ⟨by simp, Dgs.replicate b32_pos _, fun j hj => absurd hj (by omega)⟩, hbel⟩
 case round =>
  clear ho hbel
  obtain ⟨i, o, hil, rfl, ho, hM, hbel⟩ := hrel
  by_cases hlt : i < da.length
  ·
   obtain ⟨b, off, rfl, hbA, hcA⟩ := hA (by omega)
   have hca : wr.cell? ⟨b, off + i, none⟩ = some (.int .u32 (da.getD i 0 : Nat)) := (hbel.cell (p := ⟨b, off + i, none⟩) hbA).trans (hcA i hlt)
   have hco := ho.cell i (by rw [hM.out.len]; exact hlt)
   have hfo := ho.frozen i
   have hx := hda.getD b32_pos i
   have hst := Lib.hid (fun x h => hM.out.step hda hlt x h)
   have hcB : i + 1 < da.length → wr.cell? ⟨b, off + (i + 1), none⟩ = some (.int .u32 (da.getD (i + 1) 0 : Nat)) := fun h => (hbel.cell (p := ⟨b, off + (i + 1), none⟩) hbA).trans (hcA _ h)
   have hzB : ¬ i + 1 < da.length → da.getD (i + 1) 0 = 0 := fun h => by simp [List.getElem?_eq_none (Nat.le_of_not_lt h)]
   generalize da.getD i 0 = x at *
   generalize da.getD (i + 1) 0 = y at *
   have hxb : (x : Int) ≤ 4294967295 := by unfold b32 at hx; omega
   clear hcA
   by_cases tn : i + 1 < da.length
   ·
    have tn' : decide ((i : Int) + 1 < da.length) = true := by simp; omega
    have hcb := hcB tn
    clear hcB hzB
    by_cases ty : y % 2 = 1
    ·
     have ey : (((y : Int) % 2) == 1) = true := by simp; omega
     have hX : Hid (x / 2 + 2147483648 = hw x y) := hw_odd x y ty
     have hxh : ((x : Int) / 2) + 2147483648 ≤ 4294967295 := by omega
     clear ty
     go_wp2_with fail
     refine ⟨⟨i + 1, (o.set i (x / 2)).set i (x / 2 + 2147483648), by omega, by go_num, ?_, ?_, (hbel.setCell (p := ⟨w.heap.size, i, none⟩) (Nat.le_refl _) _).setCell (p := ⟨w.heap.size, i, none⟩) (Nat.le_refl _) _⟩, meas_up hlt⟩
     ·
      have := (ho.store i (x / 2)).store i (x / 2 + 2147483648)
      exact this
     ·
      rw [List.set_set]
      exact hst.out _ hX.out
    ·
     have ey : (((y : Int) % 2) == 1) = false := by simp; omega
     have hX : Hid (x / 2 = hw x y) := hw_even x y (by omega)
     clear ty
     go_wp2_with fail
     refine ⟨⟨i + 1, o.set i (x / 2), by omega, by go_num, ?_, hst.out _ hX.out, hbel.setCell (p := ⟨w.heap.size, i, none⟩) (Nat.le_refl _) _⟩, meas_up hlt⟩
     exact ho.store i (x / 2)
   ·
    have tn' : decide ((i : Int) + 1 < da.length) = false := by simp; omega
    obtain rfl : y = 0 := hzB tn
    clear hcB hzB
    go_wp2_with fail
    refine ⟨⟨i + 1, o.set i (x / 2), by omega, by go_num, ?_, hst.out (x / 2) (hw_zero x), hbel.setCell (p := ⟨w.heap.size, i, none⟩) (Nat.le_refl _) _⟩, meas_up hlt⟩
    exact ho.store i (x / 2)
  ·
   obtain rfl : i = da.length := by omega
   have hlen := Lib.hid hM.out.len
   go_wp2_with fail
   have hrow := ho.isRow (by unfold maxLen; rw [hlen.out]; omega)
   rw [hlen.out] at hrow
   refine (qcut_own o _ _ hrow hM.out.dgs).mono ?_
   rintro e w' ⟨v, rfl, hv, rfl, hob⟩
   go_wp2_with fail
   go_ret
   refine ⟨v, rfl, ?_, hbel, fun k hk => by rw [hob] at hk; cases hk; exact Nat.le_refl _⟩
   have := hM.out.done
   rw [Hva.out] at this
   rw [← this]
   exact hv

end Go.Proofs.YtofijjomfhmbjaaGreat

namespace Go.Proofs.YtofijjomfhmbjaaGreat
open Go.RowKit

def bl (m : Nat) : Nat := if m = 0 then 0 else Nat.log2 m + 1
theorem bl_zero : bl 0 = 0 := rfl
theorem bl_spec (m : Nat) (h : m ≠ 0) : 1 ≤ bl m ∧ 2 ^ (bl m - 1) ≤ m ∧ m < 2 ^ bl m := by
 unfold bl
 rw [if_neg h]
 exact ⟨by omega, by simpa using Nat.log2_self_le h, Nat.lt_log2_self⟩
theorem bl_lt (m : Nat) : m < 2 ^ bl m := by
 rcases Nat.eq_zero_or_pos m with rfl | h
 ·
  exact Nat.two_pow_pos _
 ·
  exact (bl_spec m (by omega)).2.2
theorem bl_eq {m k : Nat} (h1 : 2 ^ k ≤ m) (h2 : m < 2 ^ (k + 1)) : bl m = k + 1 := by
 have h0 : m ≠ 0 := by have := Nat.two_pow_pos k; omega
 obtain ⟨a, b, c⟩ := bl_spec m h0
 have e1 := (Nat.pow_lt_pow_iff_right (a := 2) (by omega)).1 (Nat.lt_of_le_of_lt b h2)
 have e2 := (Nat.pow_lt_pow_iff_right (a := 2) (by omega)).1 (Nat.lt_of_le_of_lt h1 c)
 omega
theorem bl_le (x k : Nat) (h : x < 2 ^ k) : bl x ≤ k := by
 by_cases h0 : x = 0
 ·
  subst h0; rw [bl_zero]; omega
 ·
  have h1 := (Nat.pow_lt_pow_iff_right (a := 2) (by omega)).1 (Nat.lt_of_le_of_lt (bl_spec x h0).2.1 h)
  omega
theorem bl_half (x : Nat) (h : x ≠ 0) : bl x = bl (x / 2) + 1 := by
 by_cases h1 : x = 1
 ·
  subst h1; rfl
 ·
  obtain ⟨a, b, c⟩ := bl_spec (x / 2) (by omega)
  have e : 2 ^ (bl (x / 2) + 1) = 2 * 2 ^ bl (x / 2) := by rw [Nat.pow_succ]; omega
  have e2 : 2 ^ bl (x / 2) = 2 * 2 ^ (bl (x / 2) - 1) := by rw [← Nat.pow_succ']; congr 1; omega
  exact bl_eq (by omega) (by omega)
theorem bl_low (L a x : Nat) (ha : a < 2 ^ L) (hx : x ≠ 0) : bl (a + 2 ^ L * x) = L + bl x := by
 obtain ⟨h1, h2, h3⟩ := bl_spec x hx
 have e : L + bl x = L + (bl x - 1) + 1 := by omega
 rw [e]
 apply bl_eq
 ·
  rw [Nat.pow_add]
  have := Nat.mul_le_mul_left (2 ^ L) h2
  omega
 ·
  rw [show L + (bl x - 1) + 1 = L + bl x by omega, Nat.pow_add]
  have : 2 ^ L * (x + 1) ≤ 2 ^ L * 2 ^ bl x := Nat.mul_le_mul_left _ h3
  rw [Nat.mul_add, Nat.mul_one] at this
  omega
theorem b32_pow32 (L : Nat) : b32 ^ L = 2 ^ (32 * L) := by rw [b32_pow, ← Nat.pow_mul]
theorem bl_dig (m : Nat) (h : m ≠ 0) : bl m = 32 * ((dig b32 m).length - 1) + bl ((dig b32 m).getD ((dig b32 m).length - 1) 0) := by
 have hne : dig b32 m ≠ [] := by rw [Ne, dig_nil_iff b32_two]; exact h
 have hl : 0 < (dig b32 m).length := List.length_pos_iff.2 hne
 have h1 := lv_take_succ b32 (dig b32 m) ((dig b32 m).length - 1) (by omega)
 rw [Nat.sub_add_cancel hl, List.take_length, lv_dig b32_two] at h1
 have h2 := lv_lt ((dgs_dig b32_two m).take ((dig b32 m).length - 1))
 have e : ((dig b32 m).take ((dig b32 m).length - 1)).length = (dig b32 m).length - 1 := by simp
 rw [e] at h2
 have h3 : (dig b32 m).getD ((dig b32 m).length - 1) 0 ≠ 0 := by
  have := dig_last b32_two m hne
  rw [List.getLast_eq_getElem] at this
  simpa [show (dig b32 m).length - 1 < (dig b32 m).length by omega] using this
 generalize (dig b32 m).getD ((dig b32 m).length - 1) 0 = x at *
 generalize lv b32 ((dig b32 m).take ((dig b32 m).length - 1)) = a at *
 generalize (dig b32 m).length - 1 = L at *
 rw [b32_pow32] at h1 h2
 rw [h1]
 exact bl_low _ _ _ h2 h3
def RetIntS (n : Int) (w : World) (e : Ending) (w' : World) : Prop := e = .returned (.int .i64 n) ∧ w' = w

set_option maxHeartbeats 1000000 in
theorem bits_any (m : Nat) (va : Value) (w : World) (ha : IsNat .u32 b32 w va m) (hsz : (dig b32 m).length ≤ 1099511627776) :
  Calls Tryz.prog 105 #[va] w (RetIntS (bl m) w) := by
 obtain ⟨aa, ca, rfl, hA⟩ := IsRow.opened ha
 clear ha
 by_cases h0 : m = 0
 ·
  subst h0
  go_enter Tryz.func105, Tryz.ntmps105
  go_wp2_with fail
  go_ret
  exact ⟨rfl, rfl⟩
 ·
  have hne : dig b32 m ≠ [] := by rw [Ne, dig_nil_iff b32_two]; exact h0
  have hl : 0 < (dig b32 m).length := List.length_pos_iff.2 hne
  have hb := bl_dig m h0
  have hd := (dgs_dig b32_two m).getD b32_pos ((dig b32 m).length - 1)
  obtain ⟨b, off, rfl, hbA, hcA⟩ := hA (by omega)
  have hca := hcA ((dig b32 m).length - 1) (by omega)
  clear hcA hA hne
  generalize (dig b32 m).getD ((dig b32 m).length - 1) 0 = x at *
  generalize (dig b32 m).length = L at *
  obtain ⟨K, rfl⟩ : ∃ K, L = K + 1 := ⟨L - 1, by omega⟩
  simp only [Nat.add_sub_cancel] at *
  have c1 : (((K + 1 : Nat) : Int) == 0) = false := by simp; omega
  have hxb : (x : Int) ≤ 4294967295 := by unfold b32 at hd; omega
  have hbx := bl_le x 32 (by rw [b32_pow] at hd; exact hd)
  have Hm : Hid (bl m ≤ 35184372088864) := by show _ ≤ _; omega
  have HB := Lib.hid hb
  have HD := Lib.hid hd
  clear hb hd hl h0 hbx
  go_enter Tryz.func105, Tryz.ntmps105
  go_wp2_with fail
  go_loopw [3, 4] (fun nv xv wr => ∃ (k x : Nat), nv = .int .i64 k ∧ xv = .int .u32 x ∧ Hid (x < b32 ∧ bl m = k + bl x) ∧ wr = w)
   (fun _ xv _ => (intOf xv).toNat)
  case atStart => exact ⟨32 * K, x, by go_num, rfl, ⟨HD.out, HB.out⟩, rfl⟩
  case round =>
   clear HB HD hxb hca
   obtain ⟨k, x, rfl, rfl, hI, rfl⟩ := hrel
   have hI2 := hI.out.1
   have hk : (k : Int) ≤ 35184372088864 := by have h1 := hI.out.2; have h2 := Hm.out; omega
   have hxb : (x : Int) ≤ 4294967295 := by unfold b32 at hI2; omega
   clear hI2
   by_cases hx : x = 0
   ·
    subst hx
    go_wp2_with fail
    go_ret
    refine ⟨?_, rfl⟩
    rw [hI.out.2, bl_zero]
    rfl
   ·
    have t : decide ((0 : Int) < x) = true := by simp; omega
    have hx1 : 1 ≤ (x : Int) := by omega
    go_wp2_with fail
    refine ⟨⟨k + 1, x / 2, by go_num, by go_num, ⟨?_, ?_⟩, ?_⟩, ?_⟩
    ·
     have := hI.out.1; omega
    ·
     rw [hI.out.2, bl_half x hx]; omega
    ·
     trivial
    ·
     simp [intOf]; omega

end Go.Proofs.YtofijjomfhmbjaaGreat

namespace Go.Proofs.YtofijjomfhmbjaaGreat
open Go.RowKit

set_option maxRecDepth 100000 in
set_option maxHeartbeats 1000000 in
theorem shifted_own (m n : Nat) (va : Value) (w : World) (ha : IsNat .u32 b32 w va m) (hm : m ≠ 0) (hsz : (dig b32 m).length ≤ 274877906944) (hn : n ≤ 4398046511104) :
  Calls Tryz.prog 106 #[va, .int .i64 n] w (RetNatNew .u32 b32 (m * 2 ^ n) w) := by
 obtain ⟨aa, ca, rfl, hA⟩ := IsRow.opened ha
 have hne : dig b32 m ≠ [] := by rw [Ne, dig_nil_iff b32_two]; exact hm
 have hl : 0 < (dig b32 m).length := List.length_pos_iff.2 hne
 obtain ⟨b, off, rfl, hbA, hcA⟩ := hA (by omega)
 have hda := dgs_dig b32_two m
 have Hva := Lib.hid (lv_dig b32_two m)
 clear ha hA hne
 generalize dig b32 m = da at *
 obtain ⟨i0, hi, hz0, hz1, hz2⟩ := info_parts info_u32
 have Hb : Hid (b < w.heap.size) := hbA
 have HcA := Lib.hid hcA
 have hs : Hid (2 ^ (n % 32) < b64) := by
  show _ < _
  rw [b64_pow]
  exact Nat.pow_lt_pow_right (by omega) (by omega)
 obtain ⟨S, hS⟩ : ∃ S, S = 2 ^ (n % 32) := ⟨_, rfl⟩
 have e1 : IntKind.u64.wrap ((2 : Int) ^ (n % 32)) = (S : Int) := by
  have := hs.out
  rw [← hS] at this
  have e : (2 : Int) ^ (n % 32) = (S : Int) := by rw [hS]; simp
  rw [e]
  exact IntWalk.u64_in _ (by unfold b64 at this; omega)
 rw [← hS] at hs
 have HS := Lib.hid hS
 clear hS hm hcA hbA
 go_enter Tryz.func106, Tryz.ntmps106
 go_wp2_with (at_make; refine wpList_make_full _ rfl _ _ 68 rfl w.heap.size 144 i0 (.int .u32 0) 1 Tryz.underlying68 hi hz0 hz1 _ _ _ _ (n / 32) rfl rfl (by omega) (by omega) (by rw [hz2]; omega) (by unfold maxLen; omega) (by omega) ?_)
 intro w1 hown hgrow
 have hbel := (Below.refl w.heap.size w).grown hgrow (Nat.le_refl _) (by simp)
 have hsz1 := hbel.size
 go_wp2_with (at_builtin; refine wpList_append_own _ rfl (.tmp 9) (.tmp 10) 68 rfl w.heap.size 144 i0 (.int .u32 0) 1 4 Tryz.underlying68 hi hz0 hz1 hz2 rfl (by decide) _ _ _ rfl hown ⟨b, off, none⟩ da.length ca (da.map (fun d : Nat => Value.int .u32 (d : Int))) rfl (by simp) (row_cells (fun q hq => (hbel.cell (p := ⟨b, off + q, none⟩) Hb.out).trans (HcA.out q hq))) (row_one _) (by unfold maxLen; omega) (by omega) (by omega) ?_)
 intro v3 w3 hown3 hgr3 _
 have e0 : (madeCells #[Value.int IntKind.u32 0] (n / 32)).toList ++ da.map (fun d : Nat => Value.int .u32 (d : Int)) = (List.replicate (n / 32) 0 ++ da).map (fun d : Nat => Value.int .u32 (d : Int)) := by
  rw [toList_madeCells_one]; simp
 rw [e0] at hown3
 have hbel3 : Below w.heap.size w w3 := hbel.grown hgr3 hsz1 (by intro k hk; simp [Value.ownBlock] at hk; omega)
 obtain ⟨g, cap, rfl⟩ := ownsRow_some hown3 (by omega)
 obtain ⟨ho, hcap1, hcap2, hg1⟩ := Own.of_ownsRow (by simp) hown3
 have hrow := ho.isRowCap cap (by simpa using hcap1) hcap2
 have e3 : (List.replicate (n / 32) 0 ++ da).length = n / 32 + da.length := by simp
 rw [e3] at hrow
 clear hown hown3 hgrow hgr3 e0 hi hz0 hz1 hz2 ho hcap1 hcap2
 go_wp2_with fail
 refine (nat_any S w3 hs.out).mono ?_
 rintro e w4 ⟨vS, rfl, hvS, hb4⟩
 go_wp2_with fail
 have hlS : (dig b32 S).length ≤ 2 := dig_length_le b32_two 2 S (by have := hs.out; unfold b64 at this; unfold b32; omega)
 refine (product_row_own _ _ _ _ _ (hrow.below hb4) hvS ((Dgs.replicate b32_pos _).append hda) (dgs_dig b32_two S) (by rw [e3]; omega)).mono ?_
 rintro e w5 ⟨v, rfl, hv, hb5, hob⟩
 go_wp2_with fail
 go_ret
 refine ⟨v, rfl, ?_, ext_trans hbel3 (hb4.trans (hb5.mono hb4.size)), fun k hk => Nat.le_trans (Nat.le_trans hbel3.size hb4.size) (hob k hk)⟩
 rw [lv_append, lv_replicate, lv_dig b32_two, Hva.out, List.length_replicate, Nat.zero_add, HS.out, b32_pow32] at hv
 have e5 : 2 ^ (32 * (n / 32)) * m * 2 ^ (n % 32) = m * 2 ^ n := by
  rw [Nat.mul_comm (2 ^ _) m, Nat.mul_assoc, ← Nat.pow_add, Nat.div_add_mod]
 rw [e5] at hv
 exact hv

end Go.Proofs.YtofijjomfhmbjaaGreat

namespace Go.Proofs.YtofijjomfhmbjaaGreat
open Go.RowKit

def RetTwo32 (q r : Nat) (w : World) (e : Ending) (w' : World) : Prop :=
 ∃ v1 v2, e = .returned (.tuple #[v1, v2]) ∧ IsNat .u32 b32 w' v1 q ∧ IsNat .u32 b32 w' v2 r ∧ Below w.heap.size w w'

structure QuIn (m d n j : Nat) (o : List Nat) (a : Nat) : Prop where
 len : o.length = n / 32 + 1
 dgs : Dgs b32 o
 val : m = lv b32 o * d + a
 lt : a < d * 2 ^ j
 dvd : ∀ k, 2 ^ (j - 32 * k) ∣ o.getD k 0

theorem QuIn.start (m d : Nat) (hd : d ≠ 0) (n : Nat) (hn : bl d + n = bl m) : QuIn m d n (n + 1) (List.replicate (n / 32 + 1) 0) m := by
 refine ⟨by simp, Dgs.replicate b32_pos _, by simp [lv_replicate], ?_, fun k => ?_⟩
 ·
  have h1 := bl_lt m
  obtain ⟨h2, h3, _⟩ := bl_spec d hd
  have e : bl m = (bl d - 1) + (n + 1) := by omega
  rw [e, Nat.pow_add] at h1
  exact Nat.lt_of_lt_of_le h1 (Nat.mul_le_mul_right _ h3)
 ·
  have : (List.replicate (n / 32 + 1) 0).getD k 0 = 0 := by simp [List.getElem?_replicate]; split <;> rfl
  rw [this]
  exact Nat.dvd_zero _

theorem QuIn.skip {m d n i : Nat} {o : List Nat} {a : Nat} (h : QuIn m d n (i + 1) o a) (ha : a < d * 2 ^ i) : QuIn m d n i o a :=
 ⟨h.len, h.dgs, h.val, ha, fun k => Nat.dvd_trans (Nat.pow_dvd_pow 2 (by omega)) (h.dvd k)⟩

theorem QuIn.room {m d n i : Nat} {o : List Nat} {a : Nat} (h : QuIn m d n (i + 1) o a) : o.getD (i / 32) 0 + 2 ^ (i % 32) < b32 := by
 have h1 := h.dgs.getD b32_pos (i / 32)
 have h2 := h.dvd (i / 32)
 have e : i + 1 - 32 * (i / 32) = i % 32 + 1 := by omega
 rw [e] at h2
 generalize o.getD (i / 32) 0 = x at *
 have h3 : 2 ^ (i % 32 + 1) ∣ b32 := by rw [b32_pow]; exact Nat.pow_dvd_pow 2 (by omega)
 obtain ⟨c, rfl⟩ := h2
 obtain ⟨c2, hc2⟩ := h3
 rw [hc2] at h1 ⊢
 have h4 := Nat.lt_of_mul_lt_mul_left h1
 have h5 := Nat.mul_le_mul_left (2 ^ (i % 32 + 1)) h4
 have h6 : 2 ^ (i % 32 + 1) = 2 * 2 ^ (i % 32) := by rw [Nat.pow_succ]; omega
 have h7 := Nat.two_pow_pos (i % 32)
 rw [Nat.mul_succ] at h5
 omega

theorem QuIn.take {m d n i : Nat} {o : List Nat} {a : Nat} (h : QuIn m d n (i + 1) o a) (hi : i ≤ n) (ha : d * 2 ^ i ≤ a) (X : Nat) (hX : X = o.getD (i / 32) 0 + 2 ^ (i % 32)) :
  QuIn m d n i (o.set (i / 32) X) (a - d * 2 ^ i) := by
 have hlen : i / 32 < o.length := by rw [h.len]; have := Nat.div_le_div_right (c := 32) hi; omega
 have hroom := h.room
 refine ⟨by simpa using h.len, h.dgs.set _ _ (by omega), ?_, ?_, fun k => ?_⟩
 ·
  have h1 := lv_set b32 o (i / 32) X hlen
  have e : b32 ^ (i / 32) * X = b32 ^ (i / 32) * o.getD (i / 32) 0 + 2 ^ i := by
   rw [hX, Nat.mul_add, b32_pow32, ← Nat.pow_add, Nat.div_add_mod]
  rw [e] at h1
  have e2 : lv b32 (o.set (i / 32) X) = lv b32 o + 2 ^ i := by omega
  rw [e2, Nat.add_mul, Nat.mul_comm (2 ^ i) d]
  have := h.val
  omega
 ·
  have := h.lt
  rw [Nat.pow_succ, ← Nat.mul_assoc] at this
  omega
 ·
  by_cases hk : k = i / 32
  ·
   subst hk
   have e3 : (o.set (i / 32) X).getD (i / 32) 0 = X := by rw [List.getD_eq_getElem?_getD, List.getElem?_set_self hlen]; rfl
   rw [e3, hX]
   have e : i - 32 * (i / 32) = i % 32 := by omega
   rw [e]
   refine Nat.dvd_add (Nat.dvd_trans (Nat.pow_dvd_pow 2 ?_) (h.dvd (i / 32))) (Nat.dvd_refl _)
   omega
  ·
   have e3 : (o.set (i / 32) X).getD k 0 = o.getD k 0 := by
    rw [List.getD_eq_getElem?_getD, List.getElem?_set_ne (by omega), List.getD_eq_getElem?_getD]
   rw [e3]
   exact Nat.dvd_trans (Nat.pow_dvd_pow 2 (by omega)) (h.dvd k)

theorem QuIn.done {m d n : Nat} {o : List Nat} {a : Nat} (h : QuIn m d n 0 o a) : lv b32 o = m / d ∧ a = m % d := by
 have hl := h.lt
 rw [Nat.pow_zero, Nat.mul_one] at hl
 have hd : 0 < d := by omega
 rw [h.val]
 constructor
 ·
  rw [Nat.add_comm, Nat.add_mul_div_right _ _ hd, Nat.div_eq_of_lt hl, Nat.zero_add]
 ·
  rw [Nat.add_comm, Nat.add_mul_mod_self_right, Nat.mod_eq_of_lt hl]

theorem IsNat.own_lt {k : IntKind} {B n : Nat} {w : World} {v : Value} (hB : 2 ≤ B) (h : IsNat k B w v n) (hn : n ≠ 0) {g : Nat} (hg : v.ownBlock = some g) : g < w.heap.size := by
 rcases h with ⟨h0, _⟩ | ⟨h0, b, off, cap, rfl, h1, h2, h3, h4⟩
 ·
  exact absurd ((dig_nil_iff hB n).1 h0) hn
 ·
  simp [Value.ownBlock] at hg
  omega
theorem cmpN_ge {a b : Nat} (h : b ≤ a) : decide (cmpN a b ≥ 0) = true := by
 unfold cmpN
 rw [if_neg (by omega)]
 split <;> rfl
theorem cmpN_nge {a b : Nat} (h : ¬ b ≤ a) : decide (cmpN a b ≥ 0) = false := by
 unfold cmpN
 rw [if_pos (by omega)]
 rfl
theorem cmpN_gt {a b : Nat} (h : b < a) : decide (cmpN a b > 0) = true := by
 unfold cmpN
 rw [if_neg (by omega), if_pos h]
 rfl
theorem cmpN_ngt {a b : Nat} (h : ¬ b < a) : decide (cmpN a b > 0) = false := by
 unfold cmpN
 rw [if_neg h]
 split <;> rfl
theorem bl_lt_of {m d : Nat} (h : bl m < bl d) : m < d := by
 have hd : d ≠ 0 := by intro e; subst e; rw [bl_zero] at h; omega
 have h1 := bl_lt m
 have h2 := (bl_spec d hd).2.1
 have h3 : 2 ^ bl m ≤ 2 ^ (bl d - 1) := Nat.pow_le_pow_right (by omega) (by omega)
 omega
theorem bl_dig_le (m : Nat) : bl m ≤ 32 * (dig b32 m).length := by
 have h := lt_pow_dig_length b32_two m
 rw [b32_pow32] at h
 exact bl_le _ _ h

set_option maxRecDepth 100000 in
set_option maxHeartbeats 1000000 in
theorem quotient_one (m d : Nat) (va vb : Value) (w : World) (ha : IsNat .u32 b32 w va m) (hb : IsNat .u32 b32 w vb d) (hd : d ≠ 0) (hd1 : d < b32) (hsz : (dig b32 m).length ≤ 68719476736) :
  Calls Tryz.prog 84 #[va, vb] w (RetTwo32 (m / d) (m % d) w) := by
 obtain ⟨ab, cb, rfl, hB⟩ := IsRow.opened hb
 have e1 := dig_one b32_two hd hd1
 rw [e1] at hB ⊢
 obtain ⟨b, off, rfl, hbB, hcB⟩ := hB (by simp)
 have hcb : w.cell? ⟨b, off, none⟩ = some (.int .u32 d) := by have := hcB 0 (by simp); simpa using this
 clear hcB hB hb e1
 have Ha := Lib.hid ha
 have Hd := Lib.hid hd1
 have Hd0 := Lib.hid hd
 clear ha hd1 hd
 go_enter Tryz.func84, Tryz.ntmps84
 go_wp2_with fail
 refine (byDigit_any m d va w Ha.out (by omega) (by have := Hd0.out; omega) Hd.out).mono ?_
 rintro e w1 ⟨v, rfl, hv, hb1⟩
 have hr : m % d < b32 := Nat.lt_trans (Nat.mod_lt _ (by have := Hd0.out; omega)) Hd.out
 have hr64 : Hid (m % d < b64) := by show _ < _; unfold b32 at hr; unfold b64; omega
 have hq := hv
 generalize m / d = q at *
 generalize m % d = r at *
 have hrb : (r : Int) ≤ 4294967295 := by unfold b32 at hr; omega
 clear hr hv
 go_wp2_with fail
 refine (nat_any r w1 hr64.out).mono ?_
 rintro e w2 ⟨v2, rfl, hv2, hb2⟩
 go_wp2_with fail
 go_ret2
 exact ⟨_, _, rfl, hq.below hb2, hv2, ext_trans hb1 hb2⟩

set_option maxRecDepth 100000 in
set_option maxHeartbeats 2000000 in
theorem quotient_more (m d : Nat) (va vb : Value) (w : World) (ha : IsNat .u32 b32 w va m) (hb : IsNat .u32 b32 w vb d) (hd : d ≠ 0) (hd1 : (dig b32 d).length ≠ 1) (hsz : (dig b32 m).length ≤ 68719476736) (hsz2 : (dig b32 d).length ≤ 68719476736) :
  Calls Tryz.prog 84 #[va, vb] w (RetTwo32 (m / d) (m % d) w) := by
 obtain ⟨ab, cb, rfl, hB⟩ := IsRow.opened hb
 have Ha := Lib.hid ha
 have Hb := Lib.hid hb
 have Hd := Lib.hid hd
 have t1 : (((dig b32 d).length : Int) == 1) = false := by simp; omega
 have hbm := bl_dig_le m
 have hbd := bl_dig_le d
 have hmb : (bl m : Int) ≤ 4398046511104 := by omega
 have hdb : (bl d : Int) ≤ 4398046511104 := by omega
 have hblt := bl_lt_of (m := m) (d := d)
 have hstart := QuIn.start m d hd
 have hlen1 : ∀ n, bl d + n = bl m → (dig b32 (d * 2 ^ n)).length ≤ 274877906944 := by
  intro n hn
  have h1 := dig_length_mul b32_two d (2 ^ n)
  have h2 := dig_length_le b32_two (n / 32 + 1) (2 ^ n) (by rw [b32_pow32]; exact Nat.pow_lt_pow_right (by omega) (by omega))
  omega
 have HL := Lib.hid hlen1
 have HS := Lib.hid hstart
 have HB := Lib.hid hblt
 have Hld := Lib.hid hsz2
 have Hlm := Lib.hid hsz
 clear ha hb hd hd1 hB hbm hbd hblt hstart hlen1
 obtain ⟨i0, hi, hz0, hz1, hz2⟩ := info_parts info_u32
 go_enter Tryz.func84, Tryz.ntmps84
 go_wp2_with fail
 refine (bits_any m va w Ha.out (by omega)).mono ?_
 rintro e w' ⟨rfl, rfl⟩
 go_wp2_with fail
 refine (bits_any d _ w' Hb.out (by omega)).mono ?_
 rintro e w ⟨rfl, rfl⟩
 have Hm0 : Hid (¬ bl m < bl d → m ≠ 0) := by
  intro h e
  subst e
  have := (bl_spec d Hd.out).1
  rw [bl_zero] at h
  omega
 by_cases hlt : bl m < bl d
 ·
  have t2 : decide ((bl m : Int) - bl d < 0) = true := by simp; omega
  go_wp2_with fail
  go_ret2
  have := HB.out hlt
  rw [Nat.div_eq_of_lt this, Nat.mod_eq_of_lt this]
  have hbel := (Below.refl w.heap.size w).alloc (Nat.le_refl _) (.cells #[] 144)
  exact ⟨_, _, rfl, .inl ⟨rfl, _, _, rfl, by unfold maxLen; omega, fun _ => rfl⟩, Ha.out.below hbel, hbel⟩
 ·
  obtain ⟨n, hn⟩ : ∃ n, bl d + n = bl m := ⟨bl m - bl d, by omega⟩
  have t2 : decide ((bl m : Int) - bl d < 0) = false := by simp; omega
  have e2 : (bl m : Int) - bl d = (n : Int) := by omega
  have hnb : n ≤ 4398046511104 := by omega
  have HL2 := Lib.hid (HL.out n hn)
  have HS2 := Lib.hid (HS.out n hn)
  replace Hm0 := Lib.hid (Hm0.out hlt)
  clear HL HS HB
  rw [e2] at t2
  clear hlt hn hmb hdb
  go_wp2_with (at_make; refine wpList_make_full _ rfl _ _ 68 rfl w.heap.size 144 i0 (.int .u32 0) 1 Tryz.underlying68 hi hz0 hz1 _ _ _ _ (n / 32 + 1) rfl rfl (by omega) (by omega) (by rw [hz2]; omega) (by unfold maxLen; omega) (by omega) ?_)
  intro w1 hown hgrow
  have ho := Own.of_made hown
  have hbel := (Below.refl w.heap.size w).grown hgrow (Nat.le_refl _) (by simp)
  clear hown hgrow hi hz0 hz1 hz2
  have hgl := ho.lt
  go_wp2_with fail
  refine (shifted_own d n _ _ (IsNat.below Hb.out hbel) Hd.out (by have := Hld.out; omega) hnb).mono ?_
  rintro e w2 ⟨vb2, rfl, hvb2, hb2, hob⟩
  go_wp2_with fail
  go_loopw [0, 10, 11] (fun av bv iv wr => ∃ (j : Nat) (o : List Nat) (a : Nat), j ≤ n + 1 ∧ iv = .int .i64 ((j : Int) - 1) ∧ IsNat .u32 b32 wr av a ∧ av.ownBlock ≠ some w.heap.size ∧
    IsNat .u32 b32 wr bv (d * 2 ^ j / 2) ∧ bv.ownBlock ≠ some w.heap.size ∧ Own wr w.heap.size .u32 144 o ∧ Hid (QuIn m d n j o a) ∧ Below w.heap.size w wr)
   (fun _ _ iv _ => ((intOf iv) + 1).toNat)
  case atStart =>
   refine ⟨n + 1, _, m, Nat.le_refl _, by go_num, (Ha.out.below hbel).below hb2, ?_, ?_, ?_, ho.below hb2 hgl, HS2.out, hbel.trans (hb2.mono hbel.size)⟩
   ·
    intro h
    have := IsNat.own_lt b32_two Ha.out Hm0.out h
    omega
   ·
    rw [show d * 2 ^ (n + 1) / 2 = d * 2 ^ n by rw [Nat.pow_succ, ← Nat.mul_assoc, Nat.mul_div_cancel _ (by omega)]]
    exact hvb2
   ·
    intro h
    have := hob _ h
    omega
  case round =>
   clear ho hbel hob hvb2 hb2 hgl
   obtain ⟨j, o, a, hj, rfl, hav, hao, hbv, hbo, ho, hQ, hbel⟩ := hrel
   rcases Nat.eq_zero_or_pos j with rfl | hjp
   ·
    have hdn := Lib.hid hQ.out.done
    have hdo := Lib.hid hQ.out.dgs
    have hlen := hQ.out.len
    have hrow := ho.isRow (by unfold maxLen; rw [hlen]; omega)
    rw [hlen] at hrow
    clear hlen
    go_wp2_with fail
    refine (qcut_any o _ _ hrow hdo.out).mono ?_
    rintro e w' ⟨v, rfl, hv, rfl⟩
    go_wp2_with fail
    go_ret2
    rw [hdn.out.1] at hv
    rw [hdn.out.2] at hav
    exact ⟨_, _, rfl, hv, hav, hbel⟩
   ·
    obtain ⟨i, rfl⟩ : ∃ i, j = i + 1 := ⟨j - 1, by omega⟩
    have e1 : ((i + 1 : Nat) : Int) - 1 = (i : Int) := by omega
    rw [e1]
    have e2 : d * 2 ^ (i + 1) / 2 = d * 2 ^ i := by rw [Nat.pow_succ, ← Nat.mul_assoc, Nat.mul_div_cancel _ (by omega)]
    rw [e2] at hbv
    clear e1 e2
    have hin : (i : Int) ≤ n := by omega
    have hmi := Lib.hid (show d * 2 ^ i ≤ d * 2 ^ n from Nat.mul_le_mul_left _ (Nat.pow_le_pow_right (by omega) (by omega)))
    have hav1 := Lib.hid hav
    have hbv1 := Lib.hid hbv
    go_wp2_with fail
    refine (order_any a (d * 2 ^ i) _ _ wr hav1.out hbv1.out).mono ?_
    rintro e w' ⟨rfl, nq, rfl⟩
    have ho' : Own (wr.drewN nq) w.heap.size .u32 144 o := ho.drewN nq
    have hbel' : Below w.heap.size w (wr.drewN nq) := below_dn hbel nq
    clear ho hbel
    by_cases hge : d * 2 ^ i ≤ a
    ·
     have hc := cmpN_ge hge
     have hroom := hQ.out.room
     have htake := Lib.hid (hQ.out.take (show i ≤ n by omega) hge)
     have hma : a ≤ m := by have := hQ.out.val; omega
     have hal := Lib.hid (dig_length_mono b32_two hma)
     have hik : i / 32 < n / 32 + 1 := by have := Nat.div_le_div_right (c := 32) (show i ≤ n by omega); omega
     have hoi := hik
     rw [← hQ.out.len] at hoi
     have hik' : (i : Int) / 32 < (n : Int) / 32 + 1 := by omega
     generalize cmpN a (d * 2 ^ i) = c at *
     have Hge := Lib.hid hge
     obtain ⟨P, hP⟩ : ∃ P, P = 2 ^ (i % 32) := ⟨_, rfl⟩
     obtain ⟨x, hx⟩ : ∃ x, x = o.getD (i / 32) 0 := ⟨_, rfl⟩
     rw [← hP, ← hx] at hroom
     have hPb : (P : Int) ≤ 4294967295 := by unfold b32 at hroom; omega
     obtain ⟨Y, hY⟩ : ∃ Y, Y = x + P := ⟨_, rfl⟩
     have eP : ((x : Int) + 2 ^ (i % 32)) % 4294967296 = (Y : Int) := by
      have e : (2 : Int) ^ (i % 32) = (P : Int) := by rw [hP]; simp
      rw [e, hY]
      unfold b32 at hroom
      omega
     have HY := Lib.hid hY
     have HP := Lib.hid hP
     have Hx := Lib.hid hx
     clear hroom hge hma hP hx hY
     go_wp2_with fail
     refine (difference_own a (d * 2 ^ i) _ _ (wr.drewN nq) hav1.out hbv1.out Hge.out (by have := hal.out; have := Hlm.out; omega)).mono ?_
     rintro e w3 ⟨va3, rfl, hva3, hb3, hob3⟩
     have ho3 := ho'.below hb3 ho'.lt
     have hgl := ho'.lt
     have hco := ho3.cell (i / 32) hoi
     rw [← Hx.out] at hco
     have hfo := ho3.frozen (i / 32)
     have hbv3 := Lib.hid (IsNat.below (w := wr.drewN nq) hbv1.out hb3)
     have hbel3 := hbel'.trans (hb3.mono hbel'.size)
     go_wp2_with fail
     refine (halved_own (d * 2 ^ i) _ _ (IsRow.other hbv3.out ⟨w.heap.size, i / 32, none⟩ hbo _) (by have := dig_length_mono b32_two hmi.out; have := HL2.out; omega)).mono ?_
     rintro e w4 ⟨vb4, rfl, hvb4, hb4, hob4⟩
     have hst := ho3.store (i / 32) Y
     have ho4 := hst.below hb4 hst.lt
     have hbel4 := (hbel3.setCell (p := ⟨w.heap.size, i / 32, none⟩) (Nat.le_refl _) (.int .u32 Y)).trans (hb4.mono (by have := hbel3.size; simpa [World.setCell] using this))
     go_wp2_with fail
     refine ⟨⟨i, _, _, by omega, by go_num, IsNat.below (IsRow.other hva3 ⟨w.heap.size, i / 32, none⟩ ?_ _) hb4, ?_, hvb4, ?_, ho4, ?_, hbel4⟩, by simp [intOf]⟩
     ·
      intro h
      have := hob3 _ (show _ = some w.heap.size from h)
      omega
     ·
      intro h
      have := hob3 _ (show _ = some w.heap.size from h)
      omega
     ·
      intro h
      have := hob4 _ (show _ = some w.heap.size from h)
      have := hst.lt
      omega
     ·
      exact htake.out _ (by rw [HY.out, Hx.out, HP.out])
    ·
     have hc := cmpN_nge hge
     have hskip := Lib.hid (hQ.out.skip (Nat.lt_of_not_le hge))
     generalize cmpN a (d * 2 ^ i) = c at *
     clear hge
     go_wp2_with fail
     refine (halved_own (d * 2 ^ i) _ (wr.drewN nq) hbv1.out (by have := dig_length_mono b32_two hmi.out; have := HL2.out; omega)).mono ?_
     rintro e w3 ⟨vb3, rfl, hvb3, hb3, hob3⟩
     have hgl := ho'.lt
     go_wp2_with fail
     refine ⟨⟨i, o, a, by omega, by go_num, IsNat.below (w := wr.drewN nq) hav1.out hb3, hao, hvb3, ?_, ho'.below hb3 hgl, hskip.out, hbel'.trans (hb3.mono hbel'.size)⟩, by simp [intOf]⟩
     intro h
     have := hob3 _ h
     omega

theorem quotient_any (m d : Nat) (va vb : Value) (w : World) (ha : IsNat .u32 b32 w va m) (hb : IsNat .u32 b32 w vb d) (hd : d ≠ 0) (hsz : (dig b32 m).length ≤ 68719476736) (hsz2 : (dig b32 d).length ≤ 68719476736) :
  Calls Tryz.prog 84 #[va, vb] w (RetTwo32 (m / d) (m % d) w) := by
 by_cases h1 : d < b32
 ·
  exact quotient_one m d va vb w ha hb hd h1 hsz
 ·
  refine quotient_more m d va vb w ha hb hd (fun h => h1 ?_) hsz hsz2
  have := lt_pow_dig_length b32_two d
  rw [h, Nat.pow_one] at this
  exact this

end Go.Proofs.YtofijjomfhmbjaaGreat

namespace Go.Proofs.YtofijjomfhmbjaaGreat
open Go.RowKit

def sg (neg : Bool) (n : Nat) : Int := if neg then -(n : Int) else n
def mkQ (neg : Bool) (n d : Nat) : Rat := mkRat (sg neg n) d

theorem sg_natAbs (neg : Bool) (n : Nat) : (sg neg n).natAbs = n := by unfold sg; split <;> simp
theorem sg_zero (neg : Bool) : sg neg 0 = 0 := by unfold sg; split <;> simp
theorem sg_lt (neg : Bool) (n : Nat) (h : n ≠ 0) : decide (sg neg n < 0) = neg := by cases neg <;> simp [sg] <;> omega

theorem mkQ_num (neg : Bool) (n d : Nat) (hd : 0 < d) : (mkQ neg n d).num.natAbs = n / Nat.gcd n d := by
 unfold mkQ
 rw [Rat.num_mkRat, if_neg (by omega), sg_natAbs, Nat.gcd_comm]
 rw [Int.natAbs_ediv_of_dvd, sg_natAbs, Int.natAbs_natCast]
 refine Int.natAbs_dvd_natAbs.1 ?_
 rw [sg_natAbs, Int.natAbs_natCast]
 exact Nat.gcd_dvd_left n d

theorem mkQ_den (neg : Bool) (n d : Nat) (hd : 0 < d) : (mkQ neg n d).den = d / Nat.gcd n d := by
 unfold mkQ
 rw [Rat.den_mkRat, if_neg (by omega), sg_natAbs, Nat.gcd_comm]

theorem mkQ_zero (neg : Bool) (d : Nat) : mkQ neg 0 d = 0 := by unfold mkQ; rw [sg_zero]; simp

theorem mkQ_neg (neg : Bool) (n d : Nat) (hd : 0 < d) (hn : n ≠ 0) : decide ((mkQ neg n d).num < 0) = neg := by
 have hg : 0 < Nat.gcd n d := Nat.gcd_pos_of_pos_right n hd
 have e : (mkQ neg n d).num = sg neg n / (Nat.gcd n d : Nat) := by
  unfold mkQ
  rw [Rat.num_mkRat, if_neg (by omega), sg_natAbs, Nat.gcd_comm]
 have h2 : decide ((mkQ neg n d).num < 0) = decide (sg neg n < 0) := by
  rw [e, decide_eq_decide]
  generalize sg neg n = z
  constructor
  ·
   intro h
   rcases Int.lt_or_le z 0 with h1 | h1
   ·
    exact h1
   ·
    have := Int.ediv_nonneg h1 (show (0 : Int) ≤ (Nat.gcd n d : Nat) by omega); omega
  ·
   intro h
   exact Int.ediv_neg_of_neg_of_pos h (by omega)
 rw [h2, sg_lt neg n hn]

def dn (d : Nat) : Nat := if d = 1 then 0 else d

def IsRat (w : World) (v : Value) (q : Rat) : Prop :=
 ∃ vn vd, v = .agg #[.bool (decide (q.num < 0)), vn, vd] ∧ IsNat .u64 b64 w vn q.num.natAbs ∧ IsNat .u64 b64 w vd (dn q.den)

theorem IsRat.below {w w' : World} {v : Value} {q : Rat} (h : IsRat w v q) (hb : Below w.heap.size w w') : IsRat w' v q := by
 obtain ⟨vn, vd, rfl, h1, h2⟩ := h
 exact ⟨vn, vd, rfl, h1.below hb, h2.below hb⟩

def RetRat (q : Rat) (w : World) (e : Ending) (w' : World) : Prop := ∃ v, e = .returned v ∧ IsRat w' v q ∧ Below w.heap.size w w'

theorem IsRat.zero (w : World) : IsRat w (.agg #[.bool false, .slice none 0 0, .slice none 0 0]) 0 :=
 ⟨_, _, rfl, IsNat.zero _ _ _, IsNat.zero _ _ _⟩

def szR (q : Rat) (k : Nat) : Prop := (dig b64 q.num.natAbs).length ≤ k ∧ (dig b64 q.den).length ≤ k

theorem rat_eq (q : Rat) : q = mkQ (decide (q.num < 0)) q.num.natAbs q.den := by
 unfold mkQ
 have : sg (decide (q.num < 0)) q.num.natAbs = q.num := by
  unfold sg
  by_cases h : q.num < 0 <;> simp [h] <;> omega
 rw [this]
 exact (Rat.mkRat_self q).symm

theorem blk_cell {w : World} {B T : Nat} {cs : Array Value} (h : w.heap[B]? = some (.cells cs T (0, 0))) (j : Nat) (v : Value) (hv : cs[j]? = some v) : w.cell? ⟨B, j, none⟩ = some v := by
 rw [cell_of_row w B j cs T (0, 0) h]; exact hv
theorem blk_frozen {w : World} {B T : Nat} {cs : Array Value} (h : w.heap[B]? = some (.cells cs T (0, 0))) (j : Nat) : w.frozen? ⟨B, j, none⟩ = false := frozen_of_row w B j cs T h
theorem blk_new (w : World) (cs : Array Value) (T : Nat) : (w.alloc (.cells cs T)).heap[w.heap.size]? = some (.cells cs T (0, 0)) := heap_alloc_new w _
theorem blk_keep {w w' : World} {B T n : Nat} {cs : Array Value} (h : w.heap[B]? = some (.cells cs T (0, 0))) (hb : Below n w w') (hB : B < n) : w'.heap[B]? = some (.cells cs T (0, 0)) := by
 rw [hb.block B hB]; exact h
theorem blk_lt {w : World} {B : Nat} {o : Obj} (h : w.heap[B]? = some o) : B < w.heap.size := (Array.getElem?_eq_some_iff.1 h).1
theorem blk_set {w : World} {B T : Nat} {cs : Array Value} (h : w.heap[B]? = some (.cells cs T (0, 0))) (j : Nat) (v : Value) : (w.setCell ⟨B, j, none⟩ v).heap[B]? = some (.cells (cs.setIfInBounds j v) T (0, 0)) :=
 heap_setCell_same w B j cs T v h


def noInt (cs : Array Value) : Prop := ∀ (i : Nat) (k : IntKind) (x : Int), cs[i]? ≠ some (Value.int k x)
theorem IsRow.set_other {k : IntKind} {w : World} {v : Value} {ds : List Nat} {B T : Nat} {cs : Array Value} (h : IsRow k w v ds) (hB : w.heap[B]? = some (.cells cs T (0, 0))) (hn : noInt cs) (j : Nat) (u : Value) :
  IsRow k (w.setCell ⟨B, j, none⟩ u) v ds := by
 rcases h with h | ⟨h0, b, off, cap, rfl, h1, h2, h3, h4⟩
 ·
  exact .inl h
 ·
  have hne : b ≠ B := by
   rintro rfl
   have := h4 0 h0
   rw [cell_of_row w b (off + 0) cs T (0, 0) hB] at this
   exact hn _ _ _ this
  refine .inr ⟨h0, b, off, cap, rfl, h1, h2, by simpa [World.setCell] using h3, fun i hi => ?_⟩
  rw [← h4 i hi]
  exact World.cell?_of_block (w := w) (heap_setCell_other w ⟨B, j, none⟩ b u hne)
theorem noInt3 (b : Bool) (x y : Option Addr) (i j k l : Nat) : noInt #[.bool b, .slice x i j, .slice y k l] := by
 intro n k x
 match n with
 | 0 => simp
 | 1 => simp
 | 2 => simp
 | n + 3 => simp

theorem store3 {w : World} {B T : Nat} {b0 neg : Bool} {x0 y0 x1 y1 : Option Addr} {i0 j0 k0 l0 i1 j1 k1 l1 : Nat} {k : IntKind} {v : Value} {ds : List Nat}
  (hB : w.heap[B]? = some (.cells #[.bool b0, .slice x0 i0 j0, .slice y0 k0 l0] T (0, 0))) (h : IsRow k w v ds) :
  IsRow k (((w.setCell ⟨B, 0, none⟩ (.bool neg)).setCell ⟨B, 1, none⟩ (.slice x1 i1 j1)).setCell ⟨B, 2, none⟩ (.slice y1 k1 l1)) v ds := by
 have h1 := h.set_other hB (noInt3 b0 x0 y0 i0 j0 k0 l0) 0 (.bool neg)
 have hB1 := blk_set hB 0 (.bool neg)
 have h2 := h1.set_other hB1 (by exact noInt3 neg x0 y0 i0 j0 k0 l0) 1 (.slice x1 i1 j1)
 have hB2 := blk_set hB1 1 (.slice x1 i1 j1)
 exact h2.set_other hB2 (by exact noInt3 neg x1 y0 i1 j1 k0 l0) 2 (.slice y1 k1 l1)
theorem below_store3 {n : Nat} {w0 w : World} {B : Nat} {u0 u1 u2 : Value} (h : Below n w0 w) (hB : n ≤ B) :
  Below n w0 (((w.setCell ⟨B, 0, none⟩ u0).setCell ⟨B, 1, none⟩ u1).setCell ⟨B, 2, none⟩ u2) :=
 ((h.setCell (p := ⟨B, 0, none⟩) hB u0).setCell (p := ⟨B, 1, none⟩) hB u1).setCell (p := ⟨B, 2, none⟩) hB u2


theorem IsRat.opened {w : World} {v : Value} {q : Rat} (h : IsRat w v q) : ∃ a1 c1 a2 c2, v = .agg #[.bool (decide (q.num < 0)), .slice a1 (dig b64 q.num.natAbs).length c1, .slice a2 (dig b64 (dn q.den)).length c2] ∧
  IsNat .u64 b64 w (.slice a1 (dig b64 q.num.natAbs).length c1) q.num.natAbs ∧ IsNat .u64 b64 w (.slice a2 (dig b64 (dn q.den)).length c2) (dn q.den) := by
 obtain ⟨vn, vd, rfl, h1, h2⟩ := h
 have h1' := h1
 have h2' := h2
 obtain ⟨a1, c1, rfl, _⟩ := IsRow.opened h1
 obtain ⟨a2, c2, rfl, _⟩ := IsRow.opened h2
 exact ⟨a1, c1, a2, c2, rfl, h1', h2'⟩

def cmpR (x y : Rat) : Int := if x < y then -1 else if y < x then 1 else 0

def RetInt (n : Int) (w : World) (e : Ending) (w' : World) : Prop := e = .returned (.int .i64 n) ∧ Below w.heap.size w w'
def RetBool (b : Bool) (w : World) (e : Ending) (w' : World) : Prop := e = .returned (.bool b) ∧ Below w.heap.size w w'


end Go.Proofs.YtofijjomfhmbjaaGreat
