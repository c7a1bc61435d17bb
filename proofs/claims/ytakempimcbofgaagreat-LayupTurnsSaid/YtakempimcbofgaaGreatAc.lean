/- Part c of the lemmas and walks. -/
import Derived.Test.YtakempimcbofgaaGreatAb

namespace Go.Proofs.YtakempimcbofgaaGreat
open Go.ChangeShapes Go.WideShapes Go.ChangeAt Go.RowKit

inductive Leaf where
 | int (k : IntKind) | float (k : FloatKind) | bool | string
def leafOk : Leaf → Value → Prop
 | .int k, v => ∃ n, v = .int k n ∧ (Lit.int k n).wf = true
 | .float k, v => ∃ n, v = .float k n ∧ (Lit.float k n).wf = true
 | .bool, v => ∃ b, v = .bool b
 | .string, v => ∃ s : ByteArray, v = .string s ∧ s.size ≤ maxLen
def allLeaf : List Leaf → List Value → Prop
 | [], [] => True
 | l :: ls, v :: vs => leafOk l v ∧ allLeaf ls vs
 | _, _ => False
theorem allLeaf_append : ∀ {ls : List Leaf} {vs : List Value} {ls' : List Leaf} {vs' : List Value}, allLeaf ls vs → allLeaf ls' vs' → allLeaf (ls ++ ls') (vs ++ vs')
 | [], [], _, _, _, h => h
 | _ :: _, _ :: _, _, _, ⟨h1, h2⟩, h => ⟨h1, allLeaf_append h2 h⟩
theorem allLeaf_length : ∀ {ls : List Leaf} {vs : List Value}, allLeaf ls vs → vs.length = ls.length
 | [], [], _ => rfl
 | _ :: _, _ :: _, ⟨_, h⟩ => by simp [allLeaf_length h]

section
variable (P : Program)
def flatFs (fl : TypeId → Option (List Leaf)) : List Field → Nat → Option (List Leaf)
 | [], _ => some []
 | f :: fs, o => if f.offset = o then (fl f.type).bind fun l => if P.cellsOf f.type = l.length then (flatFs fl fs (o + l.length)).map (l ++ ·) else none else none
def flatN (l : List Leaf) : Nat → List Leaf
 | 0 => []
 | n + 1 => flatN l n ++ l
def flat : Nat → TypeId → Option (List Leaf)
 | 0, _ => none
 | n + 1, t => match P.underlying t with
  | some .bool => some [.bool]
  | some (.int k) => some [.int k]
  | some (.float k) => some [.float k]
  | some .string => some [.string]
  | some (.struct fs) => (flatFs P (flat n) fs.toList 0).bind fun l => if P.cellsOf t = l.length then some l else none
  | some (.array m e) => (flat n e).bind fun l => if P.cellsOf e = l.length ∧ P.cellsOf t = m * l.length then some (flatN l m) else none
  | _ => none
end
section
variable {H : Type} {enc : TypeId × Value → H} {P : Program} {w : World}
theorem flatFs_law (fl : TypeId → Option (List Leaf)) (n : Nat) (cs : List Value) (ih : ∀ t l cs y, fl t = some l → DataW.trod enc P w 0 (fun _ => true) true n t cs = some y → allLeaf l cs) :
  ∀ (fs : List Field) (o : Nat) (ls : List Leaf), flatFs P fl fs o = some ls → (∀ f ∈ fs, ∃ y, DataW.trod enc P w 0 (fun _ => true) true n f.type ((cs.drop f.offset).take (P.cellsOf f.type)) = some y) →
   allLeaf ls ((cs.drop o).take ls.length)
 | [], o, ls, h, _ => by
  simp [flatFs] at h
  subst h
  simp [allLeaf]
 | f :: fs, o, ls, h, hf => by
  unfold flatFs at h
  split at h
  ·
   rename_i ho
   subst ho
   rw [Option.bind_eq_some_iff] at h
   obtain ⟨l, h1, h2⟩ := h
   split at h2
   ·
    rename_i hc
    rw [Option.map_eq_some_iff] at h2
    obtain ⟨l2, h3, rfl⟩ := h2
    obtain ⟨y, hy⟩ := hf f (by simp)
    have a1 := ih _ _ _ _ h1 hy
    rw [hc] at a1
    have a2 := flatFs_law fl n cs ih fs _ _ h3 (fun g hg => hf g (by simp [hg]))
    rw [List.length_append, List.take_add, List.drop_drop]
    exact allLeaf_append a1 a2
   ·
    cases h2
  ·
   cases h
theorem trod_array {t e : TypeId} {fuel m : Nat} {cs : List Value} {x : DataW H × List MemPlace} (ht : P.underlying t = some (.array m e)) (h : DataW.trod enc P w 0 (fun _ => true) true fuel t cs = some x) :
  ∃ n, fuel = n + 1 ∧ cs.length = P.cellsOf t ∧ ∀ i, i < m → ∃ y, DataW.trod enc P w 0 (fun _ => true) true n e ((cs.drop (i * P.cellsOf e)).take (P.cellsOf e)) = some y := by
 cases fuel with
 | zero => simp [DataW.trod] at h
 | succ n =>
  unfold DataW.trod at h
  rw [ht] at h
  split at h <;> simp_all
  obtain ⟨hl, xs, hp, hd⟩ := h
  intro i hi
  have hlen := mapM_some_length hp
  have := mapM_some_get hp i i (by simp [hi])
  rw [this]
  simp at hlen
  exact ⟨xs[i].1, xs[i].2, by simp [hlen, hi]⟩
theorem flat_law : ∀ (k : Nat) (t : TypeId) (ls : List Leaf) (n : Nat) (cs : List Value) (y : DataW H × List MemPlace), flat P k t = some ls → DataW.trod enc P w 0 (fun _ => true) true n t cs = some y → allLeaf ls cs := by
 intro k
 induction k with
 | zero => intro t ls n cs y h; simp [flat] at h
 | succ k ih =>
  intro t ls n cs y h ht
  unfold flat at h
  split at h
  ·
   rename_i hu
   obtain ⟨b, rfl, _⟩ := DataW.trod_bool hu ht
   obtain rfl : [Leaf.bool] = ls := by simpa using h
   exact ⟨⟨b, rfl⟩, trivial⟩
  ·
   rename_i kk hu
   obtain ⟨b, rfl, _, hw⟩ := DataW.trod_int hu ht
   obtain rfl : [Leaf.int kk] = ls := by simpa using h
   exact ⟨⟨b, rfl, hw⟩, trivial⟩
  ·
   rename_i kk hu
   obtain ⟨b, rfl, _, hw⟩ := trod_float hu ht
   obtain rfl : [Leaf.float kk] = ls := by simpa using h
   exact ⟨⟨b, rfl, hw⟩, trivial⟩
  ·
   rename_i hu
   obtain ⟨s, rfl, _, hw⟩ := DataW.trod_string hu ht
   obtain rfl : [Leaf.string] = ls := by simpa using h
   exact ⟨⟨s, rfl, hw⟩, trivial⟩
  ·
   rename_i fs hu
   rw [Option.bind_eq_some_iff] at h
   obtain ⟨l, h1, h2⟩ := h
   split at h2
   ·
    rename_i hc
    obtain rfl : l = ls := by simpa using h2
    obtain ⟨xs, m, _, _, hcl, hxl, hf⟩ := DataW.trod_struct hu ht
    have := flatFs_law (enc := enc) (w := w) (flat P k) m cs (fun t l cs y a b => ih t l m cs y a b) fs.toList 0 l h1 (fun f hf' => by
     obtain ⟨i, hi, rfl⟩ := List.getElem_of_mem hf'
     simp at hi
     have e := hf i fs[i] (by simp [hi])
     exact ⟨xs[i], by simp at e ⊢; rw [e]; simp [hxl, hi]⟩)
    rw [List.drop_zero, List.take_of_length_le (by rw [hcl, hc]; exact Nat.le_refl _)] at this
    exact this
   ·
    cases h2
  ·
   rename_i m e hu
   rw [Option.bind_eq_some_iff] at h
   obtain ⟨l, h1, h2⟩ := h
   split at h2
   ·
    rename_i hc
    obtain ⟨hc1, hc2⟩ := hc
    obtain rfl : flatN l m = ls := by simpa using h2
    obtain ⟨n', _, hcl, hE⟩ := trod_array hu ht
    have key : ∀ j, j ≤ m → allLeaf (flatN l j) (cs.take (j * l.length)) := by
     intro j hj
     induction j with
     | zero => simp [flatN, allLeaf]
     | succ j ihj =>
      obtain ⟨y, hy⟩ := hE j (by omega)
      have a1 := ih _ _ _ _ _ h1 hy
      rw [hc1] at a1
      rw [Nat.succ_mul, List.take_add]
      exact allLeaf_append (ihj (by omega)) a1
    have := key m (Nat.le_refl _)
    rw [List.take_of_length_le (by rw [hcl, hc2]; exact Nat.le_refl _)] at this
    exact this
   ·
    cases h2
  ·
   cases h

theorem open_flat {t : TypeId} {ls : List Leaf} {v : Value} {d : DataW H} {p : List MemPlace} (hfl : flat P 8 t = some ls) (h : DataW.Trod enc P w 0 (fun _ => true) true t v d p) : allLeaf ls v.cells.toList := by
 obtain ⟨fuel, hf⟩ := h
 exact flat_law 8 t ls fuel _ _ hfl hf
end

end Go.Proofs.YtakempimcbofgaaGreat

namespace Go.Proofs.YtakempimcbofgaaGreat
open Go.RowKit

theorem wpList_make_room {P : Program} (w : World) {ops : Array Oper} {rest : List Oper} {o : Oper} {a : Act} {Q : Exit → Act → World → Prop}
  (hg : o.guard = none) (l c : Operand) (t : TypeId) (hop : o.op = Op.makeSlice t l c)
  (base : Nat) (e : TypeId) (i : TypeInfo) (z : Value) (size : Nat) (h1 : P.underlying t = some (.slice e)) (h2 : P.info? e = some i) (h3 : i.zero = some z) (h4 : i.size = size)
  (kl kc : IntKind) (L C : Int) (n m : Nat) (hl : a.eval l = .int kl L) (hc : a.eval c = .int kc C) (hL : L = (n : Int)) (hC : C = (m : Int)) (hnm : n ≤ m) (b2 : i.bytes * m ≤ 281474976710656) (b3 : m ≤ maxLen) (_b4 : base ≤ w.heap.size)
  (hK : ∀ w', w'.heap[w.heap.size]? = some (.cells (madeCells z.cells (m * size)) e (0, 0)) → w.grownBy w' none → wpList P ops Q rest (a.put o.dst (.slice (some ⟨w.heap.size, 0, none⟩) n m)) w') :
  wpList P ops Q (o :: rest) a w := by
 subst h4
 subst hL
 subst hC
 refine wpList_plain hg fun K hK' => ?_
 have b3' : (m : Int) ≤ 9223372036854775807 := by
  have h := b3
  simp [maxLen] at h
  omega
 have hb' : (i.bytes : Int) * (m : Int) ≤ 281474976710656 := by
  have h : ((i.bytes * m : Nat) : Int) ≤ 281474976710656 := by omega
  rwa [Int.natCast_mul] at h
 have hr := run_make (P := P) w t e i z h1 h2 h3 kl kc n m (by omega) (by omega) hb' b3'
 simp only [Int.toNat_natCast] at hr
 unfold Oper.wp
 simp [execOp, hop, hl, hc, hr, Result.andThen]
 exact hK' _ _ (hK _ (heap_alloc_new w _) (World.grownBy_alloc w _ none))

structure PlIn (a b : List Nat) (n i : Nat) (o : List Nat) (c : Nat) : Prop where
 len : o.length = n
 dgs : Dgs b64 o
 car : c ≤ 1
 val : lv b64 o + b64 ^ i * c = lv b64 (a.take i) + lv b64 (b.take i)
 top : ∀ j, i ≤ j → o.getD j 0 = 0
theorem take_step64 (a : List Nat) (i : Nat) : lv b64 (a.take (i + 1)) = lv b64 (a.take i) + b64 ^ i * a.getD i 0 := by
 by_cases h : i < a.length
 ·
  exact lv_take_succ b64 a i h
 ·
  rw [List.take_of_length_le (by omega), List.take_of_length_le (by omega)]
  simp [List.getElem?_eq_none (Nat.le_of_not_lt h)]
theorem PlIn.start (a b : List Nat) (n : Nat) : PlIn a b n 0 (List.replicate n 0) 0 :=
 ⟨by simp, Dgs.replicate b64_pos _, by omega, by simp [lv_replicate, lv], fun j _ => by simp [List.getElem?_replicate]; split <;> rfl⟩
theorem PlIn.step {a b : List Nat} {n i : Nat} {o : List Nat} {c : Nat} (h : PlIn a b n i o c) (ha : Dgs b64 a) (hb : Dgs b64 b) (hi : i < n) (x y : Nat) (hx : x = a.getD i 0) (hy : y = b.getD i 0) :
  PlIn a b n (i + 1) (o.set i (addLo x y c)) (addHi x y c) := by
 have hxl := ha.getD b64_pos i
 have hyl := hb.getD b64_pos i
 rw [← hx] at hxl
 rw [← hy] at hyl
 refine ⟨by simpa using h.len, h.dgs.set _ _ (addLo_lt _ _ _), addHi_le _ _ _ hxl hyl h.car, ?_, fun j hj => ?_⟩
 ·
  have h1 := lv_set b64 o i (addLo x y c) (by rw [h.len]; exact hi)
  rw [h.top i (Nat.le_refl _)] at h1
  have h2 := h.val
  rw [take_step64, take_step64, Nat.pow_succ, ← hx, ← hy]
  have e4 := add_eq x y c
  have e5 : b64 ^ i * (addLo x y c + b64 * addHi x y c) = b64 ^ i * (x + y + c) := by rw [e4]
  rw [Nat.mul_assoc]
  simp only [Nat.mul_add] at e5
  omega
 ·
  have := h.top j (by omega)
  rw [List.getD_eq_getElem?_getD] at *
  rw [List.getElem?_set_ne (by omega)]
  exact this
theorem PlIn.done {a b : List Nat} {o : List Nat} {c : Nat} (h : PlIn a b a.length a.length o c) (hl : b.length ≤ a.length) : lv b64 o + b64 ^ a.length * c = lv b64 a + lv b64 b := by
 have hv := h.val
 rw [List.take_of_length_le (Nat.le_refl _), List.take_of_length_le hl] at hv
 exact hv
theorem plus_dig {a b o : List Nat} {c : Nat} (h : PlIn a b a.length a.length o c) (hl : b.length ≤ a.length) (hla : ∀ h : a ≠ [], a.getLast h ≠ 0) :
  (c = 0 → dig b64 (lv b64 a + lv b64 b) = o) ∧ (0 < c → dig b64 (lv b64 a + lv b64 b) = o ++ [c]) := by
 have hd := h.done hl
 constructor
 ·
  intro h0
  subst h0
  rw [← hd, Nat.mul_zero, Nat.add_zero]
  refine dig_of b64_two o h.dgs fun hne => ?_
  -- the greatest digit of o is not 0: o is at least a
  have hpos : 0 < a.length := by
   rcases Nat.eq_zero_or_pos a.length with h1 | h1
   ·
    exact absurd (List.eq_nil_of_length_eq_zero (h.len.trans h1)) hne
   ·
    exact h1
  have hane : a ≠ [] := fun e => by rw [e] at hpos; simp at hpos
  intro hz
  have h2 : lv b64 o < b64 ^ (a.length - 1) := by
   have e1 : o = o.take (o.length - 1) ++ [0] := by
    conv => lhs; rw [← List.dropLast_concat_getLast hne, hz, List.dropLast_eq_take]
   have e2 : Dgs b64 (o.take (o.length - 1)) := h.dgs.take _
   rw [e1, dig_lv_snoc_zero]
   have := lv_lt e2
   rw [List.length_take, Nat.min_eq_left (by omega)] at this
   rw [h.len] at this ⊢
   exact this
  have h3 : b64 ^ (a.length - 1) ≤ lv b64 a := by
   have e1 : a = a.dropLast ++ [a.getLast hane] := (List.dropLast_concat_getLast hane).symm
   have h4 := hla hane
   generalize a.getLast hane = q at *
   rw [e1, lv_append]
   have : a.dropLast.length = a.length - 1 := by simp
   rw [this]
   have e3 : lv b64 [q] = q := by simp [lv]
   rw [e3]
   have := Nat.le_mul_of_pos_right (b64 ^ (a.length - 1)) (show 0 < q by omega)
   simp only [List.length_append, List.length_dropLast, List.length_cons, List.length_nil]
   have e4 : a.length - 1 + (0 + 1) - 1 = a.length - 1 := by omega
   rw [e4]
   omega
  omega
 ·
  intro h0
  have hc : c = 1 := by have := h.car; omega
  subst hc
  have e : lv b64 a + lv b64 b = lv b64 (o ++ [1]) := by rw [lv_append, h.len, ← hd]; simp [lv]
  rw [e]
  exact dig_of b64_two _ (h.dgs.append (by intro d hd; simp at hd; rw [hd]; exact b64_two)) fun hne => by simp

def OwnAll (w : World) (g : Nat) (k : IntKind) (e : TypeId) (ds : List Nat) : Prop := w.heap[g]? = some (.cells (ds.map (fun d : Nat => Value.int k (d : Int))).toArray e (0, 0))
theorem OwnAll.own {w : World} {g : Nat} {k : IntKind} {e : TypeId} {ds : List Nat} (h : OwnAll w g k e ds) : Own w g k e ds := ⟨[], by rw [List.append_nil]; exact h⟩
theorem OwnAll.frozen {w : World} {g : Nat} {k : IntKind} {e : TypeId} {ds : List Nat} (h : OwnAll w g k e ds) (j : Nat) : w.frozen? ⟨g, j, none⟩ = false := h.own.frozen j
theorem OwnAll.cell {w : World} {g : Nat} {k : IntKind} {e : TypeId} {ds : List Nat} (h : OwnAll w g k e ds) (j : Nat) (hj : j < ds.length) : ∃ q, w.cell? ⟨g, j, none⟩ = some (.int k q) := ⟨_, h.own.cell j hj⟩
theorem OwnAll.store {w : World} {g : Nat} {k : IntKind} {e : TypeId} {ds : List Nat} (h : OwnAll w g k e ds) (j x : Nat) : OwnAll (w.setCell ⟨g, j, none⟩ (.int k x)) g k e (ds.set j x) := by
 unfold OwnAll at *
 rw [heap_setCell_same w g j _ e _ h]
 simp [List.map_set]
theorem OwnAll.of_room {w : World} {g : Nat} {e : TypeId} {n : Nat} (h : w.heap[g]? = some (.cells (madeCells #[Value.int .u64 0] (n + 1)) e (0, 0))) : OwnAll w g .u64 e (List.replicate n 0 ++ [0]) := by
 unfold OwnAll
 rw [h]
 have e1 : (madeCells #[Value.int .u64 0] (n + 1)).toList = List.replicate (n + 1) (Value.int .u64 0) := toList_madeCells_one _ _
 have e2 : (List.replicate n 0 ++ [0]).map (fun d : Nat => Value.int .u64 (d : Int)) = List.replicate (n + 1) (Value.int .u64 0) := by
  rw [List.replicate_succ']
  simp
 rw [e2, ← e1]
theorem Own.init {w : World} {g : Nat} {k : IntKind} {e : TypeId} {a b : List Nat} (h : Own w g k e (a ++ b)) : Own w g k e a := by
 obtain ⟨tl, h⟩ := h
 refine ⟨b.map (fun d : Nat => Value.int k (d : Int)) ++ tl, ?_⟩
 rw [h]
 simp
theorem OwnAll.ownsRow {w : World} {g : Nat} {k : IntKind} {e : TypeId} {o : List Nat} (h : OwnAll w g k e (o ++ [0])) (n base : Nat) (hb : base ≤ g) (hn : o.length = n) (hm : n + 1 ≤ maxLen) :
  w.ownsRow base e 1 (.slice (some ⟨g, 0, none⟩) n (n + 1)) n (o.map (fun d : Nat => Value.int k (d : Int))) := by
 refine ⟨by simp [hn], .inr ⟨g, n + 1, _, rfl, hb, h, by omega, hm, by simp [hn], ?_⟩⟩
 simp [← hn]
theorem digits_row {w : World} {base g n : Nat} {e : TypeId} {o : List Nat} {c : Nat} (hn : o.length = n) (h : w.ownsRow base e 1 (.slice (some ⟨g, 0, none⟩) (n + 1) (n + 1)) (n + 1) (o.map (fun d : Nat => Value.int .u64 (d : Int)) ++ [.int .u64 (c : Int)])) :
  IsRow .u64 w (.slice (some ⟨g, 0, none⟩) (n + 1) (n + 1)) (o ++ [c]) := by
 have hl : (o ++ [c]).length = n + 1 := by simp [hn]
 obtain ⟨ho, h1, h2, _⟩ := Own.of_ownsRow (k := .u64) (ds := o ++ [c]) hl (by simpa using h)
 have := ho.isRowCap (n + 1) (by omega) h2
 rw [hl] at this
 exact this

theorem run_Add64_y0 (x c : Nat) (hc : c ≤ 1) (w : World) :
  (callFunc 60 #[.int .u64 x, .int .u64 0, .int .u64 c]).run Tryz.prog w = .ok (.value (.tuple #[.int .u64 (addLo x 0 c : Nat), .int .u64 (addHi x 0 c : Nat)])) w :=
 run_Add64 x 0 c hc w
theorem run_Sub64_y0 (x c : Nat) (hc : c ≤ 1) (w : World) :
  (callFunc 64 #[.int .u64 x, .int .u64 0, .int .u64 c]).run Tryz.prog w = .ok (.value (.tuple #[.int .u64 (subLo x 0 c : Nat), .int .u64 (subHi x 0 c : Nat)])) w :=
 run_Sub64 x 0 c hc w

set_option maxRecDepth 100000 in
set_option maxHeartbeats 2000000 in
theorem plus_any (m n : Nat) (va vb : Value) (w : World) (ha : IsNat .u64 b64 w va m) (hb : IsNat .u64 b64 w vb n) (hla : (dig b64 m).length ≤ 1099511627776) (hlb : (dig b64 n).length ≤ 1099511627776) :
  Calls Tryz.prog 39 #[va, vb] w (RetNat .u64 b64 (m + n) w) := by
 obtain ⟨aa, ca, rfl, hA⟩ := IsRow.opened ha
 obtain ⟨ab, cb, rfl, hB⟩ := IsRow.opened hb
 have hdA := dgs_dig b64_two m
 have hdB := dgs_dig b64_two n
 have HLA := Lib.hid (dig_last b64_two m)
 have HLB := Lib.hid (dig_last b64_two n)
 have HVA : Hid (lv b64 (dig b64 m) + lv b64 (dig b64 n) = m + n) := by show _ = _; rw [lv_dig b64_two, lv_dig b64_two]
 have HVB : Hid (lv b64 (dig b64 n) + lv b64 (dig b64 m) = m + n) := by show _ = _; rw [lv_dig b64_two, lv_dig b64_two, Nat.add_comm]
 clear ha hb
 generalize dig b64 m = dA at *
 generalize dig b64 n = dB at *
 obtain ⟨i0, hi, hz0, hz1, hz2⟩ := info_parts info_u64
 by_cases hsw : dA.length < dB.length
 ·
  have tsw : decide (dA.length < dB.length) = true := decide_eq_true hsw
  go_enter Tryz.func39, Tryz.ntmps39
  go_wp2_with (at_make; refine wpList_make_room _ rfl _ _ 30 rfl w.heap.size 81 i0 (.int .u64 0) 1 Tryz.underlying30 hi hz0 hz1 _ _ _ _ dB.length (dB.length + 1) rfl rfl (by omega) (by omega) (by omega) (by rw [hz2]; omega) (by unfold maxLen; omega) (by omega) ?_)
  intro w1 hown hgrow
  have ho := OwnAll.of_room hown
  have hbel := (Below.refl w.heap.size w).grown hgrow (Nat.le_refl _) (by simp)
  clear hown hgrow
  go_wp2_with fail
  go_loopw [6, 25] (fun cv iv wr => ∃ (i : Nat) (o : List Nat) (c : Nat), i ≤ dB.length ∧ iv = .int .i64 i ∧ cv = .int .u64 c ∧ OwnAll wr w.heap.size .u64 81 (o ++ [0]) ∧ Hid (PlIn dB dA dB.length i o c) ∧ Below w.heap.size w wr)
   (fun _ iv _ => dB.length - (intOf iv).toNat)
  case atStart => exact ⟨0, _, 0, Nat.zero_le _, rfl, rfl, ho, PlIn.start _ _ _, hbel⟩
  case round =>
   clear ho hbel
   obtain ⟨i, o, c, hil, rfl, rfl, ho, hM, hbel⟩ := hrel
   by_cases hlt : i < dB.length
   ·
    obtain ⟨b, off, rfl, hbA, hcA⟩ := hB (by omega)
    have hca := (hbel.cell (p := ⟨b, off + i, none⟩) hbA).trans (hcA i hlt)
    have hfo := ho.frozen i
    have hlo := hM.out.len
    obtain ⟨q0, hco⟩ := ho.cell i (by rw [List.length_append]; omega)
    have hst := Lib.hid (fun x y hx hy => hM.out.step hdB hdA hlt x y hx hy)
    have hlt' : (i : Int) < dB.length := by omega
    have hge' : (0 : Int) ≤ i := by omega
    have hset : ∀ v, (o ++ [0]).set i v = o.set i v ++ [0] := fun v => by rw [List.set_append_left _ _ (by omega)]
    have HSET := Lib.hid hset
    have hcar := hM.out.car
    clear hset hlo
    by_cases hlb : i < dA.length
    ·
     obtain ⟨b', off', rfl, hbB, hcB⟩ := hA (by omega)
     have hcb := (hbel.cell (p := ⟨b', off' + i, none⟩) hbB).trans (hcB i hlb)
     have hlb' : (i : Int) < dA.length := by omega
     have tb : decide (i < dA.length) = true := decide_eq_true hlb
     have HST := Lib.hid (hst.out _ _ rfl rfl)
     clear hst
     generalize dB.getD i 0 = x at *
     generalize dA.getD i 0 = y at *
     have hadd := run_Add64 x y c hcar
     clear hcar
     go_wp2_with fail
     exact ⟨⟨i + 1, _, _, by omega, by go_num, rfl, by rw [← HSET.out]; exact ho.store i _, HST.out, hbel.setCell (p := ⟨w.heap.size, i, none⟩) (Nat.le_refl _) _⟩, meas_up hlt⟩
    ·
     have tb : decide (i < dA.length) = false := decide_eq_false hlb
     have HST := Lib.hid (hst.out _ 0 rfl (by simp [List.getElem?_eq_none (Nat.le_of_not_lt hlb)]))
     clear hst
     generalize dB.getD i 0 = x at *
     have hadd := run_Add64_y0 x c hcar
     clear hcar
     go_wp2_with fail
     exact ⟨⟨i + 1, _, _, by omega, by go_num, rfl, by rw [← HSET.out]; exact ho.store i _, HST.out, hbel.setCell (p := ⟨w.heap.size, i, none⟩) (Nat.le_refl _) _⟩, meas_up hlt⟩
   ·
    obtain rfl : i = dB.length := by omega
    have hlen := Lib.hid hM.out.len
    have hpd := plus_dig hM.out (by omega) HLB.out
    have hv : lv b64 dB + lv b64 dA = m + n := HVB.out
    rw [hv] at hpd
    have HP0 := Lib.hid hpd.1
    have HP1 := Lib.hid hpd.2
    clear hpd hv
    rcases Nat.eq_zero_or_pos c with hc | hc
    ·
     subst hc
     have HP := Lib.hid (HP0.out rfl)
     have hrow := (Own.init ho.own).isRowCap (dB.length + 1) (by rw [hlen.out]; omega) (by unfold maxLen; omega)
     rw [hlen.out] at hrow
     have HR := Lib.hid hrow
     clear hrow
     go_wp2_with fail
     go_ret
     exact ⟨_, rfl, by show IsRow _ _ _ _; rw [HP.out]; exact HR.out, hbel⟩
    ·
     have tc : decide (0 < c) = true := decide_eq_true hc
     have HP := Lib.hid (HP1.out hc)
     have how := ho.ownsRow dB.length w.heap.size (Nat.le_refl _) hlen.out (by unfold maxLen; omega)
     have hx1 := hbel.alloc hbel.size (.cells #[.int .u64 (c : Int)] 81)
     have hcn := cell_one_new wr (.int .u64 (c : Int)) 81
     have HCN := Lib.hid hcn
     have HOW := Lib.hid (how.alloc (.cells #[.int .u64 (c : Int)] 81))
     clear how hcn hc ho
     go_wp2_with (at_builtin; refine wpList_append_fits _ rfl (.tmp 51) (.tmp 53) 30 rfl w.heap.size 81 i0 1 Tryz.underlying30 hi hz1 _ _ _ _ rfl HOW.out ⟨wr.heap.size, 0, none⟩ 1 1 [.int .u64 (c : Int)] rfl rfl HCN.out (by simp [Value.oneCell']) (by omega) ?_)
     intro w2 hown2 hgr2
     have hb2 : Below w.heap.size w w2 := hx1.grown hgr2 hx1.size (by simp)
     have HR := Lib.hid (digits_row hlen.out hown2)
     clear hown2 hgr2 hx1
     go_wp2_with fail
     go_ret
     exact ⟨_, rfl, by show IsRow _ _ _ _; rw [HP.out]; exact HR.out, hb2⟩
 ·
  have tsw : decide (dA.length < dB.length) = false := decide_eq_false hsw
  go_enter Tryz.func39, Tryz.ntmps39
  go_wp2_with (at_make; refine wpList_make_room _ rfl _ _ 30 rfl w.heap.size 81 i0 (.int .u64 0) 1 Tryz.underlying30 hi hz0 hz1 _ _ _ _ dA.length (dA.length + 1) rfl rfl (by omega) (by omega) (by omega) (by rw [hz2]; omega) (by unfold maxLen; omega) (by omega) ?_)
  intro w1 hown hgrow
  have ho := OwnAll.of_room hown
  have hbel := (Below.refl w.heap.size w).grown hgrow (Nat.le_refl _) (by simp)
  clear hown hgrow
  go_wp2_with fail
  go_loopw [6, 25] (fun cv iv wr => ∃ (i : Nat) (o : List Nat) (c : Nat), i ≤ dA.length ∧ iv = .int .i64 i ∧ cv = .int .u64 c ∧ OwnAll wr w.heap.size .u64 81 (o ++ [0]) ∧ Hid (PlIn dA dB dA.length i o c) ∧ Below w.heap.size w wr)
   (fun _ iv _ => dA.length - (intOf iv).toNat)
  case atStart => exact ⟨0, _, 0, Nat.zero_le _, rfl, rfl, ho, PlIn.start _ _ _, hbel⟩
  case round =>
   clear ho hbel
   obtain ⟨i, o, c, hil, rfl, rfl, ho, hM, hbel⟩ := hrel
   by_cases hlt : i < dA.length
   ·
    obtain ⟨b, off, rfl, hbA, hcA⟩ := hA (by omega)
    have hca := (hbel.cell (p := ⟨b, off + i, none⟩) hbA).trans (hcA i hlt)
    have hfo := ho.frozen i
    have hlo := hM.out.len
    obtain ⟨q0, hco⟩ := ho.cell i (by rw [List.length_append]; omega)
    have hst := Lib.hid (fun x y hx hy => hM.out.step hdA hdB hlt x y hx hy)
    have hlt' : (i : Int) < dA.length := by omega
    have hge' : (0 : Int) ≤ i := by omega
    have hset : ∀ v, (o ++ [0]).set i v = o.set i v ++ [0] := fun v => by rw [List.set_append_left _ _ (by omega)]
    have HSET := Lib.hid hset
    have hcar := hM.out.car
    clear hset hlo
    by_cases hlb : i < dB.length
    ·
     obtain ⟨b', off', rfl, hbB, hcB⟩ := hB (by omega)
     have hcb := (hbel.cell (p := ⟨b', off' + i, none⟩) hbB).trans (hcB i hlb)
     have hlb' : (i : Int) < dB.length := by omega
     have tb : decide (i < dB.length) = true := decide_eq_true hlb
     have HST := Lib.hid (hst.out _ _ rfl rfl)
     clear hst
     generalize dA.getD i 0 = x at *
     generalize dB.getD i 0 = y at *
     have hadd := run_Add64 x y c hcar
     clear hcar
     go_wp2_with fail
     exact ⟨⟨i + 1, _, _, by omega, by go_num, rfl, by rw [← HSET.out]; exact ho.store i _, HST.out, hbel.setCell (p := ⟨w.heap.size, i, none⟩) (Nat.le_refl _) _⟩, meas_up hlt⟩
    ·
     have tb : decide (i < dB.length) = false := decide_eq_false hlb
     have HST := Lib.hid (hst.out _ 0 rfl (by simp [List.getElem?_eq_none (Nat.le_of_not_lt hlb)]))
     clear hst
     generalize dA.getD i 0 = x at *
     have hadd := run_Add64_y0 x c hcar
     clear hcar
     go_wp2_with fail
     exact ⟨⟨i + 1, _, _, by omega, by go_num, rfl, by rw [← HSET.out]; exact ho.store i _, HST.out, hbel.setCell (p := ⟨w.heap.size, i, none⟩) (Nat.le_refl _) _⟩, meas_up hlt⟩
   ·
    obtain rfl : i = dA.length := by omega
    have hlen := Lib.hid hM.out.len
    have hpd := plus_dig hM.out (by omega) HLA.out
    have hv : lv b64 dA + lv b64 dB = m + n := HVA.out
    rw [hv] at hpd
    have HP0 := Lib.hid hpd.1
    have HP1 := Lib.hid hpd.2
    clear hpd hv
    rcases Nat.eq_zero_or_pos c with hc | hc
    ·
     subst hc
     have HP := Lib.hid (HP0.out rfl)
     have hrow := (Own.init ho.own).isRowCap (dA.length + 1) (by rw [hlen.out]; omega) (by unfold maxLen; omega)
     rw [hlen.out] at hrow
     have HR := Lib.hid hrow
     clear hrow
     go_wp2_with fail
     go_ret
     exact ⟨_, rfl, by show IsRow _ _ _ _; rw [HP.out]; exact HR.out, hbel⟩
    ·
     have tc : decide (0 < c) = true := decide_eq_true hc
     have HP := Lib.hid (HP1.out hc)
     have how := ho.ownsRow dA.length w.heap.size (Nat.le_refl _) hlen.out (by unfold maxLen; omega)
     have hx1 := hbel.alloc hbel.size (.cells #[.int .u64 (c : Int)] 81)
     have hcn := cell_one_new wr (.int .u64 (c : Int)) 81
     have HCN := Lib.hid hcn
     have HOW := Lib.hid (how.alloc (.cells #[.int .u64 (c : Int)] 81))
     clear how hcn hc ho
     go_wp2_with (at_builtin; refine wpList_append_fits _ rfl (.tmp 51) (.tmp 53) 30 rfl w.heap.size 81 i0 1 Tryz.underlying30 hi hz1 _ _ _ _ rfl HOW.out ⟨wr.heap.size, 0, none⟩ 1 1 [.int .u64 (c : Int)] rfl rfl HCN.out (by simp [Value.oneCell']) (by omega) ?_)
     intro w2 hown2 hgr2
     have hb2 : Below w.heap.size w w2 := hx1.grown hgr2 hx1.size (by simp)
     have HR := Lib.hid (digits_row hlen.out hown2)
     clear hown2 hgr2 hx1
     go_wp2_with fail
     go_ret
     exact ⟨_, rfl, by show IsRow _ _ _ _; rw [HP.out]; exact HR.out, hb2⟩

structure MiIn (a b : List Nat) (n i : Nat) (o : List Nat) (c : Nat) : Prop where
 len : o.length = n
 dgs : Dgs b64 o
 car : c ≤ 1
 val : lv b64 o + lv b64 (b.take i) = lv b64 (a.take i) + b64 ^ i * c
 top : ∀ j, i ≤ j → o.getD j 0 = 0
theorem MiIn.start (a b : List Nat) (n : Nat) : MiIn a b n 0 (List.replicate n 0) 0 :=
 ⟨by simp, Dgs.replicate b64_pos _, by omega, by simp [lv_replicate, lv], fun j _ => by simp [List.getElem?_replicate]; split <;> rfl⟩
theorem sub_eq_plus (x y c : Nat) (hx : x < b64) (hy : y < b64) (hc : c ≤ 1) : subLo x y c + y + c = x + b64 * subHi x y c := by
 unfold subLo subHi
 by_cases h : x < y + c
 ·
  rw [if_pos h, Nat.mod_eq_of_lt (by omega)]; omega
 ·
  rw [if_neg h]
  have e : b64 + x - y - c = (x - y - c) + b64 := by omega
  rw [e, Nat.add_mod_right, Nat.mod_eq_of_lt (by omega)]
  omega
theorem MiIn.step {a b : List Nat} {n i : Nat} {o : List Nat} {c : Nat} (h : MiIn a b n i o c) (ha : Dgs b64 a) (hb : Dgs b64 b) (hi : i < n) (x y : Nat) (hx : x = a.getD i 0) (hy : y = b.getD i 0) :
  MiIn a b n (i + 1) (o.set i (subLo x y c)) (subHi x y c) := by
 have hxl := ha.getD b64_pos i
 have hyl := hb.getD b64_pos i
 rw [← hx] at hxl
 rw [← hy] at hyl
 refine ⟨by simpa using h.len, h.dgs.set _ _ (subLo_lt _ _ _), subHi_le _ _ _, ?_, fun j hj => ?_⟩
 ·
  have h1 := lv_set b64 o i (subLo x y c) (by rw [h.len]; exact hi)
  rw [h.top i (Nat.le_refl _)] at h1
  have h2 := h.val
  rw [take_step64, take_step64, Nat.pow_succ, ← hx, ← hy]
  have e4 := sub_eq_plus x y c hxl hyl h.car
  have e5 : b64 ^ i * (subLo x y c + y + c) = b64 ^ i * (x + b64 * subHi x y c) := by rw [e4]
  rw [Nat.mul_assoc]
  simp only [Nat.mul_add] at e5
  omega
 ·
  have := h.top j (by omega)
  rw [List.getD_eq_getElem?_getD] at *
  rw [List.getElem?_set_ne (by omega)]
  exact this
theorem MiIn.done {a b o : List Nat} {c : Nat} (h : MiIn a b a.length a.length o c) (hl : b.length ≤ a.length) (hle : lv b64 b ≤ lv b64 a) : lv b64 o = lv b64 a - lv b64 b := by
 have hv := h.val
 rw [List.take_of_length_le (Nat.le_refl _), List.take_of_length_le hl] at hv
 rcases Nat.eq_zero_or_pos c with h0 | h0
 ·
  subst h0; omega
 ·
  have hc : c = 1 := by have := h.car; omega
  subst hc
  have := lv_lt h.dgs
  rw [h.len] at this
  omega

set_option maxRecDepth 100000 in
set_option maxHeartbeats 2000000 in
theorem minus_any (m n : Nat) (va vb : Value) (w : World) (ha : IsNat .u64 b64 w va m) (hb : IsNat .u64 b64 w vb n) (hle : n ≤ m) (hla : (dig b64 m).length ≤ 1099511627776) :
  Calls Tryz.prog 40 #[va, vb] w (RetNat .u64 b64 (m - n) w) := by
 obtain ⟨aa, ca, rfl, hA⟩ := IsRow.opened ha
 obtain ⟨ab, cb, rfl, hB⟩ := IsRow.opened hb
 have hdA := dgs_dig b64_two m
 have hdB := dgs_dig b64_two n
 have hlen := dig_length_mono b64_two hle
 have Hva := Lib.hid (lv_dig b64_two m)
 have Hvb := Lib.hid (lv_dig b64_two n)
 clear ha hb
 generalize dig b64 m = dA at *
 generalize dig b64 n = dB at *
 obtain ⟨i0, hi, hz0, hz1, hz2⟩ := info_parts info_u64
 go_enter Tryz.func40, Tryz.ntmps40
 go_wp2_with (at_make; refine wpList_make_full _ rfl _ _ 30 rfl w.heap.size 81 i0 (.int .u64 0) 1 Tryz.underlying30 hi hz0 hz1 _ _ _ _ dA.length rfl rfl (by omega) (by omega) (by rw [hz2]; omega) (by unfold maxLen; omega) (by omega) ?_)
 intro w1 hown hgrow
 have ho := Own.of_made hown
 have hbel := (Below.refl w.heap.size w).grown hgrow (Nat.le_refl _) (by simp)
 clear hown hgrow hi hz0 hz1 hz2
 go_wp2_with fail
 go_loopw [6, 15] (fun cv iv wr => ∃ (i : Nat) (o : List Nat) (c : Nat), i ≤ dA.length ∧ iv = .int .i64 i ∧ cv = .int .u64 c ∧ Own wr w.heap.size .u64 81 o ∧ Hid (MiIn dA dB dA.length i o c) ∧ Below w.heap.size w wr)
  (fun _ iv _ => dA.length - (intOf iv).toNat)
 case atStart => exact ⟨0, _, 0, Nat.zero_le _, rfl, rfl, ho, MiIn.start _ _ _, hbel⟩
 case round =>
  clear ho hbel
  obtain ⟨i, o, c, hil, rfl, rfl, ho, hM, hbel⟩ := hrel
  by_cases hlt : i < dA.length
  ·
   obtain ⟨b, off, rfl, hbA, hcA⟩ := hA (by omega)
   have hca := (hbel.cell (p := ⟨b, off + i, none⟩) hbA).trans (hcA i hlt)
   have hfo := ho.frozen i
   have hco := ho.cell i (by rw [hM.out.len]; omega)
   have hst := Lib.hid (fun x y hx hy => hM.out.step hdA hdB hlt x y hx hy)
   have hlt' : (i : Int) < dA.length := by omega
   have hge' : (0 : Int) ≤ i := by omega
   have hcar := hM.out.car
   generalize o.getD i 0 = q0 at *
   by_cases hlb : i < dB.length
   ·
    obtain ⟨b', off', rfl, hbB, hcB⟩ := hB (by omega)
    have hcb := (hbel.cell (p := ⟨b', off' + i, none⟩) hbB).trans (hcB i hlb)
    have hlb' : (i : Int) < dB.length := by omega
    have tb : decide (i < dB.length) = true := decide_eq_true hlb
    have HST := Lib.hid (hst.out _ _ rfl rfl)
    clear hst
    generalize dA.getD i 0 = x at *
    generalize dB.getD i 0 = y at *
    have hsub := run_Sub64 x y c hcar
    clear hcar
    go_wp2_with fail
    exact ⟨⟨i + 1, _, _, by omega, by go_num, rfl, ho.store i _, HST.out, hbel.setCell (p := ⟨w.heap.size, i, none⟩) (Nat.le_refl _) _⟩, meas_up hlt⟩
   ·
    have tb : decide (i < dB.length) = false := decide_eq_false hlb
    have HST := Lib.hid (hst.out _ 0 rfl (by simp [List.getElem?_eq_none (Nat.le_of_not_lt hlb)]))
    clear hst
    generalize dA.getD i 0 = x at *
    have hsub := run_Sub64_y0 x c hcar
    clear hcar
    go_wp2_with fail
    exact ⟨⟨i + 1, _, _, by omega, by go_num, rfl, ho.store i _, HST.out, hbel.setCell (p := ⟨w.heap.size, i, none⟩) (Nat.le_refl _) _⟩, meas_up hlt⟩
  ·
   obtain rfl : i = dA.length := by omega
   have hl := hM.out.len
   have hrow := ho.isRow (by rw [hl]; unfold maxLen; omega)
   rw [hl] at hrow
   have HR := Lib.hid hrow
   have HD := Lib.hid hM.out.dgs
   have HV := Lib.hid (hM.out.done hlen (by rw [Hva.out, Hvb.out]; exact hle))
   clear hl hrow ho
   go_wp2_with fail
   refine (cut_any o _ _ HR.out HD.out).mono ?_
   rintro e w' ⟨v, rfl, hv, rfl⟩
   go_wp2_with fail
   go_ret
   exact ⟨v, rfl, by rw [← Hva.out, ← Hvb.out, ← HV.out]; exact hv, hbel⟩

end Go.Proofs.YtakempimcbofgaaGreat

namespace Go.Proofs.YtakempimcbofgaaGreat
open Go.RowKit

theorem IsRat.stored {w : World} {B : Nat} {neg : Bool} {x1 y1 : Option Addr} {i1 j1 k1 l1 n : Nat} {q : Rat}
  (hB : RB w B) (h1 : IsNat .u64 b64 w (.slice x1 i1 j1) n) (h2 : IsNat .u64 b64 w (.slice y1 k1 l1) (dn q.den))
  (hn : decide (q.num < 0) = neg) (hm : q.num.natAbs = n) :
  IsRat (((w.setCell ⟨B, 0, none⟩ (.bool neg)).setCell ⟨B, 1, none⟩ (.slice x1 i1 j1)).setCell ⟨B, 2, none⟩ (.slice y1 k1 l1)) (.agg #[.bool neg, .slice x1 i1 j1, .slice y1 k1 l1]) q := by
 subst hn hm
 obtain ⟨b, x, i, j, y, k, l, T, hB⟩ := hB
 exact ⟨_, _, rfl, store3 hB h1, store3 hB h2⟩

set_option maxRecDepth 100000 in
set_option maxHeartbeats 4000000 in
theorem addRat_any (x y : Rat) (vx vy : Value) (w : World) (hx : IsRat w vx x) (hy : IsRat w vy y) (hlx : szR x 68719476736) (hly : szR y 68719476736) : Calls Tryz.prog 21 #[vx, vy] w (RetRat (x + y) w) := by
 obtain ⟨a1, c1, a2, c2, rfl, n1, n2⟩ := hx.opened
 obtain ⟨a3, c3, a4, c4, rfl, n3, n4⟩ := hy.opened
 have N1 := Lib.hid n1
 have N2 := Lib.hid n2
 have N3 := Lib.hid n3
 have N4 := Lib.hid n4
 have He := Lib.hid (mkQ_add x y)
 have hA := dig_length_mul b64_two x.num.natAbs y.den
 have hB := dig_length_mul b64_two y.num.natAbs x.den
 have hC := dig_length_mul b64_two x.den y.den
 have HA : Hid ((dig b64 (x.num.natAbs * y.den)).length ≤ 137438953472) := by have := hlx.1; have := hly.2; show _ ≤ _; omega
 have HBB : Hid ((dig b64 (y.num.natAbs * x.den)).length ≤ 137438953472) := by have := hlx.2; have := hly.1; show _ ≤ _; omega
 have HC : Hid ((dig b64 (x.den * y.den)).length ≤ 137438953472) := by have := hlx.2; have := hly.2; show _ ≤ _; omega
 have hS := dig_length_add b64_two (x.num.natAbs * y.den) (y.num.natAbs * x.den) 137438953472 HA.out HBB.out
 have HS := Lib.hid hS
 have HP := Lib.hid (Nat.mul_pos x.den_pos y.den_pos)
 have HLX := Lib.hid hlx
 have HLY := Lib.hid hly
 clear hx hy n1 n2 n3 n4 hlx hly hA hB hC hS
 go_enter Tryz.func21, Tryz.ntmps21
 go_wp2_with fail
 generalize hsx : decide (x.num < 0) = sx at *
 generalize hsy : decide (y.num < 0) = sy at *
 clear hsx hsy
 generalize hW0 : ((w.alloc (.cells #[.bool sx, .slice a1 (dig b64 x.num.natAbs).length c1, .slice a2 (dig b64 (dn x.den)).length c2] 32)).alloc (.cells #[.bool sy, .slice a3 (dig b64 y.num.natAbs).length c3, .slice a4 (dig b64 (dn y.den)).length c4] 32)).alloc (.cells #[.bool false, .slice none 0 0, .slice none 0 0] 32) = W at *
 obtain ⟨hal, hB1, hB2, hB3⟩ := boxes3 w _ _ _ _ W hW0.symm
 clear hW0
 have hW : Below w.heap.size w W.drew := hal.drew
 have p0 := blk_cell hB1 0 (.bool sx) rfl
 have p1 := blk_cell hB1 1 (.slice a1 (dig b64 x.num.natAbs).length c1) rfl
 have p2 := blk_cell hB1 2 (.slice a2 (dig b64 (dn x.den)).length c2) rfl
 have r0 := blk_cell hB2 0 (.bool sy) rfl
 have r1 := blk_cell hB2 1 (.slice a3 (dig b64 y.num.natAbs).length c3) rfl
 have r2 := blk_cell hB2 2 (.slice a4 (dig b64 (dn y.den)).length c4) rfl
 have HB : Hid (RB W (w.heap.size + 2)) := ⟨false, none, 0, 0, none, 0, 0, _, hB3⟩
 have hl3 := blk_lt hB3
 clear hB1 hB2 hB3
 go_region_held3 (fun w' => Below w.heap.size w w' ∧ RB w' (w.heap.size + 2) ∧ w'.cell? ⟨w.heap.size, 0, none⟩ = some (.bool sx) ∧ w'.cell? ⟨w.heap.size, 1, none⟩ = some (.slice a1 (dig b64 x.num.natAbs).length c1) ∧ w'.cell? ⟨w.heap.size, 2, none⟩ = some (.slice a2 (dig b64 (dn x.den)).length c2) ∧ w'.cell? ⟨w.heap.size + 1, 0, none⟩ = some (.bool sy) ∧ w'.cell? ⟨w.heap.size + 1, 1, none⟩ = some (.slice a3 (dig b64 y.num.natAbs).length c3) ∧ w'.cell? ⟨w.heap.size + 1, 2, none⟩ = some (.slice a4 (dig b64 (dn y.den)).length c4) ∧ w'.cell? ⟨w.heap.size + 2, 0, none⟩ = some (cellOf w' ⟨w.heap.size + 2, 0, none⟩) ∧ w'.cell? ⟨w.heap.size + 2, 1, none⟩ = some (cellOf w' ⟨w.heap.size + 2, 1, none⟩) ∧ w'.cell? ⟨w.heap.size + 2, 2, none⟩ = some (cellOf w' ⟨w.heap.size + 2, 2, none⟩) ∧ w'.frozen? ⟨w.heap.size + 2, 0, none⟩ = false ∧ w'.frozen? ⟨w.heap.size + 2, 1, none⟩ = false ∧ w'.frozen? ⟨w.heap.size + 2, 2, none⟩ = false)
  (first | exact hold6 hW p0 p1 p2 r0 r1 r2 HB.out | exact hold6_call (Nat.le_refl _) hbB (by assumption) | exact hold6_call (Nat.le_refl _) hbA (by assumption))
  (first
   | (go_at_call_of 36 (Value.slice a2 (dig b64 (dn x.den)).length c2); (with_reducible refine (under_any x.den _ _ (N2.out.below (And.left (by assumption))) x.den_pos).mono ?_); rintro e wA ⟨vA, rfl, hvA, hbA⟩)
   | (go_at_call_of 36 (Value.slice a4 (dig b64 (dn y.den)).length c4); (with_reducible refine (under_any y.den _ _ (N4.out.below (And.left (by assumption))) y.den_pos).mono ?_); rintro e wB ⟨vB, rfl, hvB, hbB⟩))
 rename_i hS1
 have hD := ext_trans hbA hbB
 have HB1 : Hid (RB wB (w.heap.size + 2)) := RB.keep (a := W.drew) HB.out hD hl3
 have hl31 := HB1.out.lt
 have hXA := Lib.hid (hvA.below hbB)
 have hXB := Lib.hid hvB
 obtain ⟨hWB, -, p0', p1', p2', r0', r1', r2', -⟩ := hS1
 clear p0 p1 p2 r0 r1 r2
 replace p0 := p0'
 replace p1 := p1'
 replace p2 := p2'
 replace r0 := r0'
 replace r1 := r1'
 replace r2 := r2'
 clear p0' p1' p2' r0' r1' r2'
 have hWB2 : Below w.heap.size w wB.drew := hWB.drew
 clear hbA hbB hvA hvB hD HB hW hal hl3
 go_wp2_with fail
 go_region_held3 (fun w' => Below w.heap.size w w' ∧ RB w' (w.heap.size + 2) ∧ w'.cell? ⟨w.heap.size, 0, none⟩ = some (.bool sx) ∧ w'.cell? ⟨w.heap.size, 1, none⟩ = some (.slice a1 (dig b64 x.num.natAbs).length c1) ∧ w'.cell? ⟨w.heap.size, 2, none⟩ = some (.slice a2 (dig b64 (dn x.den)).length c2) ∧ w'.cell? ⟨w.heap.size + 1, 0, none⟩ = some (.bool sy) ∧ w'.cell? ⟨w.heap.size + 1, 1, none⟩ = some (.slice a3 (dig b64 y.num.natAbs).length c3) ∧ w'.cell? ⟨w.heap.size + 1, 2, none⟩ = some (.slice a4 (dig b64 (dn y.den)).length c4) ∧ w'.cell? ⟨w.heap.size + 2, 0, none⟩ = some (cellOf w' ⟨w.heap.size + 2, 0, none⟩) ∧ w'.cell? ⟨w.heap.size + 2, 1, none⟩ = some (cellOf w' ⟨w.heap.size + 2, 1, none⟩) ∧ w'.cell? ⟨w.heap.size + 2, 2, none⟩ = some (cellOf w' ⟨w.heap.size + 2, 2, none⟩) ∧ w'.frozen? ⟨w.heap.size + 2, 0, none⟩ = false ∧ w'.frozen? ⟨w.heap.size + 2, 1, none⟩ = false ∧ w'.frozen? ⟨w.heap.size + 2, 2, none⟩ = false)
  (first | exact hold6 hWB2 p0 p1 p2 r0 r1 r2 HB1.out | exact hold6_call (Nat.le_refl _) hbD (by assumption) | exact hold6_call (Nat.le_refl _) hbC (by assumption))
  (first
   | (go_at_call_of 37 (Value.slice a1 (dig b64 x.num.natAbs).length c1); refine (times_any x.num.natAbs y.den _ _ _ (N1.out.below (And.left (by assumption))) (hXB.out.below (Below.refl _ _).drew) (by have := HLX.out.1; have := HLY.out.2; omega)).mono ?_; rintro e wC ⟨vC, rfl, hvC, hbC⟩)
   | (go_at_call_of 37 (Value.slice a3 (dig b64 y.num.natAbs).length c3); refine (times_any y.num.natAbs x.den _ _ _ (N3.out.below (And.left (by assumption))) ((hXA.out.below (Below.refl _ _).drew).below hbC) (by have := HLX.out.2; have := HLY.out.1; omega)).mono ?_; rintro e wD ⟨vD, rfl, hvD, hbD⟩))
 rename_i hS1
 have hD : Below wB.heap.size wB wD := ext_trans (Below.refl _ _).drew (ext_trans hbC hbD)
 have HB2 : Hid (RB wD (w.heap.size + 2)) := RB.keep HB1.out hD hl31
 have hl32 := HB2.out.lt
 have hB3 := Lib.hid (hvC.below hbD)
 have hD3 := Lib.hid hvD
 have hXA2 := Lib.hid (hXA.out.below hD)
 have hXB2 := Lib.hid (hXB.out.below hD)
 obtain ⟨hWD, -, p0', p1', p2', r0', r1', r2', -⟩ := hS1
 clear p0 p1 p2 r0 r1 r2
 replace p0 := p0'
 replace p1 := p1'
 replace p2 := p2'
 replace r0 := r0'
 replace r1 := r1'
 replace r2 := r2'
 clear p0' p1' p2' r0' r1' r2'
 clear hbC hbD hvC hvD hD HB1 hXA hXB hWB hWB2 hl31
 go_wp2_with fail
 refine (times_any x.den y.den _ _ _ hXA2.out hXB2.out (by have := HLX.out.2; have := HLY.out.2; omega)).mono ?_
 rintro e W2 ⟨vC, rfl, hvC, hbF⟩
 have HC3 := Lib.hid hvC
 have HN1 := Lib.hid (hB3.out.below hbF)
 have HN2 := Lib.hid (hD3.out.below hbF)
 have HB3 : Hid (RB W2 (w.heap.size + 2)) := RB.keep HB2.out hbF hl32
 have e6 := hold6_call (Nat.le_refl _) hbF (hold6 hWD p0 p1 p2 r0 r1 r2 HB2.out)
 obtain ⟨hW2, -, p0', p1', p2', r0', r1', r2', -⟩ := e6
 clear p0 p1 p2 r0 r1 r2 hbF HB2 hB3 hD3 hXA2 hXB2 hvC hWD hl32
 replace p0 := p0'
 replace p1 := p1'
 replace p2 := p2'
 replace r0 := r0'
 replace r1 := r1'
 replace r2 := r2'
 clear p0' p1' p2' r0' r1' r2'
 have HB2 := HB3
 have hl32 := HB2.out.lt
 clear HB3
 generalize x.num.natAbs * y.den = A at *
 generalize y.num.natAbs * x.den = B at *
 generalize x.den * y.den = C at *
 by_cases hs : (sx == sy) = true
 ·
  have Hs := Lib.hid hs
  go_wp2_with fail
  have hWe : Below w.heap.size w W2.drew := hW2.drew
  go_region_held3 (fun w' => Below w.heap.size w w' ∧ RB w' (w.heap.size + 2) ∧ w'.cell? ⟨w.heap.size, 0, none⟩ = some (.bool sx) ∧ w'.cell? ⟨w.heap.size, 1, none⟩ = some (.slice a1 (dig b64 x.num.natAbs).length c1) ∧ w'.cell? ⟨w.heap.size, 2, none⟩ = some (.slice a2 (dig b64 (dn x.den)).length c2) ∧ w'.cell? ⟨w.heap.size + 1, 0, none⟩ = some (.bool sy) ∧ w'.cell? ⟨w.heap.size + 1, 1, none⟩ = some (.slice a3 (dig b64 y.num.natAbs).length c3) ∧ w'.cell? ⟨w.heap.size + 1, 2, none⟩ = some (.slice a4 (dig b64 (dn y.den)).length c4) ∧ w'.cell? ⟨w.heap.size + 2, 0, none⟩ = some (cellOf w' ⟨w.heap.size + 2, 0, none⟩) ∧ w'.cell? ⟨w.heap.size + 2, 1, none⟩ = some (cellOf w' ⟨w.heap.size + 2, 1, none⟩) ∧ w'.cell? ⟨w.heap.size + 2, 2, none⟩ = some (cellOf w' ⟨w.heap.size + 2, 2, none⟩) ∧ w'.frozen? ⟨w.heap.size + 2, 0, none⟩ = false ∧ w'.frozen? ⟨w.heap.size + 2, 1, none⟩ = false ∧ w'.frozen? ⟨w.heap.size + 2, 2, none⟩ = false)
   (first | exact hold6 hWe p0 p1 p2 r0 r1 r2 HB2.out | exact hold6_call (Nat.le_refl _) hbE (by assumption) | exact hold6_call (Nat.le_refl _) hbD (by assumption) | exact hold6_store _ _ _ _ _ _ _ (by omega) (by omega) (by omega) (by assumption) _ rfl)
   (first
    | (go_at_call 39; (refine (plus_any A B _ _ _ (HN1.out.below (Below.refl _ _).drew) (HN2.out.below (Below.refl _ _).drew) (by have := HA.out; omega) (by have := HBB.out; omega)).mono ?_); rintro e wD' ⟨vE, rfl, hvE, hbD⟩)
    | (go_at_call 38; (refine (reduced_any _ (A + B) C _ _ _ hvE (HC3.out.below (ext_trans (show Below W2.heap.size W2 W2.drew from (Below.refl _ _).drew) hbD)) HP.out (by have := HA.out; have := HBB.out; have := HS.out; omega) (by have := HC.out; omega)).mono ?_); rintro e wE ⟨vF, rfl, hvF, hbE⟩; obtain ⟨a5, c5, a6, c6, rfl, n5, n6⟩ := IsRat.opened hvF))
  have hE := ext_trans hbD hbE
  have hRB := RB.keep (a := W2.drew) HB2.out hE hl32
  obtain ⟨g0, g1, g2, f0', f1', f2'⟩ := hRB.cell
  have hx := hWe.trans (hE.mono hWe.size)
  have hBl := hRB.lt
  have He' := He.out sx (A + B) (by have e : sx = sy := (by simpa using Hs.out); rw [← e]; exact sg_add sx A B)
  generalize mkQ sx (A + B) C = q at *
  subst He'
  go_wp2_with fail
  refine bodyPost_ret (v := .agg #[.bool (decide ((x + y).num < 0)), .slice a5 (dig b64 (x + y).num.natAbs).length _, .slice a6 (dig b64 (dn (x + y).den)).length _]) (by simp [results, Tryz.results21, go_sem, g0, g1, g2]; first | done | exact ⟨rfl, rfl⟩ | rfl) rfl ⟨_, rfl, ?_, below_store3 hx (by omega)⟩
  exact IsRat.stored hRB n5 n6 rfl rfl
 ·
  have hs' : (sx == sy) = false := by simpa using hs
  have Hs := Lib.hid hs'
  clear hs
  go_wp2_with fail
  refine (cmp_any A B _ _ W2 HN1.out HN2.out).mono ?_
  rintro e w' ⟨rfl, nq, rfl⟩
  have hWn : Below w.heap.size w (W2.drewN nq) := below_dn hW2 nq
  have HC4 := Lib.hid (HC3.out.below (below_dn (Below.refl W2.heap.size W2) nq))
  have HN3 := Lib.hid (HN1.out.below (below_dn (Below.refl W2.heap.size W2) nq))
  have HN4 := Lib.hid (HN2.out.below (below_dn (Below.refl W2.heap.size W2) nq))
  have HB4 : Hid (RB (W2.drewN nq) (w.heap.size + 2)) := HB2.out
  have hl34 := HB4.out.lt
  clear HB2 HN1 HN2 HC3 hW2 hl32
  have q0 : (W2.drewN nq).cell? ⟨w.heap.size, 0, none⟩ = _ := p0
  have q1 : (W2.drewN nq).cell? ⟨w.heap.size, 1, none⟩ = _ := p1
  have q2 : (W2.drewN nq).cell? ⟨w.heap.size, 2, none⟩ = _ := p2
  have q3 : (W2.drewN nq).cell? ⟨w.heap.size + 1, 0, none⟩ = _ := r0
  have q4 : (W2.drewN nq).cell? ⟨w.heap.size + 1, 1, none⟩ = _ := r1
  have q5 : (W2.drewN nq).cell? ⟨w.heap.size + 1, 2, none⟩ = _ := r2
  clear p0 p1 p2 r0 r1 r2
  have p0 := q0
  have p1 := q1
  have p2 := q2
  have r0 := q3
  have r1 := q4
  have r2 := q5
  clear q0 q1 q2 q3 q4 q5
  generalize W2.drewN nq = W3 at *
  have HC3 := HC4
  have HN1 := HN3
  have HN2 := HN4
  have HB2 := HB4
  have hl32 := hl34
  have hW2 := hWn
  clear HC4 HN3 HN4 HB4 hl34 hWn
  have hWW : W3 = W3 := rfl
  clear hWW
  by_cases hge : B ≤ A
  ·
   have hc := cmpN_ge hge
   generalize cmpN A B = c at *
   have Hge := Lib.hid hge
   clear hge
   go_wp2_with fail
   have hWe : Below w.heap.size w W3.drew := hW2.drew
   go_region_held3 (fun w' => Below w.heap.size w w' ∧ RB w' (w.heap.size + 2) ∧ w'.cell? ⟨w.heap.size, 0, none⟩ = some (.bool sx) ∧ w'.cell? ⟨w.heap.size, 1, none⟩ = some (.slice a1 (dig b64 x.num.natAbs).length c1) ∧ w'.cell? ⟨w.heap.size, 2, none⟩ = some (.slice a2 (dig b64 (dn x.den)).length c2) ∧ w'.cell? ⟨w.heap.size + 1, 0, none⟩ = some (.bool sy) ∧ w'.cell? ⟨w.heap.size + 1, 1, none⟩ = some (.slice a3 (dig b64 y.num.natAbs).length c3) ∧ w'.cell? ⟨w.heap.size + 1, 2, none⟩ = some (.slice a4 (dig b64 (dn y.den)).length c4) ∧ w'.cell? ⟨w.heap.size + 2, 0, none⟩ = some (cellOf w' ⟨w.heap.size + 2, 0, none⟩) ∧ w'.cell? ⟨w.heap.size + 2, 1, none⟩ = some (cellOf w' ⟨w.heap.size + 2, 1, none⟩) ∧ w'.cell? ⟨w.heap.size + 2, 2, none⟩ = some (cellOf w' ⟨w.heap.size + 2, 2, none⟩) ∧ w'.frozen? ⟨w.heap.size + 2, 0, none⟩ = false ∧ w'.frozen? ⟨w.heap.size + 2, 1, none⟩ = false ∧ w'.frozen? ⟨w.heap.size + 2, 2, none⟩ = false)
    (first | exact hold6 hWe p0 p1 p2 r0 r1 r2 HB2.out | exact hold6_call (Nat.le_refl _) hbE (by assumption) | exact hold6_call (Nat.le_refl _) hbD (by assumption) | exact hold6_store _ _ _ _ _ _ _ (by omega) (by omega) (by omega) (by assumption) _ rfl)
    (first
     | (go_at_call 40; (refine (minus_any A B _ _ _ (HN1.out.below (Below.refl _ _).drew) (HN2.out.below (Below.refl _ _).drew) Hge.out (by have := HA.out; omega)).mono ?_); rintro e wD' ⟨vE, rfl, hvE, hbD⟩)
     | (go_at_call 38; (refine (reduced_any _ (A - B) C _ _ _ hvE (HC3.out.below (ext_trans (show Below W3.heap.size W3 W3.drew from (Below.refl _ _).drew) hbD)) HP.out (by have := HA.out; exact Nat.le_trans (dig_length_mono b64_two (Nat.sub_le _ _)) (by omega)) (by have := HC.out; omega)).mono ?_); rintro e wE ⟨vF, rfl, hvF, hbE⟩; obtain ⟨a5, c5, a6, c6, rfl, n5, n6⟩ := IsRat.opened hvF))
   have hE := ext_trans hbD hbE
   have hRB := RB.keep (a := W3.drew) HB2.out hE hl32
   obtain ⟨g0, g1, g2, f0', f1', f2'⟩ := hRB.cell
   have hx := hWe.trans (hE.mono hWe.size)
   have hBl := hRB.lt
   have He' := He.out sx (A - B) (sg_sub Hs.out Hge.out)
   generalize mkQ sx (A - B) C = q at *
   subst He'
   go_wp2_with fail
   refine bodyPost_ret (v := .agg #[.bool (decide ((x + y).num < 0)), .slice a5 (dig b64 (x + y).num.natAbs).length _, .slice a6 (dig b64 (dn (x + y).den)).length _]) (by simp [results, Tryz.results21, go_sem, g0, g1, g2]; first | done | exact ⟨rfl, rfl⟩ | rfl) rfl ⟨_, rfl, ?_, below_store3 hx (by omega)⟩
   exact IsRat.stored hRB n5 n6 rfl rfl
  ·
   have hc := cmpN_nge hge
   generalize cmpN A B = c at *
   have Hge : Hid (A ≤ B) := Nat.le_of_lt (Nat.lt_of_not_le hge)
   clear hge
   go_wp2_with fail
   have hWe : Below w.heap.size w W3.drew := hW2.drew
   go_region_held3 (fun w' => Below w.heap.size w w' ∧ RB w' (w.heap.size + 2) ∧ w'.cell? ⟨w.heap.size, 0, none⟩ = some (.bool sx) ∧ w'.cell? ⟨w.heap.size, 1, none⟩ = some (.slice a1 (dig b64 x.num.natAbs).length c1) ∧ w'.cell? ⟨w.heap.size, 2, none⟩ = some (.slice a2 (dig b64 (dn x.den)).length c2) ∧ w'.cell? ⟨w.heap.size + 1, 0, none⟩ = some (.bool sy) ∧ w'.cell? ⟨w.heap.size + 1, 1, none⟩ = some (.slice a3 (dig b64 y.num.natAbs).length c3) ∧ w'.cell? ⟨w.heap.size + 1, 2, none⟩ = some (.slice a4 (dig b64 (dn y.den)).length c4) ∧ w'.cell? ⟨w.heap.size + 2, 0, none⟩ = some (cellOf w' ⟨w.heap.size + 2, 0, none⟩) ∧ w'.cell? ⟨w.heap.size + 2, 1, none⟩ = some (cellOf w' ⟨w.heap.size + 2, 1, none⟩) ∧ w'.cell? ⟨w.heap.size + 2, 2, none⟩ = some (cellOf w' ⟨w.heap.size + 2, 2, none⟩) ∧ w'.frozen? ⟨w.heap.size + 2, 0, none⟩ = false ∧ w'.frozen? ⟨w.heap.size + 2, 1, none⟩ = false ∧ w'.frozen? ⟨w.heap.size + 2, 2, none⟩ = false)
    (first | exact hold6 hWe p0 p1 p2 r0 r1 r2 HB2.out | exact hold6_call (Nat.le_refl _) hbE (by assumption) | exact hold6_call (Nat.le_refl _) hbD (by assumption) | exact hold6_store _ _ _ _ _ _ _ (by omega) (by omega) (by omega) (by assumption) _ rfl)
    (first
     | (go_at_call 40; (refine (minus_any B A _ _ _ (HN2.out.below (Below.refl _ _).drew) (HN1.out.below (Below.refl _ _).drew) Hge.out (by have := HBB.out; omega)).mono ?_); rintro e wD' ⟨vE, rfl, hvE, hbD⟩)
     | (go_at_call 38; (refine (reduced_any _ (B - A) C _ _ _ hvE (HC3.out.below (ext_trans (show Below W3.heap.size W3 W3.drew from (Below.refl _ _).drew) hbD)) HP.out (by have := HBB.out; exact Nat.le_trans (dig_length_mono b64_two (Nat.sub_le _ _)) (by omega)) (by have := HC.out; omega)).mono ?_); rintro e wE ⟨vF, rfl, hvF, hbE⟩; obtain ⟨a5, c5, a6, c6, rfl, n5, n6⟩ := IsRat.opened hvF))
   have hE := ext_trans hbD hbE
   have hRB := RB.keep (a := W3.drew) HB2.out hE hl32
   obtain ⟨g0, g1, g2, f0', f1', f2'⟩ := hRB.cell
   have hx := hWe.trans (hE.mono hWe.size)
   have hBl := hRB.lt
   have He' := He.out sy (B - A) (by rw [Int.add_comm]; exact sg_sub (by have := Hs.out; cases sx <;> cases sy <;> simp_all) Hge.out)
   generalize mkQ sy (B - A) C = q at *
   subst He'
   go_wp2_with fail
   refine bodyPost_ret (v := .agg #[.bool (decide ((x + y).num < 0)), .slice a5 (dig b64 (x + y).num.natAbs).length _, .slice a6 (dig b64 (dn (x + y).den)).length _]) (by simp [results, Tryz.results21, go_sem, g0, g1, g2]; first | done | exact ⟨rfl, rfl⟩ | rfl) rfl ⟨_, rfl, ?_, below_store3 hx (by omega)⟩
   exact IsRat.stored hRB n5 n6 rfl rfl

end Go.Proofs.YtakempimcbofgaaGreat

namespace Go.Proofs.YtakempimcbofgaaGreat
open Go.RowKit

set_option maxRecDepth 100000 in
set_option maxHeartbeats 4000000 in
theorem mulRat_any (x y : Rat) (vx vy : Value) (w : World) (hx : IsRat w vx x) (hy : IsRat w vy y) (hlx : szR x 68719476736) (hly : szR y 68719476736) : Calls Tryz.prog 32 #[vx, vy] w (RetRat (x * y) w) := by
 obtain ⟨a1, c1, a2, c2, rfl, n1, n2⟩ := hx.opened
 obtain ⟨a3, c3, a4, c4, rfl, n3, n4⟩ := hy.opened
 have N1 := Lib.hid n1
 have N2 := Lib.hid n2
 have N3 := Lib.hid n3
 have N4 := Lib.hid n4
 have He := Lib.hid (mkQ_mul x y)
 have HLX := Lib.hid hlx
 have HLY := Lib.hid hly
 clear hx hy n1 n2 n3 n4 hlx hly
 go_enter Tryz.func32, Tryz.ntmps32
 go_wp2_with fail
 generalize hsx : decide (x.num < 0) = sx at *
 generalize hsy : decide (y.num < 0) = sy at *
 clear hsx hsy
 generalize hW0 : ((w.alloc (.cells #[.bool sx, .slice a1 (dig b64 x.num.natAbs).length c1, .slice a2 (dig b64 (dn x.den)).length c2] 32)).alloc (.cells #[.bool sy, .slice a3 (dig b64 y.num.natAbs).length c3, .slice a4 (dig b64 (dn y.den)).length c4] 32)).alloc (.cells #[.bool false, .slice none 0 0, .slice none 0 0] 32) = W at *
 obtain ⟨hal, hB1, hB2, hB3⟩ := boxes3 w _ _ _ _ W hW0.symm
 clear hW0
 have hW : Below w.heap.size w W.drew := hal.drew
 have p0 := blk_cell hB1 0 (.bool sx) rfl
 have p1 := blk_cell hB1 1 (.slice a1 (dig b64 x.num.natAbs).length c1) rfl
 have p2 := blk_cell hB1 2 (.slice a2 (dig b64 (dn x.den)).length c2) rfl
 have r0 := blk_cell hB2 0 (.bool sy) rfl
 have r1 := blk_cell hB2 1 (.slice a3 (dig b64 y.num.natAbs).length c3) rfl
 have r2 := blk_cell hB2 2 (.slice a4 (dig b64 (dn y.den)).length c4) rfl
 have HB : Hid (RB W (w.heap.size + 2)) := ⟨false, none, 0, 0, none, 0, 0, _, hB3⟩
 have hl3 := blk_lt hB3
 clear hB1 hB2 hB3
 go_region_held3 (fun w' => Below w.heap.size w w' ∧ RB w' (w.heap.size + 2) ∧ w'.cell? ⟨w.heap.size, 0, none⟩ = some (.bool sx) ∧ w'.cell? ⟨w.heap.size, 1, none⟩ = some (.slice a1 (dig b64 x.num.natAbs).length c1) ∧ w'.cell? ⟨w.heap.size, 2, none⟩ = some (.slice a2 (dig b64 (dn x.den)).length c2) ∧ w'.cell? ⟨w.heap.size + 1, 0, none⟩ = some (.bool sy) ∧ w'.cell? ⟨w.heap.size + 1, 1, none⟩ = some (.slice a3 (dig b64 y.num.natAbs).length c3) ∧ w'.cell? ⟨w.heap.size + 1, 2, none⟩ = some (.slice a4 (dig b64 (dn y.den)).length c4) ∧ w'.cell? ⟨w.heap.size + 2, 0, none⟩ = some (cellOf w' ⟨w.heap.size + 2, 0, none⟩) ∧ w'.cell? ⟨w.heap.size + 2, 1, none⟩ = some (cellOf w' ⟨w.heap.size + 2, 1, none⟩) ∧ w'.cell? ⟨w.heap.size + 2, 2, none⟩ = some (cellOf w' ⟨w.heap.size + 2, 2, none⟩) ∧ w'.frozen? ⟨w.heap.size + 2, 0, none⟩ = false ∧ w'.frozen? ⟨w.heap.size + 2, 1, none⟩ = false ∧ w'.frozen? ⟨w.heap.size + 2, 2, none⟩ = false)
  (first | exact hold6 hW p0 p1 p2 r0 r1 r2 HB.out | exact hold6_call (Nat.le_refl _) hbE (by assumption) | exact hold6_call (Nat.le_refl _) hbD (by assumption) | exact hold6_call (Nat.le_refl _) hbC (by assumption) | exact hold6_call (Nat.le_refl _) hbB (by assumption) | exact hold6_call (Nat.le_refl _) hbA (by assumption) | exact hold6_store _ _ _ _ _ _ _ (by omega) (by omega) (by omega) (by assumption) _ rfl)
  (first
   | (go_at_call_of 37 (Value.slice a1 (dig b64 x.num.natAbs).length c1); refine (times_any x.num.natAbs y.num.natAbs _ _ _ (N1.out.below (And.left (by assumption))) (N3.out.below (And.left (by assumption))) (by have := HLX.out.1; have := HLY.out.1; omega)).mono ?_; rintro e wA ⟨vA, rfl, hvA, hbA⟩)
   | (go_at_call_of 36 (Value.slice a2 (dig b64 (dn x.den)).length c2); (with_reducible refine (under_any x.den _ _ (N2.out.below (And.left (by assumption))) x.den_pos).mono ?_); rintro e wB ⟨vB, rfl, hvB, hbB⟩)
   | (go_at_call_of 36 (Value.slice a4 (dig b64 (dn y.den)).length c4); (with_reducible refine (under_any y.den _ _ (N4.out.below (And.left (by assumption))) y.den_pos).mono ?_); rintro e wC ⟨vC, rfl, hvC, hbC⟩)
   | (go_at_call 37; refine (times_any x.den y.den _ _ _ (hvB.below hbC) hvC (by have := HLX.out.2; have := HLY.out.2; omega)).mono ?_; rintro e wD ⟨vD, rfl, hvD, hbD⟩)
   | (go_at_call 38; refine (reduced_any _ (x.num.natAbs * y.num.natAbs) (x.den * y.den) _ _ _ (hvA.below (ext_trans hbB (ext_trans hbC hbD))) hvD (Nat.mul_pos x.den_pos y.den_pos) (by have := dig_length_mul b64_two x.num.natAbs y.num.natAbs; have := HLX.out.1; have := HLY.out.1; omega) (by have := dig_length_mul b64_two x.den y.den; have := HLX.out.2; have := HLY.out.2; omega)).mono ?_; rintro e wE ⟨vE, rfl, hvE, hbE⟩; obtain ⟨a5, c5, a6, c6, rfl, n5, n6⟩ := IsRat.opened hvE))
 have hE := ext_trans (ext_trans (ext_trans (ext_trans hbA hbB) hbC) hbD) hbE
 have hRB := RB.keep (a := W.drew) HB.out hE hl3
 obtain ⟨g0, g1, g2, f0', f1', f2'⟩ := hRB.cell
 have hx := hW.trans (hE.mono hW.size)
 have hBl := hRB.lt
 have He' := He.out
 generalize mkQ (!sx == sy) (x.num.natAbs * y.num.natAbs) (x.den * y.den) = q at *
 subst He'
 go_wp2_with fail
 refine bodyPost_ret (v := .agg #[.bool (decide ((x * y).num < 0)), .slice a5 (dig b64 (x * y).num.natAbs).length _, .slice a6 (dig b64 (dn (x * y).den)).length _]) (by simp [results, Tryz.results32, go_sem, g0, g1, g2]; first | done | exact ⟨rfl, rfl⟩ | rfl) rfl ⟨_, rfl, ?_, below_store3 hx (by omega)⟩
 exact IsRat.stored hRB n5 n6 rfl rfl

theorem mkQ_div (x y : Rat) (hy : y.num.natAbs ≠ 0) : mkQ (!(decide (x.num < 0) == decide (y.num < 0))) (x.num.natAbs * y.den) (x.den * y.num.natAbs) = x / y := by
 have hxd := x.den_pos
 have hyd := y.den_pos
 have h := new_plain (x.num * y.den) (x.den * y.num) (by
  refine Int.mul_ne_zero ?_ ?_ <;> omega)
 have e1 : (x.num * (y.den : Int)).natAbs = x.num.natAbs * y.den := by rw [Int.natAbs_mul]; rfl
 have e2 : ((x.den : Int) * y.num).natAbs = x.den * y.num.natAbs := by rw [Int.natAbs_mul]; rfl
 have e3 : decide (x.num * (y.den : Int) < 0) = decide (x.num < 0) := by
  rw [decide_eq_decide]
  constructor
  ·
   intro h
   rcases Int.lt_or_le x.num 0 with h1 | h1
   ·
    exact h1
   ·
    have := Int.mul_nonneg h1 (show (0:Int) ≤ y.den by omega); omega
  ·
   intro h; exact Int.mul_neg_of_neg_of_pos h (by omega)
 have e4 : decide ((x.den : Int) * y.num < 0) = decide (y.num < 0) := by
  rw [decide_eq_decide]
  constructor
  ·
   intro h
   rcases Int.lt_or_le y.num 0 with h1 | h1
   ·
    exact h1
   ·
    have := Int.mul_nonneg (show (0:Int) ≤ x.den by omega) h1; omega
  ·
   intro h; exact Int.mul_neg_of_pos_of_neg (by omega) h
 rw [e1, e2, e3, e4] at h
 rw [show (!(decide (x.num < 0) == decide (y.num < 0))) = (decide (x.num < 0) != decide (y.num < 0)) from rfl, h]
 have hx : x = Rat.divInt x.num x.den := (Rat.num_divInt_den x).symm
 have hy2 : y = Rat.divInt y.num y.den := (Rat.num_divInt_den y).symm
 conv => rhs; rw [hx, hy2]
 rw [← Rat.divInt_eq_div, Rat.div_def, Rat.inv_divInt, Rat.divInt_mul_divInt]

set_option maxRecDepth 100000 in
set_option maxHeartbeats 4000000 in
theorem byRat_any (x y : Rat) (vx vy : Value) (w : World) (hx : IsRat w vx x) (hy : IsRat w vy y) (hlx : szR x 68719476736) (hly : szR y 68719476736) (hy0 : y.num.natAbs ≠ 0) : Calls Tryz.prog 35 #[vx, vy] w (RetRat (x / y) w) := by
 obtain ⟨a1, c1, a2, c2, rfl, n1, n2⟩ := hx.opened
 obtain ⟨a3, c3, a4, c4, rfl, n3, n4⟩ := hy.opened
 have N1 := Lib.hid n1
 have N2 := Lib.hid n2
 have N3 := Lib.hid n3
 have N4 := Lib.hid n4
 have He := Lib.hid (mkQ_div x y hy0)
 have HY0 : Hid (0 < y.num.natAbs) := Nat.pos_of_ne_zero hy0
 clear hy0
 have HLX := Lib.hid hlx
 have HLY := Lib.hid hly
 clear hx hy n1 n2 n3 n4 hlx hly
 go_enter Tryz.func35, Tryz.ntmps35
 go_wp2_with fail
 generalize hsx : decide (x.num < 0) = sx at *
 generalize hsy : decide (y.num < 0) = sy at *
 clear hsx hsy
 generalize hW0 : ((w.alloc (.cells #[.bool sx, .slice a1 (dig b64 x.num.natAbs).length c1, .slice a2 (dig b64 (dn x.den)).length c2] 32)).alloc (.cells #[.bool sy, .slice a3 (dig b64 y.num.natAbs).length c3, .slice a4 (dig b64 (dn y.den)).length c4] 32)).alloc (.cells #[.bool false, .slice none 0 0, .slice none 0 0] 32) = W at *
 obtain ⟨hal, hB1, hB2, hB3⟩ := boxes3 w _ _ _ _ W hW0.symm
 clear hW0
 have hW : Below w.heap.size w W.drew := hal.drew
 have p0 := blk_cell hB1 0 (.bool sx) rfl
 have p1 := blk_cell hB1 1 (.slice a1 (dig b64 x.num.natAbs).length c1) rfl
 have p2 := blk_cell hB1 2 (.slice a2 (dig b64 (dn x.den)).length c2) rfl
 have r0 := blk_cell hB2 0 (.bool sy) rfl
 have r1 := blk_cell hB2 1 (.slice a3 (dig b64 y.num.natAbs).length c3) rfl
 have r2 := blk_cell hB2 2 (.slice a4 (dig b64 (dn y.den)).length c4) rfl
 have HB : Hid (RB W (w.heap.size + 2)) := ⟨false, none, 0, 0, none, 0, 0, _, hB3⟩
 have hl3 := blk_lt hB3
 clear hB1 hB2 hB3
 go_region_held3 (fun w' => Below w.heap.size w w' ∧ RB w' (w.heap.size + 2) ∧ w'.cell? ⟨w.heap.size, 0, none⟩ = some (.bool sx) ∧ w'.cell? ⟨w.heap.size, 1, none⟩ = some (.slice a1 (dig b64 x.num.natAbs).length c1) ∧ w'.cell? ⟨w.heap.size, 2, none⟩ = some (.slice a2 (dig b64 (dn x.den)).length c2) ∧ w'.cell? ⟨w.heap.size + 1, 0, none⟩ = some (.bool sy) ∧ w'.cell? ⟨w.heap.size + 1, 1, none⟩ = some (.slice a3 (dig b64 y.num.natAbs).length c3) ∧ w'.cell? ⟨w.heap.size + 1, 2, none⟩ = some (.slice a4 (dig b64 (dn y.den)).length c4) ∧ w'.cell? ⟨w.heap.size + 2, 0, none⟩ = some (cellOf w' ⟨w.heap.size + 2, 0, none⟩) ∧ w'.cell? ⟨w.heap.size + 2, 1, none⟩ = some (cellOf w' ⟨w.heap.size + 2, 1, none⟩) ∧ w'.cell? ⟨w.heap.size + 2, 2, none⟩ = some (cellOf w' ⟨w.heap.size + 2, 2, none⟩) ∧ w'.frozen? ⟨w.heap.size + 2, 0, none⟩ = false ∧ w'.frozen? ⟨w.heap.size + 2, 1, none⟩ = false ∧ w'.frozen? ⟨w.heap.size + 2, 2, none⟩ = false)
  (first | exact hold6 hW p0 p1 p2 r0 r1 r2 HB.out | exact hold6_call (Nat.le_refl _) hbE (by assumption) | exact hold6_call (Nat.le_refl _) hbD (by assumption) | exact hold6_call (Nat.le_refl _) hbC (by assumption) | exact hold6_call (Nat.le_refl _) hbB (by assumption) | exact hold6_call (Nat.le_refl _) hbA (by assumption) | exact hold6_store _ _ _ _ _ _ _ (by omega) (by omega) (by omega) (by assumption) _ rfl)
  (first
   | (go_at_call_of 36 (Value.slice a4 (dig b64 (dn y.den)).length c4); (with_reducible refine (under_any y.den _ _ (N4.out.below (And.left (by assumption))) y.den_pos).mono ?_); rintro e wA ⟨vA, rfl, hvA, hbA⟩)
   | (go_at_call_of 37 (Value.slice a1 (dig b64 x.num.natAbs).length c1); refine (times_any x.num.natAbs y.den _ _ _ (N1.out.below (And.left (by assumption))) hvA (by have := HLX.out.1; have := HLY.out.2; omega)).mono ?_; rintro e wB ⟨vB, rfl, hvB, hbB⟩)
   | (go_at_call_of 36 (Value.slice a2 (dig b64 (dn x.den)).length c2); (with_reducible refine (under_any x.den _ _ (N2.out.below (And.left (by assumption))) x.den_pos).mono ?_); rintro e wC ⟨vC, rfl, hvC, hbC⟩)
   | (go_at_call 37; refine (times_any x.den y.num.natAbs _ _ _ hvC (N3.out.below (And.left (by assumption))) (by have := HLX.out.2; have := HLY.out.1; omega)).mono ?_; rintro e wD ⟨vD, rfl, hvD, hbD⟩)
   | (go_at_call 38; refine (reduced_any _ (x.num.natAbs * y.den) (x.den * y.num.natAbs) _ _ _ (hvB.below (ext_trans hbC hbD)) hvD (Nat.mul_pos x.den_pos HY0.out) (by have := dig_length_mul b64_two x.num.natAbs y.den; have := HLX.out.1; have := HLY.out.2; omega) (by have := dig_length_mul b64_two x.den y.num.natAbs; have := HLX.out.2; have := HLY.out.1; omega)).mono ?_; rintro e wE ⟨vE, rfl, hvE, hbE⟩; obtain ⟨a5, c5, a6, c6, rfl, n5, n6⟩ := IsRat.opened hvE))
 have hE := ext_trans (ext_trans (ext_trans (ext_trans hbA hbB) hbC) hbD) hbE
 have hRB := RB.keep (a := W.drew) HB.out hE hl3
 obtain ⟨g0, g1, g2, f0', f1', f2'⟩ := hRB.cell
 have hx := hW.trans (hE.mono hW.size)
 have hBl := hRB.lt
 have He' := He.out
 generalize mkQ (!sx == sy) (x.num.natAbs * y.den) (x.den * y.num.natAbs) = q at *
 subst He'
 go_wp2_with fail
 refine bodyPost_ret (v := .agg #[.bool (decide ((x / y).num < 0)), .slice a5 (dig b64 (x / y).num.natAbs).length _, .slice a6 (dig b64 (dn (x / y).den)).length _]) (by simp [results, Tryz.results35, go_sem, g0, g1, g2]; first | done | exact ⟨rfl, rfl⟩ | rfl) rfl ⟨_, rfl, ?_, below_store3 hx (by omega)⟩
 exact IsRat.stored hRB n5 n6 rfl rfl


end Go.Proofs.YtakempimcbofgaaGreat

namespace Go.Proofs.YtakempimcbofgaaGreat
open Go.RowKit

theorem mkQ_szR_sz (s : Bool) (n d k : Nat) (hd : 0 < d) (h1 : (dig b64 n).length ≤ k) (h2 : (dig b64 d).length ≤ k) : szR (mkQ s n d) k := by
 unfold szR
 rw [mkQ_num s n d hd, mkQ_den s n d hd]
 exact ⟨Nat.le_trans (dig_length_mono b64_two (Nat.div_le_self _ _)) h1, Nat.le_trans (dig_length_mono b64_two (Nat.div_le_self _ _)) h2⟩
theorem szR_mul {x y : Rat} {j k : Nat} (hx : szR x j) (hy : szR y k) : szR (x * y) (j + k) := by
 rw [← mkQ_mul]
 have h1 := dig_length_mul b64_two x.num.natAbs y.num.natAbs
 have h2 := dig_length_mul b64_two x.den y.den
 have := hx.1; have := hx.2; have := hy.1; have := hy.2
 exact mkQ_szR_sz _ _ _ _ (Nat.mul_pos x.den_pos y.den_pos) (by omega) (by omega)
theorem szR_div {x y : Rat} {j k : Nat} (hx : szR x j) (hy : szR y k) (h0 : y.num.natAbs ≠ 0) : szR (x / y) (j + k) := by
 rw [← mkQ_div x y h0]
 have h1 := dig_length_mul b64_two x.num.natAbs y.den
 have h2 := dig_length_mul b64_two x.den y.num.natAbs
 have := hx.1; have := hx.2; have := hy.1; have := hy.2
 exact mkQ_szR_sz _ _ _ _ (Nat.mul_pos x.den_pos (Nat.pos_of_ne_zero h0)) (by omega) (by omega)
theorem szR_neg {x : Rat} {j : Nat} (hx : szR x j) : szR (-x) j := ⟨by rw [natAbs_neg_num]; exact hx.1, hx.2⟩
theorem szR_mono {x : Rat} {j k : Nat} (h : szR x j) (hjk : j ≤ k) : szR x k := ⟨Nat.le_trans h.1 hjk, Nat.le_trans h.2 hjk⟩
theorem szR_add {x y : Rat} {j k : Nat} (hx : szR x j) (hy : szR y k) : szR (x + y) (j + k + 1) := by
 have hz : ∃ (s : Bool) (n : Nat), sg s n = sg (decide (x.num < 0)) (x.num.natAbs * y.den) + sg (decide (y.num < 0)) (y.num.natAbs * x.den) ∧ n ≤ x.num.natAbs * y.den + y.num.natAbs * x.den := by
  generalize hz : sg (decide (x.num < 0)) (x.num.natAbs * y.den) + sg (decide (y.num < 0)) (y.num.natAbs * x.den) = z
  refine ⟨decide (z < 0), z.natAbs, ?_, ?_⟩
  ·
   unfold sg
   by_cases h : z < 0
   ·
    simp [h]; omega
   ·
    simp [h]; omega
  ·
   have e1 := sg_natAbs (decide (x.num < 0)) (x.num.natAbs * y.den)
   have e2 := sg_natAbs (decide (y.num < 0)) (y.num.natAbs * x.den)
   omega
 obtain ⟨s, n, h, hn⟩ := hz
 rw [← mkQ_add x y s n h]
 have h1 := dig_length_mul b64_two x.num.natAbs y.den
 have h2 := dig_length_mul b64_two y.num.natAbs x.den
 have h3 := dig_length_mul b64_two x.den y.den
 have := hx.1; have := hx.2; have := hy.1; have := hy.2
 have h4 := dig_length_add b64_two (x.num.natAbs * y.den) (y.num.natAbs * x.den) (j + k) (by omega) (by omega)
 exact mkQ_szR_sz _ _ _ _ (Nat.mul_pos x.den_pos y.den_pos) (Nat.le_trans (dig_length_mono b64_two hn) h4) (by omega)
theorem szR_sub {x y : Rat} {j k : Nat} (hx : szR x j) (hy : szR y k) : szR (x - y) (j + k + 1) := by
 rw [Rat.sub_eq_add_neg]
 exact szR_add hx (szR_neg hy)
theorem szR_int {n : Int} {k : Nat} (h : n.natAbs < b64 ^ k) (hk : 1 ≤ k) : szR (n : Rat) k := by
 refine ⟨dig_length_le b64_two k _ (by simpa using h), Nat.le_trans (dig_length_le b64_two 1 _ ?_) hk⟩
 simp
 unfold b64
 omega

end Go.Proofs.YtakempimcbofgaaGreat

namespace Go.Proofs.YtakempimcbofgaaGreat

abbrev Pt := Int × Int
def crossI (a b c : Pt) : Int := (b.1 - a.1) * (c.2 - a.2) - (b.2 - a.2) * (c.1 - a.1)
def turnI (d p : Pt) : Pt := (d.1 * p.1 + d.2 * p.2, d.1 * p.2 - d.2 * p.1)
def inL (n lo hi : Int) : Bool := decide (lo ≤ n) && decide (n ≤ hi)
def far : Int := 4398046511104
def ptOk (p : Pt) : Bool := inL p.1 (-far) far && inL p.2 (-far) far
def ptAt (l : List Pt) (i : Nat) : Pt := l.getD i (0, 0)
def ptsOk (l : List Pt) : Bool := l.all ptOk
theorem ptsOk_take (l : List Pt) (i : Nat) (hi : i < l.length) : ptsOk (l.take (i + 1)) = (ptsOk (l.take i) && ptOk (ptAt l i)) := by
 unfold ptsOk ptAt
 rw [List.take_add_one, List.all_append]
 simp [hi]
theorem ptsOk_get {l : List Pt} (h : ptsOk l = true) (i : Nat) (hi : i < l.length) : ptOk (ptAt l i) = true := by
 unfold ptsOk at h
 rw [List.all_eq_true] at h
 unfold ptAt
 have e : l.getD i (0, 0) = l[i] := by simp [hi]
 rw [e]
 exact h _ (List.getElem_mem hi)
theorem ptOk_range {p : Pt} (h : ptOk p = true) : (-far ≤ p.1 ∧ p.1 ≤ far) ∧ -far ≤ p.2 ∧ p.2 ≤ far := by
 simpa [ptOk, inL] using h
theorem mul_absI {a b A B : Int} (ha : -A ≤ a ∧ a ≤ A) (hb : -B ≤ b ∧ b ≤ B) : -(A * B) ≤ a * b ∧ a * b ≤ A * B := by
 have hA : 0 ≤ A := by omega
 have h1 : (a * b).natAbs ≤ (A * B).natAbs := by
  rw [Int.natAbs_mul, Int.natAbs_mul]
  exact Nat.mul_le_mul (by omega) (by omega)
 have h2 : 0 ≤ A * B := Int.mul_nonneg hA (by omega)
 omega

def Round3 (l : List Pt) : Prop := ∀ k, k < l.length → ∀ j, j < k → ∀ i, i < j → 0 < crossI (ptAt l i) (ptAt l j) (ptAt l k)
open Classical in
noncomputable def outErr (l : List Pt) : Int := if l.length < 3 ∨ 16 < l.length then 4 else if ptsOk l = false then 1 else if Round3 l then 0 else 7

def edgeI (l : List Pt) (i : Nat) : Int := (ptAt l i).1 * (ptAt l ((i + 1) % l.length)).2 - (ptAt l i).2 * (ptAt l ((i + 1) % l.length)).1
def areaTo (l : List Pt) : Nat → Int
 | 0 => 0
 | i + 1 => areaTo l i + edgeI l i
def areaI (l : List Pt) : Int := areaTo l l.length

end Go.Proofs.YtakempimcbofgaaGreat

namespace Go.Proofs.YtakempimcbofgaaGreat

def dirB (d : Pt) : Bool := !(d.1 == 0 && d.2 == 0) && (inL d.1 (-1048576) 1048576 && inL d.2 (-1048576) 1048576)
def turnB (d p : Pt) : Bool := dirB d && (inL p.1 (-1048576) 1048576 && inL p.2 (-1048576) 1048576)
def backB (d p : Pt) : Bool := dirB d && ptOk p
def sqI (d : Pt) : Int := d.1 * d.1 + d.2 * d.2
def backX (d p : Pt) : Rat := ((d.1 * p.1 - d.2 * p.2 : Int) : Rat) / ((sqI d : Int) : Rat)
def backY (d p : Pt) : Rat := ((d.2 * p.1 + d.1 * p.2 : Int) : Rat) / ((sqI d : Int) : Rat)
theorem inL_range {n lo hi : Int} (h : inL n lo hi = true) : lo ≤ n ∧ n ≤ hi := by simpa [inL] using h
theorem sq_nonneg (a : Int) : 0 ≤ a * a := by
 rcases Int.le_total 0 a with h | h
 ·
  exact Int.mul_nonneg h h
 ·
  exact Int.mul_nonneg_of_nonpos_of_nonpos h h
theorem sq_pos {a : Int} (h : a ≠ 0) : 0 < a * a := by
 rcases Int.lt_or_gt_of_ne h with h | h
 ·
  exact Int.mul_pos_of_neg_of_neg h h
 ·
  exact Int.mul_pos h h
theorem dir_ne {d : Pt} (h : dirB d = true) : d.1 ≠ 0 ∨ d.2 ≠ 0 := by
 unfold dirB at h
 rcases Decidable.em (d.1 = 0) with c | c
 ·
  rcases Decidable.em (d.2 = 0) with c2 | c2
  ·
   simp [c, c2] at h
  ·
   exact .inr c2
 ·
  exact .inl c
theorem dir_sq {d : Pt} (h : dirB d = true) : 0 < sqI d := by
 unfold sqI
 have a := sq_nonneg d.1
 have b := sq_nonneg d.2
 rcases dir_ne h with c | c
 ·
  have := sq_pos c; omega
 ·
  have := sq_pos c; omega
theorem dir_range {d : Pt} (h : dirB d = true) : (-1048576 ≤ d.1 ∧ d.1 ≤ 1048576) ∧ -1048576 ≤ d.2 ∧ d.2 ≤ 1048576 := by
 unfold dirB at h
 simp only [Bool.and_eq_true] at h
 exact ⟨inL_range h.2.1, inL_range h.2.2⟩
theorem mul_absT {a b A B : Int} (ha : -A ≤ a ∧ a ≤ A) (hb : -B ≤ b ∧ b ≤ B) : -(A * B) ≤ a * b ∧ a * b ≤ A * B := by
 have hA : 0 ≤ A := by omega
 have hB : 0 ≤ B := by omega
 have h1 : (A - a) * (B + b) ≥ 0 := Int.mul_nonneg (by omega) (by omega)
 have h2 : (A + a) * (B - b) ≥ 0 := Int.mul_nonneg (by omega) (by omega)
 have h3 : (A - a) * (B - b) ≥ 0 := Int.mul_nonneg (by omega) (by omega)
 have h4 : (A + a) * (B + b) ≥ 0 := Int.mul_nonneg (by omega) (by omega)
 constructor <;> grind
theorem turn_ok {d p : Pt} (h : turnB d p = true) : backB d (turnI d p) = true := by
 unfold turnB at h
 simp only [Bool.and_eq_true] at h
 obtain ⟨hd, h1, h2⟩ := h
 obtain ⟨a, b⟩ := dir_range hd
 have x := inL_range h1
 have y := inL_range h2
 unfold backB ptOk
 rw [hd]
 have m1 := mul_absT a x
 have m2 := mul_absT b y
 have m3 := mul_absT a y
 have m4 := mul_absT b x
 unfold turnI inL far
 simp only [Bool.true_and, Bool.and_eq_true, decide_eq_true_eq]
 omega
theorem back_turnX {d p : Pt} (h : dirB d = true) : backX d (turnI d p) = ((p.1 : Int) : Rat) := by
 have hs := dir_sq h
 have hn : ((sqI d : Int) : Rat) ≠ 0 := by
  intro e
  have : sqI d = 0 := by exact_mod_cast e
  omega
 unfold backX turnI
 dsimp only
 rw [show d.1 * (d.1 * p.1 + d.2 * p.2) - d.2 * (d.1 * p.2 - d.2 * p.1) = p.1 * sqI d by unfold sqI; grind, Rat.intCast_mul]
 exact Rat.mul_div_cancel hn
theorem back_turnY {d p : Pt} (h : dirB d = true) : backY d (turnI d p) = ((p.2 : Int) : Rat) := by
 have hs := dir_sq h
 have hn : ((sqI d : Int) : Rat) ≠ 0 := by
  intro e
  have : sqI d = 0 := by exact_mod_cast e
  omega
 unfold backY turnI
 dsimp only
 rw [show d.2 * (d.1 * p.1 + d.2 * p.2) + d.1 * (d.1 * p.2 - d.2 * p.1) = p.2 * sqI d by unfold sqI; grind, Rat.intCast_mul]
 exact Rat.mul_div_cancel hn
def errB (b : Bool) : Int := cond b 0 1
def dirE (d : Pt) : Int := errB (dirB d)
def det2 (a b c d : Rat) : Rat := a * d - c * b
theorem det_walk (a b c d : Rat) : 0 + -(c * (0 + b * 1)) + d * (0 + a * 1) = det2 a b c d := by
 unfold det2
 grind
theorem det_sq (d : Pt) : det2 (d.1 : Int) (d.2 : Int) ((-d.2 : Int) : Rat) (d.1 : Int) = ((sqI d : Int) : Rat) := by
 unfold det2 sqI
 rw [← Rat.intCast_mul, ← Rat.intCast_mul, ← Rat.intCast_sub]
 congr 1
 grind
theorem det_x (d p : Pt) : det2 (p.1 : Int) (d.2 : Int) (p.2 : Int) (d.1 : Int) = ((d.1 * p.1 - d.2 * p.2 : Int) : Rat) := by
 unfold det2
 rw [← Rat.intCast_mul, ← Rat.intCast_mul, ← Rat.intCast_sub]
 congr 1
 grind
theorem det_y (d p : Pt) : det2 (d.1 : Int) (p.1 : Int) ((-d.2 : Int) : Rat) (p.2 : Int) = ((d.2 * p.1 + d.1 * p.2 : Int) : Rat) := by
 unfold det2
 rw [← Rat.intCast_mul, ← Rat.intCast_mul, ← Rat.intCast_sub]
 congr 1
 grind

end Go.Proofs.YtakempimcbofgaaGreat

namespace Go.Proofs.YtakempimcbofgaaGreat
open Go.RowKit

set_option maxHeartbeats 2000000 in
theorem negRat_any (x : Rat) (vx : Value) (w : World) (hx : IsRat w vx x) : Calls Tryz.prog 122 #[vx] w (RetRat (-x) w) := by
 obtain ⟨a1, c1, a2, c2, rfl, n1, n2⟩ := hx.opened
 have N1 := Lib.hid n1
 have N2 := Lib.hid n2
 have He := Lib.hid (neg_lt_num x)
 clear hx n1 n2
 go_enter Tryz.func122, Tryz.ntmps122
 go_wp2_with fail
 generalize hneg : decide (x.num < 0) = neg at *
 have hal : Below w.heap.size w ((w.alloc (.cells #[.bool neg, .slice a1 (dig b64 x.num.natAbs).length c1, .slice a2 (dig b64 (dn x.den)).length c2] 32)).alloc (.cells #[.bool false, .slice none 0 0, .slice none 0 0] 32)) :=
  ((Below.refl _ _).alloc (Nat.le_refl _) _).alloc (by simp) _
 have hB1 := (blk_keep (blk_new w #[.bool neg, .slice a1 (dig b64 x.num.natAbs).length c1, .slice a2 (dig b64 (dn x.den)).length c2] 32) ((Below.refl _ _).alloc (Nat.le_refl _) (.cells #[.bool false, .slice none 0 0, .slice none 0 0] 32)) (by simp))
 have hB2 := blk_new (w.alloc (.cells #[.bool neg, .slice a1 (dig b64 x.num.natAbs).length c1, .slice a2 (dig b64 (dn x.den)).length c2] 32)) #[.bool false, .slice none 0 0, .slice none 0 0] 32
 rw [World.size_alloc] at hB2
 generalize ((w.alloc (.cells #[.bool neg, .slice a1 (dig b64 x.num.natAbs).length c1, .slice a2 (dig b64 (dn x.den)).length c2] 32)).alloc (.cells #[.bool false, .slice none 0 0, .slice none 0 0] 32)) = W at *
 have p0 := blk_cell hB1 0 (.bool neg) rfl
 have p1 := blk_cell hB1 1 (.slice a1 (dig b64 x.num.natAbs).length c1) rfl
 have p2 := blk_cell hB1 2 (.slice a2 (dig b64 (dn x.den)).length c2) rfl
 have hl1 := blk_lt hB1
 have hl2 := blk_lt hB2
 have e0 := blk_cell hB2 0 (.bool false) rfl
 have e1 := blk_cell hB2 1 (.slice none 0 0) rfl
 have e2 := blk_cell hB2 2 (.slice none 0 0) rfl
 have f0 := blk_frozen hB2 0
 have f1 := blk_frozen hB2 1
 have f2 := blk_frozen hB2 2
 have HB : Hid (RB W (w.heap.size + 1)) := ⟨false, none, 0, 0, none, 0, 0, _, hB2⟩
 clear hB1 hB2
 have hW : Below w.heap.size w W.drew := hal.drew
 cases neg with
 | true =>
  go_region
  go_wp2_with fail
  refine bodyPost_ret (v := .agg #[.bool false, .slice a1 (dig b64 x.num.natAbs).length _, .slice a2 (dig b64 (dn x.den)).length _]) (by simp [results, Tryz.results122, go_sem, e0, e1, e2]; first | done | exact ⟨rfl, rfl⟩ | rfl) rfl ⟨_, rfl, ?_, below_store3 hW (by omega)⟩
  exact IsRat.stored (w := W.drew) HB.out (N1.out.below hW) (N2.out.below hW) He.out (natAbs_neg_num x)
 | false =>
  by_cases h0 : x.num.natAbs = 0
  ·
   have t0 : Hid (decide (x.num.natAbs = 0) = true) := decide_eq_true h0
   clear h0
   go_region_held3 (fun w' => Below w.heap.size w w' ∧ RB w' (w.heap.size + 1) ∧ w'.cell? ⟨w.heap.size, 0, none⟩ = some (.bool false) ∧ w'.cell? ⟨w.heap.size, 1, none⟩ = some (.slice a1 (dig b64 x.num.natAbs).length c1) ∧ w'.cell? ⟨w.heap.size, 2, none⟩ = some (.slice a2 (dig b64 (dn x.den)).length c2) ∧
     w'.cell? ⟨w.heap.size + 1, 0, none⟩ = some (cellOf w' ⟨w.heap.size + 1, 0, none⟩) ∧ w'.cell? ⟨w.heap.size + 1, 1, none⟩ = some (cellOf w' ⟨w.heap.size + 1, 1, none⟩) ∧ w'.cell? ⟨w.heap.size + 1, 2, none⟩ = some (cellOf w' ⟨w.heap.size + 1, 2, none⟩) ∧
     w'.frozen? ⟨w.heap.size + 1, 0, none⟩ = false ∧ w'.frozen? ⟨w.heap.size + 1, 1, none⟩ = false ∧ w'.frozen? ⟨w.heap.size + 1, 2, none⟩ = false)
    (first | exact hold3 hW p0 p1 p2 HB.out | exact hold3_call (Nat.le_refl _) hb' (by assumption) | exact hold3_store _ _ _ _ _ _ _ (Nat.le_succ _) (Nat.ne_of_lt (Nat.lt_succ_self _)) (by assumption) _ rfl)
    (first | (go_at_call 34; refine (zero_any _ _ x.num.natAbs _ _ _ _ _).mono ?_; rw [t0.out]; rintro e w' ⟨rfl, hb'⟩))
   have hRB := RB.keep (a := W.drew) HB.out hb' hl2
   obtain ⟨c0, c1, c2, f0', f1', f2'⟩ := hRB.cell
   have hx := hW.trans (hb'.mono hW.size)
   have hBl := hRB.lt
   go_wp2_with fail
   refine bodyPost_ret (v := .agg #[.bool false, .slice a1 (dig b64 x.num.natAbs).length _, .slice a2 (dig b64 (dn x.den)).length _]) (by simp [results, Tryz.results122, go_sem, c0, c1, c2]; first | done | exact ⟨rfl, rfl⟩ | rfl) rfl ⟨_, rfl, ?_, below_store3 hx (by omega)⟩
   exact IsRat.stored hRB (N1.out.below hx) (N2.out.below hx) (by rw [He.out, t0.out]; rfl) (natAbs_neg_num x)
  ·
   have t0 : Hid (decide (x.num.natAbs = 0) = false) := decide_eq_false h0
   clear h0
   go_region_held3 (fun w' => Below w.heap.size w w' ∧ RB w' (w.heap.size + 1) ∧ w'.cell? ⟨w.heap.size, 0, none⟩ = some (.bool false) ∧ w'.cell? ⟨w.heap.size, 1, none⟩ = some (.slice a1 (dig b64 x.num.natAbs).length c1) ∧ w'.cell? ⟨w.heap.size, 2, none⟩ = some (.slice a2 (dig b64 (dn x.den)).length c2) ∧
     w'.cell? ⟨w.heap.size + 1, 0, none⟩ = some (cellOf w' ⟨w.heap.size + 1, 0, none⟩) ∧ w'.cell? ⟨w.heap.size + 1, 1, none⟩ = some (cellOf w' ⟨w.heap.size + 1, 1, none⟩) ∧ w'.cell? ⟨w.heap.size + 1, 2, none⟩ = some (cellOf w' ⟨w.heap.size + 1, 2, none⟩) ∧
     w'.frozen? ⟨w.heap.size + 1, 0, none⟩ = false ∧ w'.frozen? ⟨w.heap.size + 1, 1, none⟩ = false ∧ w'.frozen? ⟨w.heap.size + 1, 2, none⟩ = false)
    (first | exact hold3 hW p0 p1 p2 HB.out | exact hold3_call (Nat.le_refl _) hb' (by assumption) | exact hold3_store _ _ _ _ _ _ _ (Nat.le_succ _) (Nat.ne_of_lt (Nat.lt_succ_self _)) (by assumption) _ rfl)
    (first | (go_at_call 34; refine (zero_any _ _ x.num.natAbs _ _ _ _ _).mono ?_; rw [t0.out]; rintro e w' ⟨rfl, hb'⟩))
   have hRB := RB.keep (a := W.drew) HB.out hb' hl2
   obtain ⟨c0, c1, c2, f0', f1', f2'⟩ := hRB.cell
   have hx := hW.trans (hb'.mono hW.size)
   have hBl := hRB.lt
   go_wp2_with fail
   refine bodyPost_ret (v := .agg #[.bool true, .slice a1 (dig b64 x.num.natAbs).length _, .slice a2 (dig b64 (dn x.den)).length _]) (by simp [results, Tryz.results122, go_sem, c0, c1, c2]; first | done | exact ⟨rfl, rfl⟩ | rfl) rfl ⟨_, rfl, ?_, below_store3 hx (by omega)⟩
   exact IsRat.stored hRB (N1.out.below hx) (N2.out.below hx) (by rw [He.out, t0.out]; rfl) (natAbs_neg_num x)

set_option maxRecDepth 100000 in
theorem method_neg (b : Bool) (x y : Option Addr) (i j k l : Nat) (w : World) : (method 265 32 (.agg #[.bool b, .slice x i j, .slice y k l]) "Neg").run Tryz.prog w = .ok (122, .agg #[.bool b, .slice x i j, .slice y k l]) w := by kernel_rfl
set_option maxRecDepth 100000 in
theorem method_add (b : Bool) (x y : Option Addr) (i j k l : Nat) (w : World) : (method 265 32 (.agg #[.bool b, .slice x i j, .slice y k l]) "Add").run Tryz.prog w = .ok (21, .agg #[.bool b, .slice x i j, .slice y k l]) w := by kernel_rfl

set_option maxRecDepth 100000 in
set_option maxHeartbeats 4000000 in
theorem lessRat_any (x y : Rat) (vx vy : Value) (w : World) (hx : IsRat w vx x) (hy : IsRat w vy y) (hlx : szR x 68719476736) (hly : szR y 68719476736) : Calls Tryz.prog 33 #[vx, vy] w (RetRat (x - y) w) := by
 have hy0 := hy
 obtain ⟨a1, c1, a2, c2, rfl, n1, n2⟩ := hx.opened
 obtain ⟨a3, c3, a4, c4, rfl, n3, n4⟩ := hy.opened
 have HX := Lib.hid hx
 have HY := Lib.hid hy
 have HLX := Lib.hid hlx
 have hln : szR (-y) 68719476736 := ⟨by rw [natAbs_neg_num]; exact hly.1, hly.2⟩
 have HLY := Lib.hid hln
 have He : Hid (x + -y = x - y) := (Rat.sub_eq_add_neg x y).symm
 clear hx hy n1 n2 n3 n4 hlx hly hln hy0
 have hmn := method_neg
 have hma := method_add
 go_enter Tryz.func33, Tryz.ntmps33
 go_wp2_with fail
 generalize hsx : decide (x.num < 0) = sx at *
 generalize hsy : decide (y.num < 0) = sy at *
 clear hsx hsy
 generalize hW0 : ((w.alloc (.cells #[.bool sx, .slice a1 (dig b64 x.num.natAbs).length c1, .slice a2 (dig b64 (dn x.den)).length c2] 32)).alloc (.cells #[.bool sy, .slice a3 (dig b64 y.num.natAbs).length c3, .slice a4 (dig b64 (dn y.den)).length c4] 32)).alloc (.cells #[.bool false, .slice none 0 0, .slice none 0 0] 32) = W at *
 obtain ⟨hal, hB1, hB2, hB3⟩ := boxes3 w _ _ _ _ W hW0.symm
 clear hW0
 have hW : Below w.heap.size w W.drew := hal.drew
 have p0 := blk_cell hB1 0 (.bool sx) rfl
 have p1 := blk_cell hB1 1 (.slice a1 (dig b64 x.num.natAbs).length c1) rfl
 have p2 := blk_cell hB1 2 (.slice a2 (dig b64 (dn x.den)).length c2) rfl
 have r0 := blk_cell hB2 0 (.bool sy) rfl
 have r1 := blk_cell hB2 1 (.slice a3 (dig b64 y.num.natAbs).length c3) rfl
 have r2 := blk_cell hB2 2 (.slice a4 (dig b64 (dn y.den)).length c4) rfl
 have HB : Hid (RB W (w.heap.size + 2)) := ⟨false, none, 0, 0, none, 0, 0, _, hB3⟩
 have hl3 := blk_lt hB3
 clear hB1 hB2 hB3
 go_region_held3 (fun w' => Below w.heap.size w w' ∧ RB w' (w.heap.size + 2) ∧ w'.cell? ⟨w.heap.size, 0, none⟩ = some (.bool sx) ∧ w'.cell? ⟨w.heap.size, 1, none⟩ = some (.slice a1 (dig b64 x.num.natAbs).length c1) ∧ w'.cell? ⟨w.heap.size, 2, none⟩ = some (.slice a2 (dig b64 (dn x.den)).length c2) ∧ w'.cell? ⟨w.heap.size + 1, 0, none⟩ = some (.bool sy) ∧ w'.cell? ⟨w.heap.size + 1, 1, none⟩ = some (.slice a3 (dig b64 y.num.natAbs).length c3) ∧ w'.cell? ⟨w.heap.size + 1, 2, none⟩ = some (.slice a4 (dig b64 (dn y.den)).length c4) ∧ w'.cell? ⟨w.heap.size + 2, 0, none⟩ = some (cellOf w' ⟨w.heap.size + 2, 0, none⟩) ∧ w'.cell? ⟨w.heap.size + 2, 1, none⟩ = some (cellOf w' ⟨w.heap.size + 2, 1, none⟩) ∧ w'.cell? ⟨w.heap.size + 2, 2, none⟩ = some (cellOf w' ⟨w.heap.size + 2, 2, none⟩) ∧ w'.frozen? ⟨w.heap.size + 2, 0, none⟩ = false ∧ w'.frozen? ⟨w.heap.size + 2, 1, none⟩ = false ∧ w'.frozen? ⟨w.heap.size + 2, 2, none⟩ = false)
  (first | exact hold6 hW p0 p1 p2 r0 r1 r2 HB.out | exact hold6_call (Nat.le_refl _) hbE (by assumption) | exact hold6_call (Nat.le_refl _) hbD (by assumption) | exact hold6_store _ _ _ _ _ _ _ (by omega) (by omega) (by omega) (by assumption) _ rfl)
  (first
   | (go_at_call 122; refine (negRat_any y _ _ (HY.out.below (And.left (by assumption)))).mono ?_; rintro e wD ⟨vD, rfl, hvD, hbD⟩)
   | (go_at_call 21; refine (addRat_any x (-y) _ _ _ (HX.out.below (And.left (by assumption))) hvD HLX.out HLY.out).mono ?_; rw [He.out]; rintro e wE ⟨vE, rfl, hvE, hbE⟩; obtain ⟨a5, c5, a6, c6, rfl, n5, n6⟩ := IsRat.opened hvE))
 have hE := ext_trans hbD hbE
 have hRB := RB.keep (a := W.drew) HB.out hE hl3
 obtain ⟨g0, g1, g2, f0', f1', f2'⟩ := hRB.cell
 have hx := hW.trans (hE.mono hW.size)
 have hBl := hRB.lt
 go_wp2_with fail
 refine bodyPost_ret (v := .agg #[.bool (decide ((x - y).num < 0)), .slice a5 (dig b64 (x - y).num.natAbs).length _, .slice a6 (dig b64 (dn (x - y).den)).length _]) (by simp [results, Tryz.results33, go_sem, g0, g1, g2]; first | done | exact ⟨rfl, rfl⟩ | rfl) rfl ⟨_, rfl, ?_, below_store3 hx (by omega)⟩
 exact IsRat.stored hRB n5 n6 rfl rfl

set_option maxRecDepth 100000 in
set_option maxHeartbeats 2000000 in
theorem subRat_any (x y : Rat) (vx vy : Value) (w : World) (hx : IsRat w vx x) (hy : IsRat w vy y) (hlx : szR x 68719476736) (hly : szR y 68719476736) : Calls Tryz.prog 19 #[vx, vy] w (RetRat (x - y) w) := by
 obtain ⟨a1, c1, a2, c2, rfl, n1, n2⟩ := hx.opened
 obtain ⟨a3, c3, a4, c4, rfl, n3, n4⟩ := hy.opened
 have HX := Lib.hid hx
 have HY := Lib.hid hy
 have HLX := Lib.hid hlx
 have HLY := Lib.hid hly
 clear hx hy n1 n2 n3 n4 hlx hly
 go_enter Tryz.func19, Tryz.ntmps19
 go_wp2_with fail
 generalize hW0 : ((w.alloc (.cells #[.bool (decide (x.num < 0)), .slice a1 (dig b64 x.num.natAbs).length c1, .slice a2 (dig b64 (dn x.den)).length c2] 32)).alloc (.cells #[.bool (decide (y.num < 0)), .slice a3 (dig b64 y.num.natAbs).length c3, .slice a4 (dig b64 (dn y.den)).length c4] 32)).alloc (.cells #[.bool false, .slice none 0 0, .slice none 0 0] 32) = W at *
 obtain ⟨hal, hB1, hB2, hB3⟩ := boxes3 w _ _ _ _ W hW0.symm
 clear hW0
 have HB : Hid (RB W (w.heap.size + 2)) := ⟨false, none, 0, 0, none, 0, 0, _, hB3⟩
 have hl3 := blk_lt hB3
 clear hB1 hB2 hB3
 refine (lessRat_any x y _ _ _ (HX.out.below hal) (HY.out.below hal) HLX.out HLY.out).mono ?_
 rintro e w3 ⟨v, rfl, hv, hb⟩
 have hRB := HB.out.keep hb hl3
 obtain ⟨a5, c5, a6, c6, rfl, n5, n6⟩ := IsRat.opened hv
 have hx := ext_trans hal hb
 obtain ⟨g0, g1, g2, f0', f1', f2'⟩ := hRB.cell
 have hBl := hRB.lt
 generalize x - y = q at *
 clear hv hb hal
 go_wp2_with fail
 refine bodyPost_ret (v := .agg #[.bool (decide (q.num < 0)), .slice a5 (dig b64 q.num.natAbs).length _, .slice a6 (dig b64 (dn q.den)).length _]) (by simp [results, Tryz.results19, go_sem, g0, g1, g2]; first | done | exact ⟨rfl, rfl⟩ | rfl) rfl ⟨_, rfl, ?_, below_store3 hx (by omega)⟩
 exact IsRat.stored hRB n5 n6 rfl rfl

end Go.Proofs.YtakempimcbofgaaGreat

namespace Go.Proofs.YtakempimcbofgaaGreat
open Go.RowKit

set_option maxHeartbeats 2000000 in
theorem lwhole_any (n : Int) (w : World) (h1 : -9223372036854775808 ≤ n) (h2 : n ≤ 9223372036854775807) : Calls Tryz.prog 17 #[.int .i64 n] w (RetRat (n : Rat) w) := by
 go_enter Tryz.func17, Tryz.ntmps17
 go_wp2_with fail
 refine (int_any n _ h1 h2).mono ?_
 rintro e w1 ⟨v, rfl, hv, hb⟩
 have hB1 := blk_keep (blk_new w #[.bool false, .slice none 0 0, .slice none 0 0] 32) hb (by simp)
 have hRB : RB w1 w.heap.size := ⟨false, none, 0, 0, none, 0, 0, _, hB1⟩
 obtain ⟨a5, c5, a6, c6, rfl, n5, n6⟩ := IsRat.opened hv
 have hx : Below w.heap.size w w1 := ((Below.refl _ _).alloc (Nat.le_refl _) _).trans (hb.mono (by simp))
 obtain ⟨g0, g1, g2, f0', f1', f2'⟩ := hRB.cell
 have hBl := hRB.lt
 generalize (n : Rat) = q at *
 go_wp2_with fail
 refine bodyPost_ret (v := .agg #[.bool (decide (q.num < 0)), .slice a5 (dig b64 q.num.natAbs).length _, .slice a6 (dig b64 (dn q.den)).length _]) (by simp [results, Tryz.results17, go_sem, g0, g1, g2]; first | done | exact ⟨rfl, rfl⟩ | rfl) rfl ⟨_, rfl, ?_, below_store3 hx (by omega)⟩
 exact IsRat.stored hRB n5 n6 rfl rfl

theorem i64_szR (n : Int) (h1 : -9223372036854775808 ≤ n) (h2 : n ≤ 9223372036854775807) (k : Nat) (hk : 1 ≤ k) : szR (n : Rat) k := szR_mono (szR_int (k := 1) (by rw [Nat.pow_one]; unfold b64; omega) (Nat.le_refl _)) hk
set_option maxHeartbeats 2000000 in
theorem lproduct_any (a b : Int) (w : World) (ha : -9223372036854775808 ≤ a ∧ a ≤ 9223372036854775807) (hb : -9223372036854775808 ≤ b ∧ b ≤ 9223372036854775807) : Calls Tryz.prog 18 #[.int .i64 a, .int .i64 b] w (RetRat ((a * b : Int) : Rat) w) := by
 have Hsa := Lib.hid (i64_szR a ha.1 ha.2 68719476736 (by omega))
 have Hsb := Lib.hid (i64_szR b hb.1 hb.2 68719476736 (by omega))
 go_enter Tryz.func18, Tryz.ntmps18
 go_wp2_with fail
 refine (lwhole_any a _ ha.1 ha.2).mono ?_
 rintro e w1 ⟨va, rfl, hva, hb1⟩
 go_wp2_with fail
 refine (lwhole_any b _ hb.1 hb.2).mono ?_
 rintro e w2 ⟨vb, rfl, hvb, hb2⟩
 go_wp2_with fail
 refine (mulRat_any (a : Rat) (b : Rat) _ _ _ (hva.below hb2) hvb Hsa.out Hsb.out).mono ?_
 rw [← Rat.intCast_mul]
 rintro e w3 ⟨v, rfl, hv, hb3⟩
 have hB1 := blk_keep (blk_keep (blk_keep (blk_new w #[.bool false, .slice none 0 0, .slice none 0 0] 32) hb1 (by simp)) hb2 (Nat.lt_of_lt_of_le (by simp) hb1.size)) hb3 (Nat.lt_of_lt_of_le (by simp) (Nat.le_trans hb1.size hb2.size))
 have hRB : RB w3 w.heap.size := ⟨false, none, 0, 0, none, 0, 0, _, hB1⟩
 obtain ⟨a5, c5, a6, c6, rfl, n5, n6⟩ := IsRat.opened hv
 have hx : Below w.heap.size w w3 := ((Below.refl _ _).alloc (Nat.le_refl _) _).trans ((ext_trans hb1 (ext_trans hb2 hb3)).mono (by simp))
 clear hva hvb hv hb1 hb2 hb3 hB1
 obtain ⟨g0, g1, g2, f0', f1', f2'⟩ := hRB.cell
 have hBl := hRB.lt
 generalize ((a * b : Int) : Rat) = q at *
 go_wp2_with fail
 refine bodyPost_ret (v := .agg #[.bool (decide (q.num < 0)), .slice a5 (dig b64 q.num.natAbs).length _, .slice a6 (dig b64 (dn q.den)).length _]) (by simp [results, Tryz.results18, go_sem, g0, g1, g2]; first | done | exact ⟨rfl, rfl⟩ | rfl) rfl ⟨_, rfl, ?_, below_store3 hx (by omega)⟩
 exact IsRat.stored hRB n5 n6 rfl rfl

set_option maxHeartbeats 1000000 in
theorem within_any (n lo hi : Int) (w : World) : Calls Tryz.prog 13 #[.int .i64 n, .int .i64 lo, .int .i64 hi] w (RetBool (inL n lo hi) w) := by
 by_cases h1 : lo ≤ n
 ·
  by_cases h2 : n ≤ hi
  ·
   have Hr : Hid (inL n lo hi = true) := by show _ = _; simp [inL, h1, h2]
   have t1 : decide (n ≥ lo) = true := decide_eq_true h1
   have t2 : decide (n ≤ hi) = true := decide_eq_true h2
   clear h1 h2
   go_enter Tryz.func13, Tryz.ntmps13
   go_wp2_with fail
   go_ret
   exact ⟨by rw [Hr.out]; rfl, Below.refl _ _⟩
  ·
   have Hr : Hid (inL n lo hi = false) := by show _ = _; simp [inL, h1, h2]
   have t1 : decide (n ≥ lo) = true := decide_eq_true h1
   have t2 : decide (n ≤ hi) = false := decide_eq_false h2
   clear h1 h2
   go_enter Tryz.func13, Tryz.ntmps13
   go_wp2_with fail
   go_ret
   exact ⟨by rw [Hr.out]; rfl, Below.refl _ _⟩
 ·
  have Hr : Hid (inL n lo hi = false) := by show _ = _; simp [inL, h1]
  have t1 : decide (n ≥ lo) = false := decide_eq_false h1
  clear h1
  go_enter Tryz.func13, Tryz.ntmps13
  go_wp2_with fail
  go_ret
  exact ⟨by rw [Hr.out]; rfl, Below.refl _ _⟩

set_option maxRecDepth 100000 in
set_option maxHeartbeats 2000000 in
theorem isRight_any (l : List Pt) (v : Value) (w : World) (h : PairsOf w v l) (hl : l.length ≤ 4611686018427387904) : Calls Tryz.prog 16 #[v] w (RetBool (ptsOk l) w) := by
 obtain ⟨ao, cap, rfl, hE⟩ := h
 have HE := Lib.hid hE
 clear hE
 go_enter Tryz.func16, Tryz.ntmps16
 go_wp2_with fail
 go_loopw [7] (fun iv wr => ∃ (i : Nat), i ≤ l.length ∧ iv = .int .i64 i ∧ ptsOk (l.take i) = true ∧ Below w.heap.size w wr) (fun iv _ => l.length - (intOf iv).toNat)
 case atStart => exact ⟨0, Nat.zero_le _, rfl, rfl, Below.refl _ _⟩
 case round =>
  obtain ⟨i, hi, rfl, hok, hbel⟩ := hrel
  have HOK := Lib.hid hok
  clear hok
  by_cases hlt : i < l.length
  ·
   obtain ⟨b, off, rfl, hbl, hLL⟩ := HE.out (by omega)
   obtain ⟨g0, g1⟩ := (hLL i hlt).below hbel hbl
   have hlt' : (i : Int) < l.length := by omega
   have hge' : (0 : Int) ≤ i := by omega
   have hbl2 : b < wr.heap.size := Nat.lt_of_lt_of_le hbl hbel.size
   have Htk := Lib.hid (ptsOk_take l i hlt)
   have Hnot : Hid (ptOk (ptAt l i) = false → ptsOk l = false) := fun h => by
    cases h2 : ptsOk l with
    | false => rfl
    | true => rw [ptsOk_get h2 i hlt] at h; cases h
   have hpo : ptOk (ptAt l i) = (inL (l.getD i (0, 0)).1 (-4398046511104) 4398046511104 && inL (l.getD i (0, 0)).2 (-4398046511104) 4398046511104) := rfl
   generalize ptOk (ptAt l i) = pk at *
   have Hpo := Lib.hid hpo
   clear hpo hLL
   have hN := blk_new wr #[.int .i64 (l.getD i (0, 0)).1, .int .i64 (l.getD i (0, 0)).2] 25
   have hx := (Below.refl wr.heap.size wr).alloc (Nat.le_refl _) (.cells #[.int .i64 (l.getD i (0, 0)).1, .int .i64 (l.getD i (0, 0)).2] 25)
   generalize (l.getD i (0, 0)).1 = x at *
   generalize (l.getD i (0, 0)).2 = y at *
   go_wp2_with fail
   refine (within_any x _ _ _).mono ?_
   rintro e w2 ⟨rfl, hb2⟩
   have hN2 := blk_keep hN hb2 (blk_lt hN)
   have c1 := blk_cell hN2 1 (.int .i64 y) rfl
   have hx2 := ext_trans (ext_trans hbel hx) hb2
   generalize inL x (-4398046511104) 4398046511104 = p at *
   clear g0 g1 hN hN2 hb2 hx
   cases p with
   | false =>
    have Hf := Lib.hid (Hnot.out (by rw [Hpo.out]; rfl))
    go_wp2_with fail
    go_ret
    exact ⟨by rw [Hf.out]; rfl, hx2⟩
   | true =>
    go_wp2_with fail
    refine (within_any y _ _ _).mono ?_
    rintro e w3 ⟨rfl, hb3⟩
    generalize inL y (-4398046511104) 4398046511104 = q at *
    have hx3 := ext_trans hx2 hb3
    cases q with
    | false =>
     have Hf := Lib.hid (Hnot.out (by rw [Hpo.out]; rfl))
     go_wp2_with fail
     go_ret
     exact ⟨by rw [Hf.out]; rfl, hx3⟩
    | true =>
     have Ht : Hid (ptsOk (l.take (i + 1)) = true) := by show _ = _; rw [Htk.out, HOK.out, Hpo.out]; rfl
     go_wp2_with fail
     exact ⟨⟨i + 1, by omega, by go_num, Ht.out, hx3⟩, meas_up hlt⟩
  ·
   obtain rfl : i = l.length := by omega
   rw [List.take_length] at HOK
   go_wp2_with fail
   go_ret
   exact ⟨by rw [HOK.out]; rfl, hbel⟩

theorem boxesP (w : World) (A1 A2 A3 A4 : Array Value) (T T4 : Nat) (W : World) (hW : W = (((w.alloc (.cells A1 T)).alloc (.cells A2 T)).alloc (.cells A3 T)).alloc (.cells A4 T4)) :
  Below w.heap.size w W ∧ W.heap[w.heap.size]? = some (.cells A1 T (0, 0)) ∧ W.heap[w.heap.size + 1]? = some (.cells A2 T (0, 0)) ∧ W.heap[w.heap.size + 2]? = some (.cells A3 T (0, 0)) ∧ W.heap[w.heap.size + 3]? = some (.cells A4 T4 (0, 0)) := by
 obtain ⟨h0, h1, h2, h3⟩ := boxes3 w A1 A2 A3 T _ rfl
 subst hW
 have hs : (((w.alloc (.cells A1 T)).alloc (.cells A2 T)).alloc (.cells A3 T)).heap.size = w.heap.size + 3 := by simp
 generalize ((w.alloc (.cells A1 T)).alloc (.cells A2 T)).alloc (.cells A3 T) = W3 at *
 refine ⟨h0.alloc h0.size _, ?_, ?_, ?_, ?_⟩
 ·
  rw [heap_alloc_old _ _ (by omega)]; exact h1
 ·
  rw [heap_alloc_old _ _ (by omega)]; exact h2
 ·
  rw [heap_alloc_old _ _ (by omega)]; exact h3
 ·
  rw [← hs]; exact blk_new W3 A4 T4
def HP (n : Nat) (w0 : World) (B1 B2 B3 B : Nat) (v0 v1 v2 v3 v4 v5 : Value) (a : World) : Prop :=
 Below n w0 a ∧ RB a B ∧ a.cell? ⟨B1, 0, none⟩ = some v0 ∧ a.cell? ⟨B1, 1, none⟩ = some v1 ∧ a.cell? ⟨B2, 0, none⟩ = some v2 ∧ a.cell? ⟨B2, 1, none⟩ = some v3 ∧ a.cell? ⟨B3, 0, none⟩ = some v4 ∧ a.cell? ⟨B3, 1, none⟩ = some v5 ∧
  a.cell? ⟨B, 0, none⟩ = some (cellOf a ⟨B, 0, none⟩) ∧ a.cell? ⟨B, 1, none⟩ = some (cellOf a ⟨B, 1, none⟩) ∧ a.cell? ⟨B, 2, none⟩ = some (cellOf a ⟨B, 2, none⟩) ∧ a.frozen? ⟨B, 0, none⟩ = false ∧ a.frozen? ⟨B, 1, none⟩ = false ∧ a.frozen? ⟨B, 2, none⟩ = false
theorem holdP {n : Nat} {w0 a : World} {B1 B2 B3 B : Nat} {v0 v1 v2 v3 v4 v5 : Value} (h0 : Below n w0 a) (h1 : a.cell? ⟨B1, 0, none⟩ = some v0) (h2 : a.cell? ⟨B1, 1, none⟩ = some v1) (h3 : a.cell? ⟨B2, 0, none⟩ = some v2)
  (h4 : a.cell? ⟨B2, 1, none⟩ = some v3) (h5 : a.cell? ⟨B3, 0, none⟩ = some v4) (h6 : a.cell? ⟨B3, 1, none⟩ = some v5) (hB : RB a B) : HP n w0 B1 B2 B3 B v0 v1 v2 v3 v4 v5 a := ⟨h0, hB, h1, h2, h3, h4, h5, h6, hB.cell⟩
theorem holdP_call {n : Nat} {w0 a b : World} {B1 B2 B3 B : Nat} {v0 v1 v2 v3 v4 v5 : Value} (hn : n ≤ w0.heap.size) (hb : Below a.heap.size a b) (h : HP n w0 B1 B2 B3 B v0 v1 v2 v3 v4 v5 a) : HP n w0 B1 B2 B3 B v0 v1 v2 v3 v4 v5 b := by
 obtain ⟨h0, hB, h1, h2, h3, h4, h5, h6, _⟩ := h
 have e : ∀ B1 j v, a.cell? ⟨B1, j, none⟩ = some v → b.cell? ⟨B1, j, none⟩ = some v := fun B1 j v h => (hb.cell (p := ⟨B1, j, none⟩) (World.block_lt_of_cell? (h := h))).trans h
 have hs := h0.size
 exact holdP (h0.trans (hb.mono (by omega))) (e _ _ _ h1) (e _ _ _ h2) (e _ _ _ h3) (e _ _ _ h4) (e _ _ _ h5) (e _ _ _ h6) (hB.keep hb hB.lt)
theorem holdP_store {n : Nat} {w0 a : World} {B1 B2 B3 B : Nat} {v0 v1 v2 v3 v4 v5 : Value} (neg : Bool) (x1 y1 : Option Addr) (i1 j1 k1 l1 : Nat) (hn : n ≤ B) (hne : B1 ≠ B) (hne2 : B2 ≠ B) (hne3 : B3 ≠ B)
  (h : HP n w0 B1 B2 B3 B v0 v1 v2 v3 v4 v5 a) (b : World) (hb : b = ((a.setCell ⟨B, 0, none⟩ (.bool neg)).setCell ⟨B, 1, none⟩ (.slice x1 i1 j1)).setCell ⟨B, 2, none⟩ (.slice y1 k1 l1)) : HP n w0 B1 B2 B3 B v0 v1 v2 v3 v4 v5 b := by
 obtain ⟨h0, hB, h1, h2, h3, h4, h5, h6, _⟩ := h
 subst hb
 have e : ∀ B1 j v, B1 ≠ B → a.cell? ⟨B1, j, none⟩ = some v → (((a.setCell ⟨B, 0, none⟩ (.bool neg)).setCell ⟨B, 1, none⟩ (.slice x1 i1 j1)).setCell ⟨B, 2, none⟩ (.slice y1 k1 l1)).cell? ⟨B1, j, none⟩ = some v := fun B1 j v hne h => by
  rw [World.cell?_setCell_other, World.cell?_setCell_other, World.cell?_setCell_other, h]
  all_goals intro e; cases e; exact hne rfl
 exact holdP (below_store3 h0 hn) (e _ _ _ hne h1) (e _ _ _ hne h2) (e _ _ _ hne2 h3) (e _ _ _ hne2 h4) (e _ _ _ hne3 h5) (e _ _ _ hne3 h6) (hB.store ..)
theorem sub_far {a b : Int} (ha : -far ≤ a ∧ a ≤ far) (hb : -far ≤ b ∧ b ≤ far) : IntKind.i64.wrap (a - b) = a - b ∧ (-9223372036854775808 ≤ a - b ∧ a - b ≤ 9223372036854775807) ∧ (-8796093022208 ≤ a - b ∧ a - b ≤ 8796093022208) := by
 unfold far at *
 exact ⟨IntWalk.i64_in _ (by omega), by omega, by omega⟩
theorem prod_szR {a b : Int} (ha : -8796093022208 ≤ a ∧ a ≤ 8796093022208) (hb : -8796093022208 ≤ b ∧ b ≤ 8796093022208) : szR ((a * b : Int) : Rat) 68719476736 := by
 have := mul_absI ha hb
 refine szR_mono (szR_int (k := 2) ?_ (by omega)) (by omega)
 have e : b64 ^ 2 = 340282366920938463463374607431768211456 := by unfold b64; omega
 rw [e]
 omega

set_option maxRecDepth 100000 in
set_option maxHeartbeats 4000000 in
theorem cross_any (a b c : Pt) (w : World) (ha : ptOk a = true) (hb : ptOk b = true) (hc : ptOk c = true) : Calls Tryz.prog 73 #[.agg #[.int .i64 a.1, .int .i64 a.2], .agg #[.int .i64 b.1, .int .i64 b.2], .agg #[.int .i64 c.1, .int .i64 c.2]] w (RetRat ((crossI a b c : Int) : Rat) w) := by
 have ra := ptOk_range ha
 have rb := ptOk_range hb
 have rc := ptOk_range hc
 obtain ⟨e1, r1, s1⟩ := sub_far rb.1 ra.1
 obtain ⟨d1, hd1⟩ : ∃ d, d = b.1 - a.1 := ⟨_, rfl⟩
 rw [← hd1] at r1 s1
 replace e1 : IntKind.i64.wrap (b.1 - a.1) = d1 := by rw [hd1]; exact e1
 obtain ⟨e2, r2, s2⟩ := sub_far rc.2 ra.2
 obtain ⟨d2, hd2⟩ : ∃ d, d = c.2 - a.2 := ⟨_, rfl⟩
 rw [← hd2] at r2 s2
 replace e2 : IntKind.i64.wrap (c.2 - a.2) = d2 := by rw [hd2]; exact e2
 obtain ⟨e3, r3, s3⟩ := sub_far rb.2 ra.2
 obtain ⟨d3, hd3⟩ : ∃ d, d = b.2 - a.2 := ⟨_, rfl⟩
 rw [← hd3] at r3 s3
 replace e3 : IntKind.i64.wrap (b.2 - a.2) = d3 := by rw [hd3]; exact e3
 obtain ⟨e4, r4, s4⟩ := sub_far rc.1 ra.1
 obtain ⟨d4, hd4⟩ : ∃ d, d = c.1 - a.1 := ⟨_, rfl⟩
 rw [← hd4] at r4 s4
 replace e4 : IntKind.i64.wrap (c.1 - a.1) = d4 := by rw [hd4]; exact e4
 have Hs1 := Lib.hid (prod_szR s1 s2)
 have Hs2 := Lib.hid (prod_szR s3 s4)
 have He : Hid ((((d1 * d2 : Int) : Rat)) - (((d3 * d4 : Int) : Rat)) = ((crossI a b c : Int) : Rat)) := by
  show _ = _
  rw [← Rat.intCast_sub, hd1, hd2, hd3, hd4]
  rfl
 have R1 := Lib.hid r1
 have R2 := Lib.hid r2
 have R3 := Lib.hid r3
 have R4 := Lib.hid r4
 generalize hI : ((crossI a b c : Int) : Rat) = Q at *
 clear ha hb hc ra rb rc r1 s1 hd1 r2 s2 hd2 r3 s3 hd3 r4 s4 hd4 hI
 generalize a.1 = ax at *
 generalize a.2 = ay at *
 generalize b.1 = bx at *
 generalize b.2 = by' at *
 generalize c.1 = cx at *
 generalize c.2 = cy at *
 go_enter Tryz.func73, Tryz.ntmps73
 go_wp2_with fail
 generalize hW0 : (((w.alloc (.cells #[.int .i64 ax, .int .i64 ay] 25)).alloc (.cells #[.int .i64 bx, .int .i64 by'] 25)).alloc (.cells #[.int .i64 cx, .int .i64 cy] 25)).alloc (.cells #[.bool false, .slice none 0 0, .slice none 0 0] 32) = W at *
 obtain ⟨hal, hB1, hB2, hB3, hB4⟩ := boxesP w _ _ _ _ _ _ W hW0.symm
 clear hW0
 have hW : Below w.heap.size w W.drew := hal.drew
 have p0 := blk_cell hB1 0 (.int .i64 ax) rfl
 have p1 := blk_cell hB1 1 (.int .i64 ay) rfl
 have p2 := blk_cell hB2 0 (.int .i64 bx) rfl
 have p3 := blk_cell hB2 1 (.int .i64 by') rfl
 have p4 := blk_cell hB3 0 (.int .i64 cx) rfl
 have p5 := blk_cell hB3 1 (.int .i64 cy) rfl
 have HB : Hid (RB W (w.heap.size + 3)) := ⟨false, none, 0, 0, none, 0, 0, _, hB4⟩
 have hl3 := blk_lt hB4
 clear hB1 hB2 hB3 hB4
 go_region_held3 (fun w' => Below w.heap.size w w' ∧ RB w' (w.heap.size + 3) ∧ w'.cell? ⟨w.heap.size, 0, none⟩ = some (.int .i64 ax) ∧ w'.cell? ⟨w.heap.size, 1, none⟩ = some (.int .i64 ay) ∧ w'.cell? ⟨w.heap.size + 1, 0, none⟩ = some (.int .i64 bx) ∧ w'.cell? ⟨w.heap.size + 1, 1, none⟩ = some (.int .i64 by') ∧ w'.cell? ⟨w.heap.size + 2, 0, none⟩ = some (.int .i64 cx) ∧ w'.cell? ⟨w.heap.size + 2, 1, none⟩ = some (.int .i64 cy) ∧ w'.cell? ⟨w.heap.size + 3, 0, none⟩ = some (cellOf w' ⟨w.heap.size + 3, 0, none⟩) ∧ w'.cell? ⟨w.heap.size + 3, 1, none⟩ = some (cellOf w' ⟨w.heap.size + 3, 1, none⟩) ∧ w'.cell? ⟨w.heap.size + 3, 2, none⟩ = some (cellOf w' ⟨w.heap.size + 3, 2, none⟩) ∧ w'.frozen? ⟨w.heap.size + 3, 0, none⟩ = false ∧ w'.frozen? ⟨w.heap.size + 3, 1, none⟩ = false ∧ w'.frozen? ⟨w.heap.size + 3, 2, none⟩ = false)
  (first | exact holdP hW p0 p1 p2 p3 p4 p5 HB.out | exact holdP_call (Nat.le_refl _) hbC (by assumption) | exact holdP_call (Nat.le_refl _) hbB (by assumption) | exact holdP_call (Nat.le_refl _) hbA (by assumption) | exact holdP_store _ _ _ _ _ _ _ (by omega) (by omega) (by omega) (by omega) (by assumption) _ rfl)
  (first
   | (go_at_call_of 18 (Value.int .i64 d1); refine (lproduct_any d1 d2 _ R1.out R2.out).mono ?_; rintro e wA ⟨vA, rfl, hvA, hbA⟩)
   | (go_at_call_of 18 (Value.int .i64 d3); refine (lproduct_any d3 d4 _ R3.out R4.out).mono ?_; rintro e wB ⟨vB, rfl, hvB, hbB⟩)
   | (go_at_call 19; refine (subRat_any _ _ _ _ _ (hvA.below hbB) hvB Hs1.out Hs2.out).mono ?_; rw [He.out]; rintro e wC ⟨vC, rfl, hvC, hbC⟩; obtain ⟨a5, c5, a6, c6, rfl, n5, n6⟩ := IsRat.opened hvC))
 have hE := ext_trans (ext_trans hbA hbB) hbC
 have hRB := RB.keep (a := W.drew) HB.out hE hl3
 have hx := hW.trans (hE.mono hW.size)
 obtain ⟨g0, g1, g2, f0', f1', f2'⟩ := hRB.cell
 have hBl := hRB.lt
 go_wp2_with fail
 refine bodyPost_ret (v := .agg #[.bool (decide (Q.num < 0)), .slice a5 (dig b64 Q.num.natAbs).length _, .slice a6 (dig b64 (dn Q.den)).length _]) (by simp [results, Tryz.results73, go_sem, g0, g1, g2]; first | done | exact ⟨rfl, rfl⟩ | rfl) rfl ⟨_, rfl, ?_, below_store3 hx (by omega)⟩
 exact IsRat.stored hRB n5 n6 rfl rfl

end Go.Proofs.YtakempimcbofgaaGreat

namespace Go.Proofs.YtakempimcbofgaaGreat
open Go.RowKit

def SumBox (W0 : World) (q : Rat) (s : Value) (wx : World) : Prop :=
 ∃ (N : Nat) (b : Bool) (x : Option Addr) (i j : Nat) (y : Option Addr) (k l : Nat) (T : TypeId), s = .pointer (some ⟨N, 0, none⟩) ∧ W0.heap.size ≤ N ∧ Below W0.heap.size W0 wx ∧ wx.heap[N]? = some (.cells #[.bool b, .slice x i j, .slice y k l] T (0, 0)) ∧ IsRat wx (.agg #[.bool b, .slice x i j, .slice y k l]) q
theorem boxkeep {W w' : World} {cs : Array Value} {T : TypeId} (hb : Below (W.alloc (.cells cs T)).heap.size (W.alloc (.cells cs T)) w') : w'.heap[W.heap.size]? = some (.cells cs T (0, 0)) := blk_keep (blk_new W cs T) hb (by simp)
theorem boxkeepD {W w' : World} {cs : Array Value} {T : TypeId} (hb : Below (W.alloc (.cells cs T)).drew.heap.size (W.alloc (.cells cs T)).drew w') : w'.heap[W.heap.size]? = some (.cells cs T (0, 0)) := boxkeep (W := W) (cs := cs) (T := T) (w' := w') ⟨hb.os, hb.tape, hb.output, hb.size, hb.block⟩
theorem SumBox.of_alloc {W0 wB : World} {q : Rat} {b : Bool} {x y : Option Addr} {i j k l : Nat} {T : TypeId} (hb : Below W0.heap.size W0 (wB.alloc (.cells #[.bool b, .slice x i j, .slice y k l] T))) (hN : W0.heap.size ≤ wB.heap.size) (hv : IsRat wB (.agg #[.bool b, .slice x i j, .slice y k l]) q) :
  SumBox W0 q (.pointer (some ⟨wB.heap.size, 0, none⟩)) (wB.alloc (.cells #[.bool b, .slice x i j, .slice y k l] T)) :=
 ⟨_, b, x, i, j, y, k, l, T, rfl, hN, hb, blk_new _ _ _, hv.below ((Below.refl _ _).alloc (Nat.le_refl _) _)⟩
theorem SumBox.of_set {W0 wB : World} {q : Rat} {N : Nat} {b b0 : Bool} {x y x0 y0 : Option Addr} {i j k l i0 j0 k0 l0 : Nat} {T : TypeId} (hb : Below W0.heap.size W0 (((wB.setCell ⟨N, 0, none⟩ (.bool b)).setCell ⟨N, 1, none⟩ (.slice x i j)).setCell ⟨N, 2, none⟩ (.slice y k l))) (hN : W0.heap.size ≤ N) (hB : wB.heap[N]? = some (.cells #[.bool b0, .slice x0 i0 j0, .slice y0 k0 l0] T (0, 0))) (hv : IsRat wB (.agg #[.bool b, .slice x i j, .slice y k l]) q) :
  SumBox W0 q (.pointer (some ⟨N, 0, none⟩)) (((wB.setCell ⟨N, 0, none⟩ (.bool b)).setCell ⟨N, 1, none⟩ (.slice x i j)).setCell ⟨N, 2, none⟩ (.slice y k l)) := by
 obtain ⟨vn, vd, e, h1, h2⟩ := hv
 simp only [Value.agg.injEq, Array.mk.injEq, List.cons.injEq, Value.bool.injEq, and_true] at e
 obtain ⟨rfl, rfl, rfl⟩ := e
 exact ⟨N, _, x, i, j, y, k, l, T, rfl, hN, hb, by exact blk_set (blk_set (blk_set hB 0 _) 1 _) 2 _, ⟨_, _, rfl, store3 hB h1, store3 hB h2⟩⟩
set_option maxRecDepth 100000 in
set_option maxHeartbeats 2000000 in
theorem divRat_any (x y : Rat) (vx vy : Value) (w : World) (hx : IsRat w vx x) (hy : IsRat w vy y) (hlx : szR x 68719476736) (hly : szR y 68719476736) (hy0 : y.num.natAbs ≠ 0) : Calls Tryz.prog 20 #[vx, vy] w (RetRatE (x / y) 0 w) := by
 obtain ⟨a1, c1, a2, c2, rfl, n1, n2⟩ := hx.opened
 obtain ⟨a3, c3, a4, c4, rfl, n3, n4⟩ := hy.opened
 have HX := Lib.hid hx
 have HY := Lib.hid hy
 have HLX := Lib.hid hlx
 have HLY := Lib.hid hly
 have H0 := Lib.hid hy0
 have t0 : decide (y.num.natAbs = 0) = false := decide_eq_false hy0
 clear hx hy n1 n2 n3 n4 hlx hly hy0
 go_enter Tryz.func20, Tryz.ntmps20
 go_wp2_with fail
 generalize hW0 : ((w.alloc (.cells #[.bool (decide (x.num < 0)), .slice a1 (dig b64 x.num.natAbs).length c1, .slice a2 (dig b64 (dn x.den)).length c2] 32)).alloc (.cells #[.bool (decide (y.num < 0)), .slice a3 (dig b64 y.num.natAbs).length c3, .slice a4 (dig b64 (dn y.den)).length c4] 32)).alloc (.cells #[.bool false, .slice none 0 0, .slice none 0 0] 32) = W at *
 obtain ⟨hal, hB1, hB2, hB3⟩ := boxes3 w _ _ _ _ W hW0.symm
 clear hW0
 refine (zero_any _ _ y.num.natAbs _ _ _ _ _).mono ?_
 rw [t0]
 rintro e w1 ⟨rfl, hb1⟩
 have hB11 := blk_keep hB1 hb1 (blk_lt hB1)
 have hB21 := blk_keep hB2 hb1 (blk_lt hB2)
 have hB31 := blk_keep hB3 hb1 (blk_lt hB3)
 have hx1 := ext_trans hal hb1
 have p0 := blk_cell hB11 0 (.bool (decide (x.num < 0))) rfl
 have p1 := blk_cell hB11 1 (.slice a1 (dig b64 x.num.natAbs).length c1) rfl
 have p2 := blk_cell hB11 2 (.slice a2 (dig b64 (dn x.den)).length c2) rfl
 have r0 := blk_cell hB21 0 (.bool (decide (y.num < 0))) rfl
 have r1 := blk_cell hB21 1 (.slice a3 (dig b64 y.num.natAbs).length c3) rfl
 have r2 := blk_cell hB21 2 (.slice a4 (dig b64 (dn y.den)).length c4) rfl
 have HB : Hid (RB w1 (w.heap.size + 2)) := ⟨false, none, 0, 0, none, 0, 0, _, hB31⟩
 have hl3 := blk_lt hB31
 clear hB1 hB2 hB3 hB11 hB21 hB31 hb1 hal
 go_wp2_with fail
 refine (byRat_any x y _ _ _ (HX.out.below hx1) (HY.out.below hx1) HLX.out HLY.out H0.out).mono ?_
 rintro e w3 ⟨v, rfl, hv, hb⟩
 have hRB := HB.out.keep hb hl3
 obtain ⟨a5, c5, a6, c6, rfl, n5, n6⟩ := IsRat.opened hv
 have hx := ext_trans hx1 hb
 obtain ⟨g0, g1, g2, f0', f1', f2'⟩ := hRB.cell
 have hBl := hRB.lt
 generalize x / y = q at *
 clear hv hb hx1 p0 p1 p2 r0 r1 r2
 go_wp2_with fail
 refine bodyPost_ret (v := .tuple #[.agg #[.bool (decide (q.num < 0)), .slice a5 (dig b64 q.num.natAbs).length _, .slice a6 (dig b64 (dn q.den)).length _], .int .i64 0]) (by simp [results, Tryz.results20, go_sem, g0, g1, g2]; first | done | exact ⟨⟨rfl, rfl⟩, rfl⟩ | exact ⟨rfl, rfl⟩ | rfl) rfl ⟨_, rfl, ?_, below_store3 hx (by omega)⟩
 exact IsRat.stored hRB n5 n6 rfl rfl

theorem keepB3c {n : Nat} {W a b : World} {A0 A1 A2 : Addr} {v0 v1 v2 : Value} (hn : n ≤ W.heap.size) (hb : Below a.heap.size a b) (h : Below n W a ∧ a.cell? A0 = some v0 ∧ a.cell? A1 = some v1 ∧ a.cell? A2 = some v2) :
  Below n W b ∧ b.cell? A0 = some v0 ∧ b.cell? A1 = some v1 ∧ b.cell? A2 = some v2 := by
 obtain ⟨h0, h1, h2, h3⟩ := h
 have e : ∀ A v, a.cell? A = some v → b.cell? A = some v := fun A v h => (hb.cell (World.block_lt_of_cell? (h := h))).trans h
 have := h0.size
 exact ⟨h0.trans (hb.mono (by omega)), e _ _ h1, e _ _ h2, e _ _ h3⟩
theorem keepB3s {n : Nat} {W a : World} {N B1 j0 j1 j2 : Nat} {v0 v1 v2 u0 u1 u2 : Value} (hn : n ≤ N) (h1 : B1 ≠ N) (h : Below n W a ∧ a.cell? ⟨B1, j0, none⟩ = some v0 ∧ a.cell? ⟨B1, j1, none⟩ = some v1 ∧ a.cell? ⟨B1, j2, none⟩ = some v2) (b : World)
  (hb : b = ((a.setCell ⟨N, 0, none⟩ u0).setCell ⟨N, 1, none⟩ u1).setCell ⟨N, 2, none⟩ u2) : Below n W b ∧ b.cell? ⟨B1, j0, none⟩ = some v0 ∧ b.cell? ⟨B1, j1, none⟩ = some v1 ∧ b.cell? ⟨B1, j2, none⟩ = some v2 := by
 subst hb
 have e : ∀ B j v, B ≠ N → a.cell? ⟨B, j, none⟩ = some v → (((a.setCell ⟨N, 0, none⟩ u0).setCell ⟨N, 1, none⟩ u1).setCell ⟨N, 2, none⟩ u2).cell? ⟨B, j, none⟩ = some v := fun B j v hne h => by
  rw [World.cell?_setCell_other, World.cell?_setCell_other, World.cell?_setCell_other, h]
  all_goals intro e; cases e; exact hne rfl
 obtain ⟨h0, k0, k1, k2⟩ := h
 exact ⟨below_store3 h0 hn, e _ _ _ h1 k0, e _ _ _ h1 k1, e _ _ _ h1 k2⟩
theorem keepB3a {n : Nat} {W a : World} {o o' : Obj} {B1 j0 j1 j2 : Nat} {v0 v1 v2 : Value} (hn : n ≤ a.heap.size) (h1 : B1 < a.heap.size) (h : Below n W (a.alloc o) ∧ (a.alloc o).cell? ⟨B1, j0, none⟩ = some v0 ∧ (a.alloc o).cell? ⟨B1, j1, none⟩ = some v1 ∧ (a.alloc o).cell? ⟨B1, j2, none⟩ = some v2) :
  Below n W (a.alloc o') ∧ (a.alloc o').cell? ⟨B1, j0, none⟩ = some v0 ∧ (a.alloc o').cell? ⟨B1, j1, none⟩ = some v1 ∧ (a.alloc o').cell? ⟨B1, j2, none⟩ = some v2 := by
 have e : ∀ B j v, B < a.heap.size → (a.alloc o).cell? ⟨B, j, none⟩ = some v → (a.alloc o').cell? ⟨B, j, none⟩ = some v := fun B j v hB h => by
  rw [← h]
  exact World.cell?_of_block (a := ⟨B, j, none⟩) ((heap_alloc_old a o' hB).trans (heap_alloc_old a o hB).symm)
 obtain ⟨h0, k0, k1, k2⟩ := h
 exact ⟨⟨h0.os, h0.tape, h0.output, by have := h0.size; simp at this ⊢; exact this, fun k hk => ((heap_alloc_old a o' (by omega)).trans (heap_alloc_old a o (by omega)).symm).trans (h0.block k hk)⟩, e _ _ _ h1 k0, e _ _ _ h1 k1, e _ _ _ h1 k2⟩

set_option maxRecDepth 100000 in
set_option maxHeartbeats 4000000 in
theorem half_any (x : Rat) (vx : Value) (w : World) (hx : IsRat w vx x) (hlx : szR x 68719476736) : Calls Tryz.prog 75 #[vx] w (RetRat (x / 2) w) := by
 obtain ⟨a1, c1, a2, c2, rfl, n1, n2⟩ := hx.opened
 have HX := Lib.hid hx
 have HLX := Lib.hid hlx
 have HS2 := Lib.hid (i64_szR 2 (by omega) (by omega) 68719476736 (by omega))
 have H20 : Hid ((((2 : Int) : Rat)).num.natAbs ≠ 0) := by show _ ≠ _; simp
 have HN2 : Hid (∀ W, Calls Tryz.prog 17 #[.int .i64 2] W (RetRat (((2 : Int) : Rat)) W)) := fun W => lwhole_any 2 W (by omega) (by omega)
 have He : Hid (x / (((2 : Int) : Rat)) = x / 2) := rfl
 have HD : Hid (∀ v W, IsRat W (.agg #[.bool (decide (x.num < 0)), .slice a1 (dig b64 x.num.natAbs).length c1, .slice a2 (dig b64 (dn x.den)).length c2]) x → IsRat W v (((2 : Int) : Rat)) → Calls Tryz.prog 20 #[.agg #[.bool (decide (x.num < 0)), .slice a1 (dig b64 x.num.natAbs).length c1, .slice a2 (dig b64 (dn x.den)).length c2], v] W (RetRatE (x / 2) 0 W)) := fun v W h1 h2 => by
  have := divRat_any x (((2 : Int) : Rat)) _ v W h1 h2 HLX.out HS2.out H20.out
  rw [He.out] at this
  exact this
 clear hx n1 n2 hlx H20 HS2 He HLX
 go_enter Tryz.func75, Tryz.ntmps75
 go_wp2_with fail
 generalize hsx : decide (x.num < 0) = sx at *
 clear hsx
 have hB1 := blk_new w #[.bool sx, .slice a1 (dig b64 x.num.natAbs).length c1, .slice a2 (dig b64 (dn x.den)).length c2] 32
 have hA1 := (Below.refl w.heap.size w).alloc (Nat.le_refl _) (.cells #[.bool sx, .slice a1 (dig b64 x.num.natAbs).length c1, .slice a2 (dig b64 (dn x.den)).length c2] 32)
 have hB2 := blk_new (w.alloc (.cells #[.bool sx, .slice a1 (dig b64 x.num.natAbs).length c1, .slice a2 (dig b64 (dn x.den)).length c2] 32)) #[.bool false, .slice none 0 0, .slice none 0 0] 32
 rw [World.size_alloc] at hB2
 have hB12 := blk_keep hB1 ((Below.refl _ _).alloc (Nat.le_refl _) (.cells #[.bool false, .slice none 0 0, .slice none 0 0] 32)) (blk_lt hB1)
 have hA2 := hA1.alloc hA1.size (.cells #[.bool false, .slice none 0 0, .slice none 0 0] 32)
 generalize (w.alloc (.cells #[.bool sx, .slice a1 (dig b64 x.num.natAbs).length c1, .slice a2 (dig b64 (dn x.den)).length c2] 32)).alloc (.cells #[.bool false, .slice none 0 0, .slice none 0 0] 32) = W10 at *
 have HB : Hid (RB W10 (w.heap.size + 1)) := ⟨false, none, 0, 0, none, 0, 0, _, hB2⟩
 have hl1 := blk_lt hB12
 have hl2 := blk_lt hB2
 have HX10 := Lib.hid (HX.out.below hA2)
 have hZZ := (Below.refl W10.heap.size W10).alloc (Nat.le_refl _) (.cells #[.bool false, .slice none 0 0, .slice none 0 0] 32)
 have c1' : W10.drew.cell? ⟨w.heap.size, 0, none⟩ = some (.bool sx) := blk_cell hB12 0 _ rfl
 have c2' : W10.drew.cell? ⟨w.heap.size, 1, none⟩ = some (.slice a1 (dig b64 x.num.natAbs).length c1) := blk_cell hB12 1 _ rfl
 have c3' : W10.drew.cell? ⟨w.heap.size, 2, none⟩ = some (.slice a2 (dig b64 (dn x.den)).length c2) := blk_cell hB12 2 _ rfl
 have d1' : (W10.alloc (.cells #[.bool false, .slice none 0 0, .slice none 0 0] 32)).drew.cell? ⟨w.heap.size, 0, none⟩ = some (.bool sx) := blk_cell (blk_keep hB12 hZZ hl1) 0 _ rfl
 have d2' : (W10.alloc (.cells #[.bool false, .slice none 0 0, .slice none 0 0] 32)).drew.cell? ⟨w.heap.size, 1, none⟩ = some (.slice a1 (dig b64 x.num.natAbs).length c1) := blk_cell (blk_keep hB12 hZZ hl1) 1 _ rfl
 have d3' : (W10.alloc (.cells #[.bool false, .slice none 0 0, .slice none 0 0] 32)).drew.cell? ⟨w.heap.size, 2, none⟩ = some (.slice a2 (dig b64 (dn x.den)).length c2) := blk_cell (blk_keep hB12 hZZ hl1) 2 _ rfl
 have hds : W10.drew.heap.size = W10.heap.size := rfl
 have HDS := Lib.hid hds
 clear hds hZZ hB1 hB2 hA1 HX
 go_cut [3] from 3 to 10 (fun s wx => SumBox W10 (x / 2) s wx)
 case first =>
  go_region_held3 (fun w' => Below W10.heap.size W10 w' ∧ w'.cell? ⟨w.heap.size, 0, none⟩ = some (.bool sx) ∧ w'.cell? ⟨w.heap.size, 1, none⟩ = some (.slice a1 (dig b64 x.num.natAbs).length c1) ∧ w'.cell? ⟨w.heap.size, 2, none⟩ = some (.slice a2 (dig b64 (dn x.den)).length c2))
   (first | exact ⟨(Below.refl _ _).drew, c1', c2', c3'⟩ | exact ⟨((Below.refl _ _).alloc (Nat.le_refl _) _).drew, d1', d2', d3'⟩ | assumption | (refine keepB3c (Nat.le_refl _) hbB ?_; assumption) | (refine keepB3c (Nat.le_refl _) hbA ?_; assumption) | (refine keepB3c (Nat.le_refl _) ((Below.refl _ _).alloc (Nat.le_refl _) _) ?_; assumption) | exact keepB3a hWB (by omega) (by assumption) | (refine keepB3s hNN (by omega) (by assumption) _ rfl))
   (first
    | (go_at_call 17; refine (HN2.out _).mono ?_; rintro e wA ⟨vN, rfl, hvN, hbA⟩; obtain ⟨a7, k7, a8, k8, rfl, _, _⟩ := hvN.opened; have HVN := Lib.hid hvN; (first | (with_reducible have HNA := Lib.hid (boxkeepD hbA)) | (with_reducible have HNA := Lib.hid (boxkeep hbA)) | skip); clear hvN)
    | (go_at_call 20; (refine (HD.out _ _ (HX10.out.below (And.left (by assumption))) (by first | exact HVN.out | exact HVN.out.below ((Below.refl _ _).alloc (Nat.le_refl _) _))).mono ?_); rintro e wB ⟨vS, rfl, hvS, hbB⟩; obtain ⟨a9, k9, a10, k10, rfl, _, _⟩ := hvS.opened; have HVS := Lib.hid hvS; clear hvS; (have hWB : W10.heap.size ≤ wB.heap.size := by have q1 := hbA.size; have q2 := hbB.size; simp at q1 q2; omega); (first | ((with_reducible have hNB := boxkeep hbB); have hNN : W10.heap.size ≤ wA.heap.size := hbA.size) | (have hNB := blk_keep HNA.out hbB (blk_lt HNA.out); have hNN : W10.heap.size ≤ W10.heap.size := Nat.le_refl _) | skip); (try (have n0 := blk_cell hNB 0 _ rfl; have n1 := blk_cell hNB 1 _ rfl; have n2 := blk_cell hNB 2 _ rfl; have f0 := blk_frozen hNB 0; have f1 := blk_frozen hNB 1; have f2 := blk_frozen hNB 2))))
  all_goals
   rename_i hS
   have hbS := hS.1
   clear hS
   go_wp2_with fail
   go_meet
   first | exact SumBox.of_alloc hbS hWB HVS.out | exact SumBox.of_set hbS hNN hNB HVS.out
 case rest =>
  obtain ⟨N, b7, x7, i7, j7, y7, k7, l7, T7, rfl, hN, hbc, hNB, hvN⟩ := hcut
  have nn0 := blk_cell hNB 0 _ rfl
  have nn1 := blk_cell hNB 1 _ rfl
  have nn2 := blk_cell hNB 2 _ rfl
  have hRB := HB.out.keep hbc hl2
  have hxc := ext_trans hA2 hbc
  obtain ⟨g0, g1, g2, f0', f1', f2'⟩ := hRB.cell
  have hBl := hRB.lt
  have hneN : N ≠ w.heap.size + 1 := by omega
  obtain ⟨vn, vd, hag, n5, n6⟩ := hvN
  simp only [Value.agg.injEq, Array.mk.injEq, List.cons.injEq, and_true] at hag
  obtain ⟨hb7, rfl, rfl⟩ := hag
  have Hb7 := Lib.hid hb7
  generalize x / 2 = q at *
  clear hNB c1' c2' c3' d1' d2' d3' hb7
  go_wp2_with fail
  refine bodyPost_ret (v := .agg #[.bool b7, .slice x7 i7 j7, .slice y7 k7 l7]) (by simp [results, Tryz.results75, go_sem, g0, g1, g2]; first | done | exact ⟨rfl, rfl⟩ | rfl) rfl ⟨_, rfl, ?_, below_store3 hxc (by omega)⟩
  exact IsRat.stored hRB n5 n6 (by have := Hb7.out; simpa using this.symm) rfl

theorem dir_fields : (Tryz.prog.fieldsOf 23).toList = [{ name := "P", type := 3, offset := 0, embedded := false, tag := "", pkgPath := "", byteOffset := 0 }, { name := "Q", type := 3, offset := 1, embedded := false, tag := "", pkgPath := "", byteOffset := 8 }] := by kernel_rfl
theorem part2 (a b : Int) (w : World) : (part 3 #[Value.int .i64 a, .int .i64 b] 0).run Tryz.prog w = .ok (.int .i64 a) w ∧ (part 3 #[Value.int .i64 a, .int .i64 b] 1).run Tryz.prog w = .ok (.int .i64 b) w := ⟨by kernel_rfl, by kernel_rfl⟩
theorem eqInt (x y : Int) (w : World) : (Op.equalIn 9999 3 (.int .i64 x) (.int .i64 y)).run Tryz.prog w = .ok (x == y) w := by rw [run_equalIn_int w 9998 3 .i64 .i64 x y Tryz.underlying3]
set_option maxRecDepth 100000 in
theorem eql_dir (a b c d : Int) (w : World) : (binOp .eql 23 (.agg #[.int .i64 a, .int .i64 b]) (.agg #[.int .i64 c, .int .i64 d])).run Tryz.prog w = .ok (.bool (a == c && b == d)) w := by
 rw [run_eql_struct, run_equalIn_struct w 9999 23 _ _ (by kernel_rfl) (by kernel_rfl), dir_fields]
 have n0 : ("P" ≠ "_") := by decide
 have n1 : ("Q" ≠ "_") := by decide
 unfold Op.eqFields
 rw [if_pos n0]
 simp only [Sem.run_bind, (part2 _ _ _).1, eqInt, Result.andThen_ok, Sem.run_ite]
 cases a == c with
 | false => simp
 | true =>
  unfold Op.eqFields
  rw [if_pos n1]
  simp only [Sem.run_bind, (part2 _ _ _).2, eqInt, Result.andThen_ok, Sem.run_ite]
  unfold Op.eqFields
  by_cases h : b = d <;> simp [h]

set_option maxHeartbeats 2000000 in
theorem checkDir_ok (p q : Int) (w : World) (h0 : p ≠ 0 ∨ q ≠ 0) (h1 : inL p (-1048576) 1048576 = true) (h2 : inL q (-1048576) 1048576 = true) : Calls Tryz.prog 12 #[.agg #[.int .i64 p, .int .i64 q]] w (RetInt 0 w) := by
 have hal := (Below.refl w.heap.size w).alloc (Nat.le_refl _) (.cells #[.int .i64 p, .int .i64 q] 23)
 have hB0 := blk_new w #[.int .i64 p, .int .i64 q] 23
 have he := eql_dir p q 0 0
 have e0 : (p == 0 && q == 0) = false := by
  rcases h0 with h | h
  ·
   rw [beq_eq_false_iff_ne.2 h]; rfl
  ·
   rw [beq_eq_false_iff_ne.2 h]; simp
 rw [e0] at he
 have H1 := Lib.hid h1
 have H2 := Lib.hid h2
 clear h0 h1 h2 e0
 go_enter Tryz.func12, Tryz.ntmps12
 go_wp2_with fail
 refine (within_any p _ _ _).mono ?_
 rw [H1.out]
 rintro e w1 ⟨rfl, hb1⟩
 have c1 := blk_cell (blk_keep hB0 hb1 (blk_lt hB0)) 1 (.int .i64 q) rfl
 have hx1 := ext_trans hal hb1
 clear hal hB0 hb1
 go_wp2_with fail
 refine (within_any q _ _ _).mono ?_
 rw [H2.out]
 rintro e w2 ⟨rfl, hb2⟩
 go_wp2_with fail
 go_ret
 exact ⟨rfl, ext_trans hx1 hb2⟩

def RetPt (p : Pt) (w : World) (e : Ending) (w' : World) : Prop := e = .returned (.tuple #[.agg #[.int .i64 p.1, .int .i64 p.2], .int .i64 0]) ∧ Below w.heap.size w w'
set_option maxRecDepth 100000 in
set_option maxHeartbeats 4000000 in
theorem turned_ok (d p : Pt) (w : World) (h0 : d.1 ≠ 0 ∨ d.2 ≠ 0) (h1 : inL d.1 (-1048576) 1048576 = true) (h2 : inL d.2 (-1048576) 1048576 = true) (h3 : inL p.1 (-1048576) 1048576 = true) (h4 : inL p.2 (-1048576) 1048576 = true) :
  Calls Tryz.prog 4 #[.agg #[.int .i64 d.1, .int .i64 d.2], .agg #[.int .i64 p.1, .int .i64 p.2]] w (RetPt (turnI d p) w) := by
 have r1 : -1048576 ≤ d.1 ∧ d.1 ≤ 1048576 := by simpa [inL] using h1
 have r2 : -1048576 ≤ d.2 ∧ d.2 ≤ 1048576 := by simpa [inL] using h2
 have r3 : -1048576 ≤ p.1 ∧ p.1 ≤ 1048576 := by simpa [inL] using h3
 have r4 : -1048576 ≤ p.2 ∧ p.2 ≤ 1048576 := by simpa [inL] using h4
 have m1 := mul_absI r1 r3
 have m2 := mul_absI r2 r4
 have m3 := mul_absI r1 r4
 have m4 := mul_absI r2 r3
 have Hx : Hid ((turnI d p).1 = d.1 * p.1 + d.2 * p.2) := rfl
 have Hy : Hid ((turnI d p).2 = d.1 * p.2 - d.2 * p.1) := rfl
 have HC := Lib.hid (fun W => checkDir_ok d.1 d.2 W h0 h1 h2)
 have H3 := Lib.hid h3
 have H4 := Lib.hid h4
 clear h0 h1 h2 h3 h4 r1 r2 r3 r4
 obtain ⟨tx, htx⟩ : ∃ tx, tx = (turnI d p).1 := ⟨_, rfl⟩
 obtain ⟨ty, hty⟩ : ∃ ty, ty = (turnI d p).2 := ⟨_, rfl⟩
 rw [← htx] at Hx
 rw [← hty] at Hy
 have HTX := Lib.hid htx
 have HTY := Lib.hid hty
 clear htx hty
 generalize turnI d p = tp at *
 generalize d.1 = a at *
 generalize d.2 = b at *
 generalize p.1 = x at *
 generalize p.2 = y at *
 have e1 : IntKind.i64.wrap (a * x) = a * x := IntWalk.i64_in _ (by omega)
 have e2 : IntKind.i64.wrap (b * y) = b * y := IntWalk.i64_in _ (by omega)
 have e3 : IntKind.i64.wrap (a * y) = a * y := IntWalk.i64_in _ (by omega)
 have e4 : IntKind.i64.wrap (b * x) = b * x := IntWalk.i64_in _ (by omega)
 have e5 : IntKind.i64.wrap (a * x + b * y) = tx := by rw [Hx.out]; exact IntWalk.i64_in _ (by omega)
 have e6 : IntKind.i64.wrap (a * y - b * x) = ty := by rw [Hy.out]; exact IntWalk.i64_in _ (by omega)
 clear m1 m2 m3 m4
 have hA1 := (Below.refl w.heap.size w).alloc (Nat.le_refl _) (.cells #[.int .i64 a, .int .i64 b] 23)
 have hB1 := blk_new w #[.int .i64 a, .int .i64 b] 23
 have hA2 := hA1.alloc hA1.size (.cells #[.int .i64 x, .int .i64 y] 25)
 have hB1' := blk_keep hB1 ((Below.refl _ _).alloc (Nat.le_refl _) (.cells #[.int .i64 x, .int .i64 y] 25)) (blk_lt hB1)
 have hB2 := blk_new (w.alloc (.cells #[.int .i64 a, .int .i64 b] 23)) #[.int .i64 x, .int .i64 y] 25
 rw [World.size_alloc] at hB2
 have hA3 := hA2.alloc hA2.size (.cells #[.int .i64 0, .int .i64 0] 25)
 have hB1'' := blk_keep hB1' ((Below.refl _ _).alloc (Nat.le_refl _) (.cells #[.int .i64 0, .int .i64 0] 25)) (blk_lt hB1')
 have hB2' := blk_keep hB2 ((Below.refl _ _).alloc (Nat.le_refl _) (.cells #[.int .i64 0, .int .i64 0] 25)) (blk_lt hB2)
 have hB3 := blk_new ((w.alloc (.cells #[.int .i64 a, .int .i64 b] 23)).alloc (.cells #[.int .i64 x, .int .i64 y] 25)) #[.int .i64 0, .int .i64 0] 25
 rw [World.size_alloc, World.size_alloc] at hB3
 go_enter Tryz.func4, Tryz.ntmps4
 go_wp2_with fail
 generalize ((w.alloc (.cells #[.int .i64 a, .int .i64 b] 23)).alloc (.cells #[.int .i64 x, .int .i64 y] 25)).alloc (.cells #[.int .i64 0, .int .i64 0] 25) = W at *
 clear hA1 hA2 hB1 hB1' hB2
 refine (HC.out _).mono ?_
 rintro e w1 ⟨rfl, hb1⟩
 have k1 := blk_keep hB1'' hb1 (blk_lt hB1'')
 have k2 := blk_keep hB2' hb1 (blk_lt hB2')
 have k3 := blk_keep hB3 hb1 (blk_lt hB3)
 have hx1 := ext_trans hA3 hb1
 have q0 := blk_cell k2 0 (.int .i64 x) rfl
 clear hA3 hB1'' hB2' hB3 hb1
 go_wp2_with fail
 refine (within_any x _ _ _).mono ?_
 rw [H3.out]
 rintro e w2 ⟨rfl, hb2⟩
 have l1 := blk_keep k1 hb2 (blk_lt k1)
 have l2 := blk_keep k2 hb2 (blk_lt k2)
 have l3 := blk_keep k3 hb2 (blk_lt k3)
 have hx2 := ext_trans hx1 hb2
 have q1 := blk_cell l2 1 (.int .i64 y) rfl
 clear k1 k2 k3 hx1 hb2 q0
 go_wp2_with fail
 refine (within_any y _ _ _).mono ?_
 rw [H4.out]
 rintro e w3 ⟨rfl, hb3⟩
 have m1 := blk_keep l1 hb3 (blk_lt l1)
 have m2 := blk_keep l2 hb3 (blk_lt l2)
 have m3 := blk_keep l3 hb3 (blk_lt l3)
 have hx3 := ext_trans hx2 hb3
 have s0 := blk_cell m1 0 (.int .i64 a) rfl
 have s1 := blk_cell m1 1 (.int .i64 b) rfl
 have s2 := blk_cell m2 0 (.int .i64 x) rfl
 have s3 := blk_cell m2 1 (.int .i64 y) rfl
 have s4 := blk_cell m3 0 (.int .i64 0) rfl
 have s5 := blk_cell m3 1 (.int .i64 0) rfl
 have f0 := blk_frozen m3 0
 have f1 := blk_frozen m3 1
 have hl3 := blk_lt m3
 clear l1 l2 l3 hx2 hb3 q1 m1 m2 m3
 go_wp2_with fail
 refine bodyPost_ret (v := .tuple #[.agg #[.int .i64 tx, .int .i64 ty], .int .i64 0]) (by simp [results, Tryz.results4, go_sem, s4, s5]; first | done | exact ⟨rfl, rfl⟩ | rfl) rfl ⟨by rw [HTX.out, HTY.out], (hx3.setCell (p := ⟨w.heap.size + 2, 0, none⟩) (by show _ ≤ w.heap.size + 2; omega) _).setCell (p := ⟨w.heap.size + 2, 1, none⟩) (by show _ ≤ w.heap.size + 2; omega) _⟩

end Go.Proofs.YtakempimcbofgaaGreat

namespace Go.Proofs.YtakempimcbofgaaGreat
open Go.RowKit

theorem keepC6 {n : Nat} {W a b : World} {A0 A1 A2 A3 A4 A5 : Addr} {v0 v1 v2 v3 v4 v5 : Value} (hn : n ≤ W.heap.size) (hb : Below a.heap.size a b)
  (h : Below n W a ∧ a.cell? A0 = some v0 ∧ a.cell? A1 = some v1 ∧ a.cell? A2 = some v2 ∧ a.cell? A3 = some v3 ∧ a.cell? A4 = some v4 ∧ a.cell? A5 = some v5) :
  Below n W b ∧ b.cell? A0 = some v0 ∧ b.cell? A1 = some v1 ∧ b.cell? A2 = some v2 ∧ b.cell? A3 = some v3 ∧ b.cell? A4 = some v4 ∧ b.cell? A5 = some v5 := by
 obtain ⟨h0, h1, h2, h3, h4, h5, h6⟩ := h
 have e : ∀ A v, a.cell? A = some v → b.cell? A = some v := fun A v h => (hb.cell (World.block_lt_of_cell? (h := h))).trans h
 have := h0.size
 exact ⟨h0.trans (hb.mono (by omega)), e _ _ h1, e _ _ h2, e _ _ h3, e _ _ h4, e _ _ h5, e _ _ h6⟩
def sgI (z : Int) : Int := if z < 0 then -1 else if z = 0 then 0 else 1
theorem sgI_int (z : Int) : sgI z ≤ 0 ↔ z ≤ 0 := by
 unfold sgI
 split
 ·
  omega
 ·
  split <;> omega
theorem sgnI_int (z : Int) : sgnI (decide ((z : Rat).num < 0)) (z : Rat).num.natAbs = sgI z := by
 have e : (z : Rat).num = z := by simp
 rw [e]
 unfold sgnI sgI
 by_cases h : z < 0
 ·
  simp [h]
 ·
  by_cases h0 : z = 0
  ·
   simp [h0]
  ·
   simp [h, h0]
theorem sign_int (z : Int) (v : Value) (w : World) (h : IsRat w v (z : Rat)) : Calls Tryz.prog 74 #[v] w (RetInt (sgI z) w) := by
 obtain ⟨a5, c5, a6, c6, rfl, _, _⟩ := IsRat.opened h
 rw [← sgnI_int]
 exact sign_any _ _ _ _ _ _ _ _

def OkK (l : List Pt) (k : Nat) : Prop := ∀ k', k' < k → ∀ j, j < k' → ∀ i, i < j → 0 < crossI (ptAt l i) (ptAt l j) (ptAt l k')
def OkJ (l : List Pt) (k j : Nat) : Prop := ∀ j', j' < j → ∀ i, i < j' → 0 < crossI (ptAt l i) (ptAt l j') (ptAt l k)
def OkI (l : List Pt) (k j i : Nat) : Prop := ∀ i', i' < i → 0 < crossI (ptAt l i') (ptAt l j) (ptAt l k)
theorem OkI.step {l : List Pt} {k j i : Nat} (h : OkI l k j i) (h1 : 0 < crossI (ptAt l i) (ptAt l j) (ptAt l k)) : OkI l k j (i + 1) := fun i' hi => by
 rcases Nat.lt_or_ge i' i with h2 | h2
 ·
  exact h i' h2
 ·
  obtain rfl : i' = i := by omega
  exact h1
theorem OkJ.step {l : List Pt} {k j : Nat} (h : OkJ l k j) (h1 : OkI l k j j) : OkJ l k (j + 1) := fun j' hj => by
 rcases Nat.lt_or_ge j' j with h2 | h2
 ·
  exact h j' h2
 ·
  obtain rfl : j' = j := by omega
  exact h1
theorem OkK.step {l : List Pt} {k : Nat} (h : OkK l k) (h1 : OkJ l k k) : OkK l (k + 1) := fun k' hk => by
 rcases Nat.lt_or_ge k' k with h2 | h2
 ·
  exact h k' h2
 ·
  obtain rfl : k' = k := by omega
  exact h1

theorem outErr_size (l : List Pt) (h : l.length < 3 ∨ 16 < l.length) : outErr l = 4 := by unfold outErr; rw [if_pos h]
theorem outErr_arg (l : List Pt) (h : ¬ (l.length < 3 ∨ 16 < l.length)) (h1 : ptsOk l = false) : outErr l = 1 := by unfold outErr; rw [if_neg h, if_pos h1]
theorem outErr_ok (l : List Pt) (h : ¬ (l.length < 3 ∨ 16 < l.length)) (h1 : ptsOk l = true) (h2 : Round3 l) : outErr l = 0 := by unfold outErr; rw [if_neg h, if_neg (by rw [h1]; simp), if_pos h2]
theorem outErr_order (l : List Pt) (h : ¬ (l.length < 3 ∨ 16 < l.length)) (h1 : ptsOk l = true) (h2 : ¬ Round3 l) : outErr l = 7 := by unfold outErr; rw [if_neg h, if_neg (by rw [h1]; simp), if_neg h2]

set_option maxRecDepth 100000 in
set_option maxHeartbeats 8000000 in
theorem checkOutline_any (l : List Pt) (v : Value) (w : World) (h : PairsOf w v l) : Calls Tryz.prog 49 #[v] w (RetInt (outErr l) w) := by
 have H := Lib.hid h
 obtain ⟨ao, cap, rfl, hE⟩ := h
 have HE := Lib.hid hE
 clear hE
 by_cases c1 : l.length < 3
 ·
  have Hr := Lib.hid (outErr_size l (.inl c1))
  have t1 : decide ((l.length : Int) < 3) = true := by simp; omega
  clear c1
  go_enter Tryz.func49, Tryz.ntmps49
  go_wp2_with fail
  go_ret
  exact ⟨by rw [Hr.out]; rfl, Below.refl _ _⟩
 ·
  have t1 : decide ((l.length : Int) < 3) = false := by simp; omega
  by_cases c2 : 16 < l.length
  ·
   have Hr := Lib.hid (outErr_size l (.inr c2))
   have t2 : decide ((l.length : Int) > 16) = true := by simp; omega
   clear c1 c2
   go_enter Tryz.func49, Tryz.ntmps49
   go_wp2_with fail
   go_ret
   exact ⟨by rw [Hr.out]; rfl, Below.refl _ _⟩
  ·
   have t2 : decide ((l.length : Int) > 16) = false := by simp; omega
   have hl16 : l.length ≤ 16 := by omega
   have Hsz : Hid (¬ (l.length < 3 ∨ 16 < l.length)) := by show ¬ _; omega
   clear c1 c2
   cases hok : ptsOk l with
   | false =>
    have Hr := Lib.hid (outErr_arg l Hsz.out hok)
    have Hok := Lib.hid hok
    clear hok
    go_enter Tryz.func49, Tryz.ntmps49
    go_wp2_with fail
    refine (isRight_any l _ _ H.out (by omega)).mono ?_
    rw [Hok.out]
    rintro e w1 ⟨rfl, hb1⟩
    go_wp2_with fail
    go_ret
    exact ⟨by rw [Hr.out]; rfl, hb1⟩
   | true =>
    have Hok := Lib.hid hok
    clear hok
    go_enter Tryz.func49, Tryz.ntmps49
    go_wp2_with fail
    refine (isRight_any l _ _ H.out (by omega)).mono ?_
    rw [Hok.out]
    rintro e w1 ⟨rfl, hb1⟩
    clear t1 t2
    go_wp2_with fail
    go_loopw [19] (fun kv wr => ∃ (k : Nat), k ≤ l.length ∧ kv = .int .i64 k ∧ Hid (OkK l k) ∧ Below w.heap.size w wr) (fun kv _ => l.length - (intOf kv).toNat)
    case atStart => exact ⟨0, Nat.zero_le _, rfl, fun k' hk => absurd hk (by omega), hb1⟩
    case round =>
     clear hb1
     obtain ⟨k, hk, rfl, hK, hbel⟩ := hrel
     by_cases hlk : k < l.length
     ·
      have hlk' : (k : Int) < l.length := by omega
      generalize wr = wo at *
      go_wp2_with fail
      go_loopw [23] (fun jv wr => ∃ (j : Nat), j ≤ k ∧ jv = .int .i64 j ∧ Hid (OkJ l k j) ∧ Below w.heap.size w wr) (fun jv _ => k - (intOf jv).toNat)
      case atStart => exact ⟨0, Nat.zero_le _, rfl, fun k' hk => absurd hk (by omega), hbel⟩
      case round =>
       clear hbel
       obtain ⟨j, hj, rfl, hJ, hbel⟩ := hrel
       by_cases hlj : j < k
       ·
        have hlj' : (j : Int) < k := by omega
        generalize wr = wp at *
        go_wp2_with fail
        go_loopw [27] (fun iv wr => ∃ (i : Nat), i ≤ j ∧ iv = .int .i64 i ∧ Hid (OkI l k j i) ∧ Below w.heap.size w wr) (fun iv _ => j - (intOf iv).toNat)
        case atStart => exact ⟨0, Nat.zero_le _, rfl, fun k' hk => absurd hk (by omega), hbel⟩
        case round =>
         clear hbel
         obtain ⟨i, hi, rfl, hI, hbel⟩ := hrel
         by_cases hli : i < j
         ·
          obtain ⟨b, off, rfl, hbl, hLL⟩ := HE.out (by omega)
          obtain ⟨p0, p1⟩ := (hLL i (by omega)).below hbel hbl
          obtain ⟨p2, p3⟩ := (hLL j (by omega)).below hbel hbl
          obtain ⟨p4, p5⟩ := (hLL k (by omega)).below hbel hbl
          have hli' : (i : Int) < j := by omega
          have hil : (i : Int) < l.length := by omega
          have hjl : (j : Int) < l.length := by omega
          have hi0 : (0 : Int) ≤ i := by omega
          have hj0 : (0 : Int) ≤ j := by omega
          have hk0 : (0 : Int) ≤ k := by omega
          have hbl2 : b < wr.heap.size := Nat.lt_of_lt_of_le hbl hbel.size
          have HC : Hid (∀ W, Calls Tryz.prog 73 #[.agg #[.int .i64 (l.getD i (0, 0)).1, .int .i64 (l.getD i (0, 0)).2], .agg #[.int .i64 (l.getD j (0, 0)).1, .int .i64 (l.getD j (0, 0)).2], .agg #[.int .i64 (l.getD k (0, 0)).1, .int .i64 (l.getD k (0, 0)).2]] W (RetRat ((crossI (ptAt l i) (ptAt l j) (ptAt l k) : Int) : Rat) W)) :=
           fun W => cross_any (ptAt l i) (ptAt l j) (ptAt l k) W (ptsOk_get Hok.out i (by omega)) (ptsOk_get Hok.out j (by omega)) (ptsOk_get Hok.out k (by omega))
          have Hst : Hid (0 < crossI (ptAt l i) (ptAt l j) (ptAt l k) → OkI l k j (i + 1)) := fun h1 => hI.out.step h1
          have Hbad : Hid (¬ 0 < crossI (ptAt l i) (ptAt l j) (ptAt l k) → outErr l = 7) := fun h1 => outErr_order l Hsz.out Hok.out (fun hR => h1 (hR k hlk j hlj i hli))
          generalize crossI (ptAt l i) (ptAt l j) (ptAt l k) = z at *
          generalize (l.getD i (0, 0)).1 = ax at *
          generalize (l.getD i (0, 0)).2 = ay at *
          generalize (l.getD j (0, 0)).1 = bx at *
          generalize (l.getD j (0, 0)).2 = by' at *
          generalize (l.getD k (0, 0)).1 = cx at *
          generalize (l.getD k (0, 0)).2 = cy at *
          have Hsg := Lib.hid (sgI_int z)
          have HSI := Lib.hid (sign_int z)
          clear hLL hI hJ hK
          go_wp2_with fail
          go_region_held3 (fun w' => Below wr.heap.size wr w' ∧ w'.cell? ⟨b, off + i * 2, none⟩ = some (.int .i64 ax) ∧ w'.cell? ⟨b, off + i * 2 + 1, none⟩ = some (.int .i64 ay) ∧ w'.cell? ⟨b, off + j * 2, none⟩ = some (.int .i64 bx) ∧ w'.cell? ⟨b, off + j * 2 + 1, none⟩ = some (.int .i64 by') ∧ w'.cell? ⟨b, off + k * 2, none⟩ = some (.int .i64 cx) ∧ w'.cell? ⟨b, off + k * 2 + 1, none⟩ = some (.int .i64 cy))
           (first | exact ⟨(Below.refl _ _).drew, p0, p1, p2, p3, p4, p5⟩ | assumption | exact keepC6 (Nat.le_refl _) hbB (by assumption) | exact keepC6 (Nat.le_refl _) hbA (by assumption))
           (first
            | (go_at_call 73; refine (HC.out _).mono ?_; rintro e wA ⟨vA, rfl, hvA, hbA⟩)
            | (go_at_call 74; refine (HSI.out _ _ hvA).mono ?_; rintro e wB ⟨rfl, hbB⟩))
          rename_i hS
          have hx := ext_trans hbel hS.1
          clear hS p0 p1 p2 p3 p4 p5 hvA
          generalize sgI z = s at *
          by_cases hz : 0 < z
          ·
           have Hst2 := Lib.hid (Hst.out hz)
           have t7 : decide (s ≤ 0) = false := decide_eq_false (fun h => by have := Hsg.out.1 h; omega)
           rw [t7]
           clear hz
           go_wp2_with fail
           exact ⟨⟨i + 1, by omega, by go_num, Hst2.out, hx⟩, meas_up hli⟩
          ·
           have Hr : Hid (outErr l = 7) := Hbad.out (by omega)
           have t7 : decide (s ≤ 0) = true := decide_eq_true (Hsg.out.2 (by omega))
           rw [t7]
           clear hz
           go_wp2_with fail
           go_ret
           exact ⟨by rw [Hr.out]; rfl, hx⟩
         ·
          obtain rfl : i = j := by omega
          go_wp2_with fail
          exact ⟨⟨i + 1, by omega, by go_num, hJ.out.step hI.out, hbel⟩, meas_up hlj⟩
       ·
        obtain rfl : j = k := by omega
        go_wp2_with fail
        exact ⟨⟨j + 1, by omega, by go_num, hK.out.step hJ.out, hbel⟩, meas_up hlk⟩
     ·
      obtain rfl : k = l.length := by omega
      have Hr := Lib.hid (outErr_ok l Hsz.out Hok.out hK.out)
      go_wp2_with fail
      go_ret
      exact ⟨by rw [Hr.out]; rfl, hbel⟩

end Go.Proofs.YtakempimcbofgaaGreat
