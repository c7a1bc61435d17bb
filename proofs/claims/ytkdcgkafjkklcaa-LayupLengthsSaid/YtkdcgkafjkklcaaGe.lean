/- Part e of the lemmas and walks. -/
import Derived.ProofKit
import Derived.OpenShut
import Derived.ChangeOld
import Derived.Deep.Slices
import Derived.RangeFuncNested
import Derived.RangeFuncBound
import Derived.RangeFuncCalls
import Derived.RangeFuncLeaves
import Derived.Shelf.Abstract
import Derived.Shelf.RegionOpen
import Derived.OwnWalkIn
import Derived.TacticsInMore
import Derived.LoopNIn
import Derived.LoopIn
import Derived.Laws.EntriesVeiled
import Derived.Test.YtkdcgkafjkklcaaGa
import Derived.Test.YtkdcgkafjkklcaaGd

/- HOW THE ARGUMENTS OF A ROW ARE OPENED: slices of structs, read as lists. -/
namespace Go.Proofs.Ytkdcgkafjkklcaa
open Go.ChangeShapes Go.WideShapes Go.ChangeAt Go.RowKit

section
variable {H : Type} {enc : TypeId × Value → H} {P : Program} {w : World} {base : Nat} {spare : Nat → Bool} {held : Bool}
theorem trod_float {t : TypeId} {fuel : Nat} {cs : List Value} {x : DataW H × List MemPlace} {k : FloatKind} (ht : P.underlying t = some (.float k)) (h : DataW.trod enc P w base spare held fuel t cs = some x) :
    ∃ n, cs = [.float k n] ∧ x = (.lit (.float k n), []) ∧ (Lit.float k n).wf = true := by
  cases fuel with
  | zero => simp [DataW.trod] at h
  | succ n =>
    unfold DataW.trod at h
    rw [ht] at h
    split at h <;> simp_all

/-- A slice of structs of k cells each, opened: each element's cells, of which the element's own law holds. -/
theorem open_rows {r : Reach} {b0 : Nat} {t e : TypeId} {k : Nat} {v : Value} {d : DataW H} {p : List MemPlace} (ht : P.underlying t = some (.slice e)) (hk : P.cellsOf e = k) (hk0 : 0 < k) (Law : List Value → Prop)
    (hlaw : ∀ n cs y, DataW.trod enc P w 0 (fun _ => true) true n e cs = some y → Law cs) (hv : Value.okWide P w r b0 t v) (h : DataW.Trod enc P w 0 (fun _ => true) true t v d p) :
    ∃ ao len cap, v = .slice ao len cap ∧ len ≤ cap ∧ cap ≤ maxLen ∧ (0 < len → ∃ b off, ao = some ⟨b, off, none⟩ ∧ b < w.heap.size ∧ ∀ i, i < len → ∃ cs : List Value, cs.length = k ∧ Law cs ∧ ∀ j, j < k → w.cell? ⟨b, off + i * k + j, none⟩ = cs[j]?) := by
  obtain ⟨ao, len, cap, rfl⟩ := okWide_slice ht hv
  refine ⟨ao, len, cap, rfl, ?_⟩
  obtain ⟨fuel, hf⟩ := h
  rcases Deep.open_slice ht hf with ⟨hcs, _⟩ | ⟨a, len', cap', m, n, D, Pl, hcs, _, hl, hm, hmm, _, hi⟩
  · simp [Value.cells] at hcs
    obtain ⟨rfl, rfl, rfl⟩ := hcs
    exact ⟨Nat.le_refl _, by unfold maxLen; omega, fun h => absurd h (by omega)⟩
  · simp [Value.cells] at hcs
    obtain ⟨rfl, rfl, rfl⟩ := hcs
    refine ⟨hl, hm, fun hlen => ?_⟩
    simp only [if_true] at hmm
    subst hmm
    have key : ∀ i, i < len → ∃ cs : List Value, cs.length = k ∧ Law cs ∧ ∀ j, j < k → w.cell? (a.add (i * k + j)) = cs[j]? := by
      intro i hlt
      obtain ⟨cs', hc, hT⟩ := hi i (by omega)
      rw [hk] at hc
      obtain ⟨_, hcl, hat⟩ := World.cells?_some hc
      exact ⟨cs', hcl, hlaw _ _ _ hT, fun j hj => by rw [← hat j hj, Deep.add_add]⟩
    obtain ⟨b, off, spot⟩ := a
    have hsp : spot = none := by
      obtain ⟨cs, hcl, _, hat⟩ := key 0 hlen
      have h0 := hat 0 hk0
      rw [List.getElem?_eq_getElem (by omega)] at h0
      have := World.cell?_spot h0
      simpa [Addr.add] using this
    subst hsp
    have ea : ∀ j, (⟨b, off, none⟩ : Addr).add j = ⟨b, off + j, none⟩ := fun j => by unfold Addr.add; split <;> simp_all
    refine ⟨b, off, rfl, ?_, fun i hlt => ?_⟩
    · obtain ⟨cs, hcl, _, hat⟩ := key 0 hlen
      have h0 := hat 0 hk0
      rw [List.getElem?_eq_getElem (by omega), ea] at h0
      exact World.block_lt_of_cell? (h := h0)
    · obtain ⟨cs, hcl, hL, hat⟩ := key i hlt
      exact ⟨cs, hcl, hL, fun j hj => by rw [← hat j hj, ea, Nat.add_assoc]⟩
end

/-- A list whose elements are chosen one by one. -/
theorem choose_list {α : Type} (n : Nat) (d : α) (p : Nat → α → Prop) (h : ∀ i, i < n → ∃ x, p i x) : ∃ l : List α, l.length = n ∧ ∀ i, i < n → p i (l.getD i d) := by
  have h2 : ∀ i, ∃ x, i < n → p i x := fun i => by
    by_cases hi : i < n
    · obtain ⟨x, hx⟩ := h i hi
      exact ⟨x, fun _ => hx⟩
    · exact ⟨d, fun h => absurd h hi⟩
  refine ⟨(List.range n).map fun i => Classical.choose (h2 i), by simp, fun i hi => ?_⟩
  have e : ((List.range n).map fun i => Classical.choose (h2 i)).getD i d = Classical.choose (h2 i) := by simp [hi]
  rw [e]
  exact Classical.choose_spec (h2 i) hi

theorem i64R_of {n : Int} (h : (Lit.int .i64 n).wf = true) : i64R n := bounds_i64 h

section
variable {H : Type} {enc : TypeId × Value → H} {w : World}
theorem cells_i64 : Try.prog.cellsOf 2 = 1 := by kernel_rfl
theorem cells_int : Try.prog.cellsOf 3 = 1 := by kernel_rfl
theorem cells_f32 : Try.prog.cellsOf 23 = 1 := by kernel_rfl
theorem cells_frac : Try.prog.cellsOf 97 = 2 := by kernel_rfl
theorem cells_reading : Try.prog.cellsOf 109 = 2 := by kernel_rfl
set_option maxRecDepth 100000 in
theorem law_frac (n : Nat) (cs : List Value) (y : DataW H × List MemPlace) (h : DataW.trod enc Try.prog w 0 (fun _ => true) true n 97 cs = some y) : ∃ a b, cs = [.int .i64 a, .int .i64 b] ∧ i64R a ∧ i64R b := by
  obtain ⟨xs, m, _, _, hcl, hxl, hf⟩ := DataW.trod_struct Try.underlying97 h
  rw [cells_frac] at hcl
  have f0 : DataW.trod enc Try.prog w 0 (fun _ => true) true m 2 ((cs.drop 0).take (Try.prog.cellsOf 2)) = xs[0]? := hf 0 _ rfl
  have f1 : DataW.trod enc Try.prog w 0 (fun _ => true) true m 2 ((cs.drop 1).take (Try.prog.cellsOf 2)) = xs[1]? := hf 1 _ rfl
  match cs, hcl, xs, hxl with
  | [c0, c1], _, [x0, x1], _ =>
    simp only [cells_i64, List.drop_zero, List.take_succ_cons, List.take_zero, List.drop_succ_cons] at f0 f1
    obtain ⟨a, e0, _, wa⟩ := DataW.trod_int Try.underlying2 f0
    obtain ⟨b, e1, _, wb⟩ := DataW.trod_int Try.underlying2 f1
    simp at e0 e1
    exact ⟨a, b, by rw [e0, e1], i64R_of wa, i64R_of wb⟩
set_option maxRecDepth 100000 in
theorem law_reading (n : Nat) (cs : List Value) (y : DataW H × List MemPlace) (h : DataW.trod enc Try.prog w 0 (fun _ => true) true n 109 cs = some y) :
    ∃ (a : Int) (b : Nat), cs = [.int .i64 a, .float .f32 b] ∧ i64R a := by
  obtain ⟨xs, m, _, _, hcl, hxl, hf⟩ := DataW.trod_struct Try.underlying109 h
  rw [cells_reading] at hcl
  have f0 : DataW.trod enc Try.prog w 0 (fun _ => true) true m 3 ((cs.drop 0).take (Try.prog.cellsOf 3)) = xs[0]? := hf 0 _ rfl
  have f1 : DataW.trod enc Try.prog w 0 (fun _ => true) true m 23 ((cs.drop 1).take (Try.prog.cellsOf 23)) = xs[1]? := hf 1 _ rfl
  match cs, hcl, xs, hxl with
  | [c0, c1], _, [x0, x1], _ =>
    simp only [cells_int, cells_f32, List.drop_zero, List.take_succ_cons, List.take_zero, List.drop_succ_cons] at f0 f1
    obtain ⟨a, e0, _, wa⟩ := DataW.trod_int Try.underlying3 f0
    obtain ⟨b, e1, _, _⟩ := trod_float Try.underlying23 f1
    simp at e0 e1
    exact ⟨a, b, by rw [e0, e1], i64R_of wa⟩

set_option maxRecDepth 100000 in
/-- An argument of readings. -/
theorem open_log {r : Reach} {b0 : Nat} {v : Value} {d : DataW H} {p : List MemPlace} (hv : Value.okWide Try.prog w r b0 110 v) (h : DataW.Trod enc Try.prog w 0 (fun _ => true) true 110 v d p) :
    ∃ ls, LogOf w v ls ∧ ∀ i, i < ls.length → i64R (ls.getD i (0, 0)).1 := by
  obtain ⟨ao, len, cap, rfl, hl, hm, hE⟩ := open_rows Try.underlying110 cells_reading (by omega) (fun cs => ∃ (a : Int) (b : Nat), cs = [.int .i64 a, .float .f32 b] ∧ i64R a) law_reading hv h
  rcases Nat.eq_zero_or_pos len with h0 | hp
  · subst h0
    exact ⟨[], ⟨ao, cap, rfl, fun h => absurd h (by simp)⟩, fun i hi => absurd hi (by simp)⟩
  · obtain ⟨b, off, rfl, hb, hi⟩ := hE hp
    obtain ⟨ls, hlen, hls⟩ := choose_list len (0, 0) (fun i (x : Int × Nat) => RdAt w b (off + i * 2) x ∧ i64R x.1) (fun i hlt => by
      obtain ⟨cs, _, ⟨x, y, rfl, hx⟩, hc⟩ := hi i hlt
      exact ⟨(x, y), ⟨hc 0 (by omega), hc 1 (by omega)⟩, hx⟩)
    subst hlen
    exact ⟨ls, ⟨_, cap, rfl, fun _ => ⟨b, off, rfl, hb, fun i hi => (hls i hi).1⟩⟩, fun i hi => (hls i hi).2⟩
set_option maxRecDepth 100000 in
theorem open_frac {r : Reach} {b0 : Nat} {v : Value} {d : DataW H} {p : List MemPlace} (hv : Value.okWide Try.prog w r b0 97 v) (h : DataW.Trod enc Try.prog w 0 (fun _ => true) true 97 v d p) :
    ∃ a b, v = .agg #[.int .i64 a, .int .i64 b] ∧ i64R a ∧ i64R b := by
  obtain ⟨cs, rfl, _⟩ := okWide_struct Try.underlying97 hv
  obtain ⟨fuel, hf⟩ := h
  obtain ⟨a, b, e, wa, wb⟩ := law_frac _ _ _ hf
  obtain ⟨l⟩ := cs
  have e2 : l = [.int .i64 a, .int .i64 b] := by simpa [Value.cells] using e
  exact ⟨a, b, by rw [e2], wa, wb⟩
end

theorem own_knob : ownKnob Try.prog.godebug = none := by kernel_rfl
theorem laid_out : laidOutB Try.prog = true := by kernel_rfl

end Go.Proofs.Ytkdcgkafjkklcaa

/- ARGUMENTS OF FLAT TYPES (structs and arrays of numbers, floats, Booleans, strings), opened all alike. -/
namespace Go.Proofs.Ytkdcgkafjkklcaa
open Go.ChangeShapes Go.WideShapes Go.ChangeAt Go.RowKit

inductive Leaf where
  | int (k : IntKind) | float (k : FloatKind) | bool | string
def leafOk : Leaf → Value → Prop
  | .int k, v => ∃ n, v = .int k n ∧ (Lit.int k n).wf = true
  | .float k, v => ∃ n, v = .float k n ∧ (Lit.float k n).wf = true
  | .bool, v => ∃ b, v = .bool b
  | .string, v => ∃ s : ByteArray, v = .string s ∧ s.size ≤ maxLen
def allLeaf : List Leaf → List Value → Prop
  | [], [] => True
  | l :: ls, v :: vs => leafOk l v ∧ allLeaf ls vs
  | _, _ => False
theorem allLeaf_append : ∀ {ls : List Leaf} {vs : List Value} {ls' : List Leaf} {vs' : List Value}, allLeaf ls vs → allLeaf ls' vs' → allLeaf (ls ++ ls') (vs ++ vs')
  | [], [], _, _, _, h => h
  | _ :: _, _ :: _, _, _, ⟨h1, h2⟩, h => ⟨h1, allLeaf_append h2 h⟩
theorem allLeaf_length : ∀ {ls : List Leaf} {vs : List Value}, allLeaf ls vs → vs.length = ls.length
  | [], [], _ => rfl
  | _ :: _, _ :: _, ⟨_, h⟩ => by simp [allLeaf_length h]

section
variable (P : Program)
def flatFs (fl : TypeId → Option (List Leaf)) : List Field → Nat → Option (List Leaf)
  | [], _ => some []
  | f :: fs, o => if f.offset = o then (fl f.type).bind fun l => if P.cellsOf f.type = l.length then (flatFs fl fs (o + l.length)).map (l ++ ·) else none else none
def flatN (l : List Leaf) : Nat → List Leaf
  | 0 => []
  | n + 1 => flatN l n ++ l
/-- The leaves of a flat type. -/
def flat : Nat → TypeId → Option (List Leaf)
  | 0, _ => none
  | n + 1, t => match P.underlying t with
    | some .bool => some [.bool]
    | some (.int k) => some [.int k]
    | some (.float k) => some [.float k]
    | some .string => some [.string]
    | some (.struct fs) => (flatFs P (flat n) fs.toList 0).bind fun l => if P.cellsOf t = l.length then some l else none
    | some (.array m e) => (flat n e).bind fun l => if P.cellsOf e = l.length ∧ P.cellsOf t = m * l.length then some (flatN l m) else none
    | _ => none
end
theorem flatN_length (l : List Leaf) (n : Nat) : (flatN l n).length = n * l.length := by
  induction n with
  | zero => simp [flatN]
  | succ n ih => simp [flatN, ih, Nat.succ_mul]

section
variable {H : Type} {enc : TypeId × Value → H} {P : Program} {w : World}
theorem flatFs_law (fl : TypeId → Option (List Leaf)) (n : Nat) (cs : List Value) (ih : ∀ t l cs y, fl t = some l → DataW.trod enc P w 0 (fun _ => true) true n t cs = some y → allLeaf l cs) :
    ∀ (fs : List Field) (o : Nat) (ls : List Leaf), flatFs P fl fs o = some ls → (∀ f ∈ fs, ∃ y, DataW.trod enc P w 0 (fun _ => true) true n f.type ((cs.drop f.offset).take (P.cellsOf f.type)) = some y) →
      allLeaf ls ((cs.drop o).take ls.length)
  | [], o, ls, h, _ => by
    simp [flatFs] at h
    subst h
    simp [allLeaf]
  | f :: fs, o, ls, h, hf => by
    unfold flatFs at h
    split at h
    · rename_i ho
      subst ho
      rw [Option.bind_eq_some_iff] at h
      obtain ⟨l, h1, h2⟩ := h
      split at h2
      · rename_i hc
        rw [Option.map_eq_some_iff] at h2
        obtain ⟨l2, h3, rfl⟩ := h2
        obtain ⟨y, hy⟩ := hf f (by simp)
        have a1 := ih _ _ _ _ h1 hy
        rw [hc] at a1
        have a2 := flatFs_law fl n cs ih fs _ _ h3 (fun g hg => hf g (by simp [hg]))
        rw [List.length_append, List.take_add, List.drop_drop]
        exact allLeaf_append a1 a2
      · cases h2
    · cases h
theorem trod_array {t e : TypeId} {fuel m : Nat} {cs : List Value} {x : DataW H × List MemPlace} (ht : P.underlying t = some (.array m e)) (h : DataW.trod enc P w 0 (fun _ => true) true fuel t cs = some x) :
    ∃ n, fuel = n + 1 ∧ cs.length = P.cellsOf t ∧ ∀ i, i < m → ∃ y, DataW.trod enc P w 0 (fun _ => true) true n e ((cs.drop (i * P.cellsOf e)).take (P.cellsOf e)) = some y := by
  cases fuel with
  | zero => simp [DataW.trod] at h
  | succ n =>
    unfold DataW.trod at h
    rw [ht] at h
    split at h <;> simp_all
    obtain ⟨hl, xs, hp, hd⟩ := h
    intro i hi
    have hlen := mapM_some_length hp
    have := mapM_some_get hp i i (by simp [hi])
    rw [this]
    simp at hlen
    exact ⟨xs[i].1, xs[i].2, by simp [hlen, hi]⟩
theorem flat_law : ∀ (k : Nat) (t : TypeId) (ls : List Leaf) (n : Nat) (cs : List Value) (y : DataW H × List MemPlace), flat P k t = some ls → DataW.trod enc P w 0 (fun _ => true) true n t cs = some y → allLeaf ls cs := by
  intro k
  induction k with
  | zero => intro t ls n cs y h; simp [flat] at h
  | succ k ih =>
    intro t ls n cs y h ht
    unfold flat at h
    split at h
    · rename_i hu
      obtain ⟨b, rfl, _⟩ := DataW.trod_bool hu ht
      obtain rfl : [Leaf.bool] = ls := by simpa using h
      exact ⟨⟨b, rfl⟩, trivial⟩
    · rename_i kk hu
      obtain ⟨b, rfl, _, hw⟩ := DataW.trod_int hu ht
      obtain rfl : [Leaf.int kk] = ls := by simpa using h
      exact ⟨⟨b, rfl, hw⟩, trivial⟩
    · rename_i kk hu
      obtain ⟨b, rfl, _, hw⟩ := trod_float hu ht
      obtain rfl : [Leaf.float kk] = ls := by simpa using h
      exact ⟨⟨b, rfl, hw⟩, trivial⟩
    · rename_i hu
      obtain ⟨s, rfl, _, hw⟩ := DataW.trod_string hu ht
      obtain rfl : [Leaf.string] = ls := by simpa using h
      exact ⟨⟨s, rfl, hw⟩, trivial⟩
    · rename_i fs hu
      rw [Option.bind_eq_some_iff] at h
      obtain ⟨l, h1, h2⟩ := h
      split at h2
      · rename_i hc
        obtain rfl : l = ls := by simpa using h2
        obtain ⟨xs, m, _, _, hcl, hxl, hf⟩ := DataW.trod_struct hu ht
        have := flatFs_law (enc := enc) (w := w) (flat P k) m cs (fun t l cs y a b => ih t l m cs y a b) fs.toList 0 l h1 (fun f hf' => by
          obtain ⟨i, hi, rfl⟩ := List.getElem_of_mem hf'
          simp at hi
          have e := hf i fs[i] (by simp [hi])
          exact ⟨xs[i], by simp at e ⊢; rw [e]; simp [hxl, hi]⟩)
        rw [List.drop_zero, List.take_of_length_le (by rw [hcl, hc]; exact Nat.le_refl _)] at this
        exact this
      · cases h2
    · rename_i m e hu
      rw [Option.bind_eq_some_iff] at h
      obtain ⟨l, h1, h2⟩ := h
      split at h2
      · rename_i hc
        obtain ⟨hc1, hc2⟩ := hc
        obtain rfl : flatN l m = ls := by simpa using h2
        obtain ⟨n', _, hcl, hE⟩ := trod_array hu ht
        have key : ∀ j, j ≤ m → allLeaf (flatN l j) (cs.take (j * l.length)) := by
          intro j hj
          induction j with
          | zero => simp [flatN, allLeaf]
          | succ j ihj =>
            obtain ⟨y, hy⟩ := hE j (by omega)
            have a1 := ih _ _ _ _ _ h1 hy
            rw [hc1] at a1
            rw [Nat.succ_mul, List.take_add]
            exact allLeaf_append (ihj (by omega)) a1
        have := key m (Nat.le_refl _)
        rw [List.take_of_length_le (by rw [hcl, hc2]; exact Nat.le_refl _)] at this
        exact this
      · cases h2
    · cases h

/-- An argument that is a slice of flat elements. -/
theorem open_flats {r : Reach} {b0 : Nat} {t e : TypeId} {k : Nat} {ls : List Leaf} {v : Value} {d : DataW H} {p : List MemPlace} (ht : P.underlying t = some (.slice e)) (hk : P.cellsOf e = k) (hk0 : 0 < k) (hfl : flat P 8 e = some ls)
    (hv : Value.okWide P w r b0 t v) (h : DataW.Trod enc P w 0 (fun _ => true) true t v d p) :
    ∃ ao len cap, v = .slice ao len cap ∧ len ≤ cap ∧ cap ≤ maxLen ∧ (0 < len → ∃ b off, ao = some ⟨b, off, none⟩ ∧ b < w.heap.size ∧ ∀ i, i < len → ∃ cs : List Value, cs.length = k ∧ allLeaf ls cs ∧ ∀ j, j < k → w.cell? ⟨b, off + i * k + j, none⟩ = cs[j]?) :=
  open_rows ht hk hk0 (allLeaf ls) (fun n cs y hy => flat_law 8 e ls n cs y hfl hy) hv h
/-- An argument that is a struct or an array of flat parts. -/
theorem open_flat {t : TypeId} {ls : List Leaf} {v : Value} {d : DataW H} {p : List MemPlace} (hfl : flat P 8 t = some ls) (h : DataW.Trod enc P w 0 (fun _ => true) true t v d p) : allLeaf ls v.cells.toList := by
  obtain ⟨fuel, hf⟩ := h
  exact flat_law 8 t ls fuel _ _ hfl hf
end

end Go.Proofs.Ytkdcgkafjkklcaa

/- AN ACT OF THE STORE AS AN ARGUMENT: a struct that holds strings and a slice of strings. -/
namespace Go.Proofs.Ytkdcgkafjkklcaa
open Go.ChangeShapes Go.WideShapes Go.ChangeAt Go.RowKit

section
variable {H : Type} {enc : TypeId × Value → H} {P : Program} {w : World}
/-- A slice of flat elements among the cells of a struct. -/
theorem open_slice_cells {t e : TypeId} {k n : Nat} {ls : List Leaf} {cs : List Value} {y : DataW H × List MemPlace} (ht : P.underlying t = some (.slice e)) (hk : P.cellsOf e = k) (hk0 : 0 < k) (hfl : flat P 8 e = some ls)
    (h : DataW.trod enc P w 0 (fun _ => true) true n t cs = some y) :
    ∃ ao len cap, cs = [.slice ao len cap] ∧ len ≤ cap ∧ cap ≤ maxLen ∧ (0 < len → ∃ b off, ao = some ⟨b, off, none⟩ ∧ b < w.heap.size ∧ ∀ i, i < len → ∃ cs : List Value, cs.length = k ∧ allLeaf ls cs ∧ ∀ j, j < k → w.cell? ⟨b, off + i * k + j, none⟩ = cs[j]?) := by
  rcases Deep.open_slice ht h with ⟨hcs, _⟩ | ⟨a, len', cap', m, n', D, Pl, hcs, _, hl, hm, hmm, _, hi⟩
  · exact ⟨none, 0, 0, hcs, Nat.le_refl _, by unfold maxLen; omega, fun h => absurd h (by omega)⟩
  · refine ⟨some a, len', cap', hcs, hl, hm, fun hlen => ?_⟩
    simp only [if_true] at hmm
    subst hmm
    have key : ∀ i, i < len' → ∃ cs : List Value, cs.length = k ∧ allLeaf ls cs ∧ ∀ j, j < k → w.cell? (a.add (i * k + j)) = cs[j]? := by
      intro i hlt
      obtain ⟨cs', hc, hT⟩ := hi i (by omega)
      rw [hk] at hc
      obtain ⟨_, hcl, hat⟩ := World.cells?_some hc
      exact ⟨cs', hcl, flat_law 8 e ls _ _ _ hfl hT, fun j hj => by rw [← hat j hj, Deep.add_add]⟩
    obtain ⟨b, off, spot⟩ := a
    have hsp : spot = none := by
      obtain ⟨cs, hcl, _, hat⟩ := key 0 hlen
      have h0 := hat 0 hk0
      rw [List.getElem?_eq_getElem (by omega)] at h0
      have := World.cell?_spot h0
      simpa [Addr.add] using this
    subst hsp
    have ea : ∀ j, (⟨b, off, none⟩ : Addr).add j = ⟨b, off + j, none⟩ := fun j => by unfold Addr.add; split <;> simp_all
    refine ⟨b, off, rfl, ?_, fun i hlt => ?_⟩
    · obtain ⟨cs, hcl, _, hat⟩ := key 0 hlen
      have h0 := hat 0 hk0
      rw [List.getElem?_eq_getElem (by omega), ea] at h0
      exact World.block_lt_of_cell? (h := h0)
    · obtain ⟨cs, hcl, hL, hat⟩ := key i hlt
      exact ⟨cs, hcl, hL, fun j hj => by rw [← hat j hj, ea, Nat.add_assoc]⟩
end

/-- A slice of strings. -/
def StrsAt (w : World) (ao : Option Addr) (n : Nat) : Prop :=
  0 < n → ∃ b off, ao = some ⟨b, off, none⟩ ∧ b < w.heap.size ∧ ∀ i, i < n → ∃ s : ByteArray, w.cell? ⟨b, off + i, none⟩ = some (.string s) ∧ s.size ≤ maxLen
theorem StrsAt.below {w w' : World} {ao : Option Addr} {n : Nat} (h : StrsAt w ao n) (hb : Below w.heap.size w w') : StrsAt w' ao n := by
  intro h0
  obtain ⟨b, off, rfl, hlt, h⟩ := h h0
  refine ⟨b, off, rfl, Nat.lt_of_lt_of_le hlt hb.size, fun i hi => ?_⟩
  obtain ⟨s, hs, hz⟩ := h i hi
  exact ⟨s, (hb.cell (p := ⟨b, off + i, none⟩) hlt).trans hs, hz⟩

theorem cells_string : Try.prog.cellsOf 9 = 1 := by kernel_rfl
theorem cells_act : Try.prog.cellsOf 25 = 7 := by kernel_rfl
theorem cells_u8 : Try.prog.cellsOf 5 = 1 := by kernel_rfl
theorem cells_strs : Try.prog.cellsOf 22 = 1 := by kernel_rfl
section
variable {H : Type} {enc : TypeId × Value → H} {w : World}
set_option maxRecDepth 100000 in
theorem law_act (n : Nat) (cs : List Value) (y : DataW H × List MemPlace) (h : DataW.trod enc Try.prog w 0 (fun _ => true) true n 25 cs = some y) :
    ∃ (k : Int) (nm pl : ByteArray) (ao : Option Addr) (len cap : Nat) (t l : Int) (b : Nat), cs = [.int .u8 k, .string nm, .string pl, .slice ao len cap, .int .i64 t, .int .i64 l, .float .f32 b] ∧ nm.size ≤ maxLen ∧ pl.size ≤ maxLen ∧ len ≤ cap ∧ cap ≤ maxLen ∧ StrsAt w ao len ∧ (0 ≤ k ∧ k ≤ 255) ∧ i64R t ∧ i64R l := by
  obtain ⟨xs, m, _, _, hcl, hxl, hf⟩ := DataW.trod_struct Try.underlying25 h
  rw [cells_act] at hcl
  have f0 : DataW.trod enc Try.prog w 0 (fun _ => true) true m 5 ((cs.drop 0).take (Try.prog.cellsOf 5)) = xs[0]? := hf 0 _ rfl
  have f1 : DataW.trod enc Try.prog w 0 (fun _ => true) true m 9 ((cs.drop 1).take (Try.prog.cellsOf 9)) = xs[1]? := hf 1 _ rfl
  have f2 : DataW.trod enc Try.prog w 0 (fun _ => true) true m 9 ((cs.drop 2).take (Try.prog.cellsOf 9)) = xs[2]? := hf 2 _ rfl
  have f3 : DataW.trod enc Try.prog w 0 (fun _ => true) true m 22 ((cs.drop 3).take (Try.prog.cellsOf 22)) = xs[3]? := hf 3 _ rfl
  have f4 : DataW.trod enc Try.prog w 0 (fun _ => true) true m 3 ((cs.drop 4).take (Try.prog.cellsOf 3)) = xs[4]? := hf 4 _ rfl
  have f5 : DataW.trod enc Try.prog w 0 (fun _ => true) true m 3 ((cs.drop 5).take (Try.prog.cellsOf 3)) = xs[5]? := hf 5 _ rfl
  have f6 : DataW.trod enc Try.prog w 0 (fun _ => true) true m 23 ((cs.drop 6).take (Try.prog.cellsOf 23)) = xs[6]? := hf 6 _ rfl
  match cs, hcl, xs, hxl with
  | [c0, c1, c2, c3, c4, c5, c6], _, [x0, x1, x2, x3, x4, x5, x6], _ =>
    simp only [cells_int, cells_u8, cells_string, cells_strs, cells_f32, List.drop_zero, List.take_succ_cons, List.take_zero, List.drop_succ_cons] at f0 f1 f2 f3 f4 f5 f6
    obtain ⟨k, e0, _, w0⟩ := DataW.trod_int Try.underlying5 f0
    obtain ⟨nm, e1, _, w1⟩ := DataW.trod_string Try.underlying9 f1
    obtain ⟨pl, e2, _, w2⟩ := DataW.trod_string Try.underlying9 f2
    obtain ⟨ao, len, cap, e3, l1, l2, hE⟩ := open_slice_cells (ls := [.string]) Try.underlying22 cells_string (by omega) (by kernel_rfl) f3
    obtain ⟨t, e4, _, w4⟩ := DataW.trod_int Try.underlying3 f4
    obtain ⟨l, e5, _, w5⟩ := DataW.trod_int Try.underlying3 f5
    obtain ⟨b, e6, _, _⟩ := trod_float Try.underlying23 f6
    simp at e0 e1 e2 e3 e4 e5 e6
    subst e0 e1 e2 e3 e4 e5 e6
    refine ⟨k, nm, pl, ao, len, cap, t, l, b, rfl, w1, w2, l1, l2, ?_, bounds_u8 w0, i64R_of w4, i64R_of w5⟩
    intro h0
    obtain ⟨b', off, rfl, hb, hi⟩ := hE h0
    refine ⟨b', off, rfl, hb, fun i hlt => ?_⟩
    obtain ⟨cs, hcl, hL, hc⟩ := hi i hlt
    match cs, hcl with
    | [c], _ =>
      obtain ⟨⟨s, rfl, hs⟩, _⟩ := hL
      have h1 := hc 0 (by omega)
      simp at h1
      exact ⟨s, h1, hs⟩
set_option maxRecDepth 100000 in
theorem open_act {r : Reach} {b0 : Nat} {v : Value} {d : DataW H} {p : List MemPlace} (hv : Value.okWide Try.prog w r b0 25 v) (h : DataW.Trod enc Try.prog w 0 (fun _ => true) true 25 v d p) :
    ∃ (k : Int) (nm pl : ByteArray) (ao : Option Addr) (len cap : Nat) (t l : Int) (b : Nat), v = .agg #[.int .u8 k, .string nm, .string pl, .slice ao len cap, .int .i64 t, .int .i64 l, .float .f32 b] ∧ nm.size ≤ maxLen ∧ pl.size ≤ maxLen ∧ len ≤ cap ∧ cap ≤ maxLen ∧ StrsAt w ao len ∧ (0 ≤ k ∧ k ≤ 255) ∧ i64R t ∧ i64R l := by
  obtain ⟨⟨cs⟩, rfl, _⟩ := okWide_struct Try.underlying25 hv
  obtain ⟨fuel, hf⟩ := h
  obtain ⟨k, nm, pl, ao, len, cap, t, l, b, e, h1⟩ := law_act _ _ _ hf
  have e2 : cs = [.int .u8 k, .string nm, .string pl, .slice ao len cap, .int .i64 t, .int .i64 l, .float .f32 b] := by simpa [Value.cells] using e
  exact ⟨k, nm, pl, ao, len, cap, t, l, b, by rw [e2], h1⟩
end

end Go.Proofs.Ytkdcgkafjkklcaa

/- THE WALKS OF store.stretches AND OF ITS CLOSURES. -/
namespace Go.Proofs.Ytkdcgkafjkklcaa
open Go.RowKit

set_option maxHeartbeats 1000000 in
/-- The rate at a reading's temperature: the closure's own contract. -/
theorem rateF_any (es : List (Rat × Int)) (b Bt : Nat) (ve : Value) (w : World) (hbx : Boxed w Bt 107 ve) (he : EntsOf IsRat w ve es) (hs : ∀ i, i < es.length → szR (es.getD i (0, 0)).1 274877906944) (hlen : es.length ≤ 1000000) :
    Calls Try.prog 123 #[.float .f32 b, .pointer (some ⟨Bt, 0, none⟩)] w (RetInt (rateUp es (tempQ b)) w) := by
  have hc := hbx.cell
  have hlt := hbx.lt
  have HE := Lib.hid he
  have HS := Lib.hid hs
  obtain ⟨ao, cap, rfl, _⟩ := he
  clear hs hbx
  have HT : Hid (szR (tempQ b) 274877906944) := by
    have := tempQ_szR b
    exact ⟨Nat.le_trans this.1 (by omega), Nat.le_trans this.2 (by omega)⟩
  go_enter Try.func123, Try.ntmps123
  go_wp2_with fail
  refine (exact_any b _).mono ?_
  rintro e w1 ⟨v, rfl, hv, hb1⟩
  obtain ⟨a1, c1, a2, c2, rfl, n1, n2⟩ := hv.opened
  have Hv := Lib.hid hv
  have hc1 := (hb1.cell (p := ⟨Bt, 0, none⟩) hlt).trans hc
  have hlt1 : Bt < w1.heap.size := Nat.lt_of_lt_of_le hlt hb1.size
  have hal := (Below.refl w1.heap.size w1).alloc (Nat.le_refl _) (.cells #[.bool (decide ((tempQ b).num < 0)), .slice a1 (dig b64 (tempQ b).num.natAbs).length c1, .slice a2 (dig b64 (dn (tempQ b).den)).length c2] 50)
  clear hv n1 n2 hc hlt
  go_wp2_with fail
  refine (rate_any es (tempQ b) _ _ _ (HE.out.below IsRat.belowAll (ext_trans hb1 hal)) (Hv.out.below hal) HS.out HT.out hlen).mono ?_
  rintro e w2 ⟨rfl, hb2⟩
  have hx := ext_trans (ext_trans hb1 hal) hb2
  go_wp2_with fail
  go_ret
  exact ⟨rfl, hx⟩

/-- What stretches hands back: the iterator's value, over its boxes. -/
def RetSeq (es : List (Rat × Int)) (gap : Int) (ve vl : Value) (w : World) (e : Ending) (w' : World) : Prop :=
  e = .returned (.func (.func 125) #[] #[.pointer (some ⟨w.heap.size + 3, 0, none⟩), .pointer (some ⟨w.heap.size + 2, 0, none⟩), .pointer (some ⟨w.heap.size + 1, 0, none⟩), .pointer (some ⟨w.heap.size + 4, 0, none⟩)]) ∧
  w'.heap.size = w.heap.size + 5 ∧ Below w.heap.size w w' ∧
  Boxed w' w.heap.size 107 ve ∧ Boxed w' (w.heap.size + 1) 3 (.int .i64 gap) ∧ Boxed w' (w.heap.size + 2) 110 vl ∧ Boxed w' (w.heap.size + 3) 3 (.int .i64 (hotI es)) ∧
  Boxed w' (w.heap.size + 4) 221 (.func (.func 123) #[] #[.pointer (some ⟨w.heap.size, 0, none⟩)])

set_option maxHeartbeats 1000000 in
theorem stretches_any (es : List (Rat × Int)) (gap : Int) (ve vl : Value) (ls : List (Int × Nat)) (w : World) (he : EntsOf IsRat w ve es) (hl : LogOf w vl ls) (h0 : 0 < es.length) (h16 : es.length ≤ 16) :
    Calls Try.prog 107 #[ve, .int .i64 gap, vl] w (RetSeq es gap ve vl w) := by
  obtain ⟨aol, capl, rfl, _⟩ := hl
  obtain ⟨ao, cap, rfl, hE⟩ := he
  obtain ⟨be, offe, rfl, hble, hEE⟩ := hE h0
  obtain ⟨v0, vn, vd, _, _, _, hh, _⟩ := hEE (es.length - 1) (by omega)
  have hhot : (es.getD (es.length - 1) (0, 0)).2 = hotI es := rfl
  rw [hhot] at hh
  have e1 : (es.length : Int) - 1 = ((es.length - 1 : Nat) : Int) := by omega
  have e2 : ((es.length - 1 : Nat) : Int) < es.length := by omega
  generalize hP : es.length - 1 = P at *
  clear hP
  obtain ⟨A1, hA1⟩ : ∃ A1, A1 = w.alloc (.cells #[.slice (some ⟨be, offe, none⟩) es.length cap] 107) := ⟨_, rfl⟩
  obtain ⟨A2, hA2⟩ : ∃ A2, A2 = A1.alloc (.cells #[.int .i64 gap] 3) := ⟨_, rfl⟩
  obtain ⟨A3, hA3⟩ : ∃ A3, A3 = A2.alloc (.cells #[.slice aol ls.length capl] 110) := ⟨_, rfl⟩
  have s1 : A1.heap.size = w.heap.size + 1 := by rw [hA1]; simp
  have s2 : A2.heap.size = w.heap.size + 2 := by rw [hA2]; simp; omega
  have s3 : A3.heap.size = w.heap.size + 3 := by rw [hA3]; simp; omega
  have x1 : Below w.heap.size w A1 := by rw [hA1]; exact (Below.refl _ _).alloc (Nat.le_refl _) _
  have x2 : Below w.heap.size w A2 := by rw [hA2]; exact x1.alloc x1.size _
  have x3 : Below w.heap.size w A3 := by rw [hA3]; exact x2.alloc x2.size _
  have b1 : Boxed A1 w.heap.size 107 (.slice (some ⟨be, offe, none⟩) es.length cap) := by rw [hA1]; exact Boxed.new _ _ _
  have b2 : Boxed A2 (w.heap.size + 1) 3 (.int .i64 gap) := by rw [hA2, ← s1]; exact Boxed.new _ _ _
  have b3 : Boxed A3 (w.heap.size + 2) 110 (.slice aol ls.length capl) := by rw [hA3, ← s2]; exact Boxed.new _ _ _
  have b12 : Boxed A2 w.heap.size 107 (.slice (some ⟨be, offe, none⟩) es.length cap) := by rw [hA2]; exact b1.alloc _
  have b13 : Boxed A3 w.heap.size 107 (.slice (some ⟨be, offe, none⟩) es.length cap) := by rw [hA3]; exact b12.alloc _
  have b23 : Boxed A3 (w.heap.size + 1) 3 (.int .i64 gap) := by rw [hA3]; exact b2.alloc _
  have h3 : A3.cell? ⟨be, offe + P * 4 + 3, none⟩ = some (.int .i64 (hotI es)) := (x3.cell (p := ⟨be, _, none⟩) hble).trans hh
  have c13 := b13.cell
  clear hE hEE hhot b1 b2 b12 x1 x2
  rw [hA1] at hA2
  rw [hA2] at hA3
  have HA3 := Lib.hid hA3
  have S3 := Lib.hid s3
  clear hA1 hA2 hA3 s1 s2 s3 A1 A2
  go_enter Try.func107, Try.ntmps107
  go_wp2_with (rw [← HA3.out])
  have b4 := (Boxed.new A3 3 (.int .i64 (hotI es))).alloc (.cells #[.func (.func 123) #[] #[.pointer (some ⟨w.heap.size, 0, none⟩)]] 221)
  have b5 := Boxed.new (A3.alloc (.cells #[.int .i64 (hotI es)] 3)) 221 (.func (.func 123) #[] #[.pointer (some ⟨w.heap.size, 0, none⟩)])
  rw [World.size_alloc] at b5
  rw [S3.out] at b4 b5 ⊢
  go_ret
  exact ⟨rfl, by rw [World.size_alloc, World.size_alloc, S3.out], (x3.alloc x3.size _).alloc (Nat.le_trans x3.size (by simp)) _, (b13.alloc _).alloc _, (b23.alloc _).alloc _, (b3.alloc _).alloc _, b4, b5⟩

/-! ### The iterator -/

/-- Whatever cells lay, but those of block B, lie as they lay. -/
structure KeepCells (B : Nat) (W W' : World) : Prop where
  size : W.heap.size ≤ W'.heap.size
  same : ∀ (k : Nat) (o : Obj), k ≠ B → W.heap[k]? = some o → o.isCells = true → W'.heap[k]? = some o
def KpU (n B : Nat) (W W' : World) : Prop := Below n W W' ∧ KeepCells B W W'
theorem KpU.trans {n B : Nat} {X Y Z : World} (h : KpU n B X Y) (k : KpU n B Y Z) : KpU n B X Z :=
  ⟨h.1.trans k.1, Nat.le_trans h.2.size k.2.size, fun i o hB hi ho => k.2.same i o hB (h.2.same i o hB hi ho) ho⟩
theorem KpU.putObj {n B : Nat} {w : World} (hn : n ≤ w.heap.size) (W : World) (l : Nat) (o o' : Obj) (hl : w.heap.size ≤ l) (h : W.heap[l]? = some o) (hc : o.isCells = false) (hw : o.isWalk = false) : KpU n B W (W.putObj l o') :=
  ⟨belowK_b hn W l o o' hl h hc hw, by simp, fun k o2 _ hk ho => by
    by_cases e : k = l
    · subst e; rw [h] at hk; cases hk; rw [hc] at ho; cases ho
    · exact (World.putObj_heap_other e).trans hk⟩
theorem KpU.boxed {n B : Nat} {X Y : World} (h : KpU n B X Y) {b : Nat} {t : TypeId} {v : Value} (hb : Boxed X b t v) (hne : b ≠ B) : Boxed Y b t v := h.2.same b _ hne hb rfl
theorem KpU.blk {n B : Nat} {X Y : World} (h : KpU n B X Y) {b : Nat} {cs : Array Value} {t : TypeId} {fr : Nat × Nat} (hb : X.heap[b]? = some (.cells cs t fr)) (hne : b ≠ B) : Y.heap[b]? = some (.cells cs t fr) := h.2.same b _ hne hb rfl
theorem boxed_below {X Y : World} {b : Nat} {t : TypeId} {v : Value} (hb : Boxed X b t v) (h : Below X.heap.size X Y) : Boxed Y b t v := (h.block b hb.lt).trans hb

/-- A stretch of time and its worst rate. -/
abbrev Str := { x : Int × Int × Int // 0 ≤ x.2.2 ∧ x.2.2 ≤ 1000 }
def encS (x : Str) : Array Value := #[.agg #[.int .i64 x.1.1, .int .i64 x.1.2.1], .int .i64 x.1.2.2]
def strI (es : List (Rat × Int)) (gap : Int) (ls : List (Int × Nat)) (i : Nat) : Int × Int × Int :=
  (if i = 0 then -9223372036854775808 else lastT ls i, if i < ls.length then (ls.getD i (0, 0)).1 else 9223372036854775807, if i < ls.length then rateI es gap ls i else hotI es)
theorem strI_range {es : List (Rat × Int)} {ls : List (Int × Nat)} {f t : Int} (h : GoodLog es ls f t) (gap : Int) (i : Nat) : 0 ≤ (strI es gap ls i).2.2 ∧ (strI es gap ls i).2.2 ≤ 1000 := by
  show 0 ≤ (if i < ls.length then rateI es gap ls i else hotI es) ∧ (if i < ls.length then rateI es gap ls i else hotI es) ≤ 1000
  split
  · exact h.rate gap i
  · exact h.hot
def strS {es : List (Rat × Int)} {ls : List (Int × Nat)} {f t : Int} (h : GoodLog es ls f t) (gap : Int) (i : Nat) : Str := ⟨strI es gap ls i, strI_range h gap i⟩
def strsTo {es : List (Rat × Int)} {ls : List (Int × Nat)} {f t : Int} (h : GoodLog es ls f t) (gap : Int) (k : Nat) : List Str := (List.range k).map (strS h gap)
theorem strsTo_succ {es : List (Rat × Int)} {ls : List (Int × Nat)} {f t : Int} (h : GoodLog es ls f t) (gap : Int) (k : Nat) : strsTo h gap (k + 1) = strsTo h gap k ++ [strS h gap k] := by simp [strsTo, List.range_succ]
theorem strsTo_length {es : List (Rat × Int)} {ls : List (Int × Nat)} {f t : Int} (h : GoodLog es ls f t) (gap : Int) (k : Nat) : (strsTo h gap k).length = k := by simp [strsTo]
/-- The time from which stretch i goes. -/
def fromT (ls : List (Int × Nat)) (i : Nat) : Int := if i = 0 then -9223372036854775808 else lastT ls i
/-- The rate at the reading ahead. -/
def beforeT (es : List (Rat × Int)) (ls : List (Int × Nat)) (i : Nat) : Int := if i = 0 then hotI es else rateUp es (tempQ (ls.getD (i - 1) (0, 0)).2)
theorem encS_round {es : List (Rat × Int)} {ls : List (Int × Nat)} {f t : Int} (h : GoodLog es ls f t) (gap : Int) (i : Nat) (hi : i < ls.length) :
    encS (strS h gap i) = #[.agg #[.int .i64 (fromT ls i), .int .i64 (ls.getD i (0, 0)).1], .int .i64 (rateI es gap ls i)] := by
  simp only [encS, strS, strI, fromT, if_pos hi]
theorem encS_last {es : List (Rat × Int)} {ls : List (Int × Nat)} {f t : Int} (h : GoodLog es ls f t) (gap : Int) :
    encS (strS h gap ls.length) = #[.agg #[.int .i64 (fromT ls ls.length), .int .i64 9223372036854775807], .int .i64 (hotI es)] := by
  simp only [encS, strS, strI, fromT, if_neg (Nat.lt_irrefl _)]

end Go.Proofs.Ytkdcgkafjkklcaa

/- THE WALK OF THE ITERATOR OF store.stretches. -/
namespace Go.Proofs.Ytkdcgkafjkklcaa
open Go.RowKit Go.Shelf

attribute [local go_sem] Oper.semAt_some

theorem keepA3 {n : Nat} {W a b : World} {A0 A1 A2 : Addr} {v0 v1 v2 : Value} (hn : n ≤ W.heap.size) (hb : Below a.heap.size a b)
    (h : Below n W a ∧ a.cell? A0 = some v0 ∧ a.cell? A1 = some v1 ∧ a.cell? A2 = some v2) :
    Below n W b ∧ b.cell? A0 = some v0 ∧ b.cell? A1 = some v1 ∧ b.cell? A2 = some v2 := by
  obtain ⟨h0, h1, h2, h3⟩ := h
  have e : ∀ A v, a.cell? A = some v → b.cell? A = some v := fun A v h => (hb.cell (World.block_lt_of_cell? (h := h))).trans h
  have hs := h0.size
  exact ⟨h0.trans (hb.mono (by omega)), e _ _ h1, e _ _ h2, e _ _ h3⟩
theorem below_join {w a b : World} (h : Below w.heap.size w a) (k : Below a.heap.size a b) : Below w.heap.size w b := ext_trans h k
theorem strsTo_prefix {es : List (Rat × Int)} {ls : List (Int × Nat)} {f t : Int} (h : GoodLog es ls f t) (gap : Int) {k m : Nat} (hk : k ≤ m) : strsTo h gap k <+: strsTo h gap m := by
  induction m with
  | zero =>
    have : k = 0 := by omega
    rw [this]
    exact List.prefix_refl _
  | succ m ih =>
    rcases Nat.lt_or_ge k (m + 1) with h1 | h1
    · rw [strsTo_succ]
      exact (ih (by omega)).trans (List.prefix_append _ _)
    · obtain rfl : k = m + 1 := by omega
      exact List.prefix_refl _

/-- What the iterator owes. -/
def IterPost (xs : List Str) (J Jx : List Str → World → Prop) (e : Ending) (W' : World) : Prop :=
  (∃ v, e = .returned v) ∧ ((∃ ys, ys = xs ∧ J ys W') ∨ (∃ pre, pre <+: xs ∧ Jx pre W'))

set_option maxRecDepth 100000 in
set_option maxHeartbeats 4000000 in
theorem iter_in (es : List (Rat × Int)) (gap : Int) (ls : List (Int × Nat)) (f t : Int) (hg : GoodLog es ls f t) (ve vl : Value) (w0 : World) (he : EntsOf IsRat w0 ve es) (hl : LogOf w0 vl ls)
    (hs : ∀ i, i < es.length → szR (es.getD i (0, 0)).1 274877906944) (B B1 B2 B3 B4 B5 l n : Nat) (hn : 1 ≤ n) (h1 : B1 ≠ B) (h2 : B2 ≠ B) (h3 : B3 ≠ B) (h4 : B4 ≠ B) (h5 : B5 ≠ B) (J Jx : List Str → World → Prop) (W : World) (hW : Below w0.heap.size w0 W)
    (hB : B < W.heap.size) (hlen : es.length ≤ 1000000) (hJa : AbidesFrom W.heap.size J)
    (hY : ∀ pre x W1, J pre W1 → pre.length < ls.length + 1 → YieldAt Fence.wide (n - 1) Try.prog l (encS x) W1 fun e W' =>
      (e = .returned (.bool true) ∧ J (pre ++ [x]) W' ∧ KpU w0.heap.size B W1 W') ∨ (e = .returned (.bool false) ∧ Jx (pre ++ [x]) W'))
    (b1 : Boxed W B1 3 (.int .i64 (hotI es))) (b2 : Boxed W B2 110 vl) (b3 : Boxed W B3 3 (.int .i64 gap)) (b4 : Boxed W B4 221 (.func (.func 123) #[] #[.pointer (some ⟨B5, 0, none⟩)])) (b5 : Boxed W B5 107 ve)
    (h0 : J [] W) :
    CallsIn Fence.wide n Try.prog 125 #[.func (.yield l) #[] #[], .pointer (some ⟨B1, 0, none⟩), .pointer (some ⟨B2, 0, none⟩), .pointer (some ⟨B3, 0, none⟩), .pointer (some ⟨B4, 0, none⟩)] W
      (IterPost (strsTo hg gap (ls.length + 1)) J Jx) := by
  have HY := Lib.hid hY
  have HG := Lib.hid hg
  have HJ := Lib.hid hJa
  have HE := Lib.hid he
  have HS := Lib.hid hs
  obtain ⟨aol, capl, rfl, hL⟩ := hl
  have HL := Lib.hid hL
  have c1 := b1.cell
  have c2 := b2.cell
  clear hY hJa he hs hL
  refine callsIn_of_wp Try.func125 rfl trivial ?_ rfl
  simp only [Try.ntmps125, List.size_toArray, List.length_cons, List.length_nil, Nat.reduceAdd, Nat.reduceSub, Array.replicate_succ, Array.replicate_zero, List.push_toArray, List.append_toArray, List.nil_append, List.cons_append]
  gi_wp2
  refine wpIn_wide.2 ?_
  go_region
  gi_wp2
  gi_loopw [6, 7, 14] (fun fv bv iv wr => ∃ (i : Nat), i ≤ ls.length ∧ iv = .int .i64 i ∧ fv = .int .i64 (fromT ls i) ∧ bv = .int .i64 (beforeT es ls i) ∧ J (strsTo hg gap i) wr ∧ Below w0.heap.size w0 wr ∧ W.heap.size ≤ wr.heap.size ∧
      Boxed wr B1 3 (.int .i64 (hotI es)) ∧ Boxed wr B2 110 (.slice aol ls.length capl) ∧ Boxed wr B3 3 (.int .i64 gap) ∧ Boxed wr B4 221 (.func (.func 123) #[] #[.pointer (some ⟨B5, 0, none⟩)]) ∧ Boxed wr B5 107 ve)
    (fun _ _ iv _ => ls.length - (intOf iv).toNat)
  case atStart => exact ⟨0, Nat.zero_le _, rfl, rfl, rfl, HJ.out _ _ _ none h0 (grownBy_below ((Below.refl _ _).drew) none) (fun r e => by cases e), hW.drew, Nat.le_refl _, b1, b2, b3, b4, b5⟩
  case round =>
    clear h0 b1 b2 b3 b4 b5 c1 c2 hW
    obtain ⟨i, hi, rfl, rfl, rfl, hJ, hbel, hsz, b1, b2, b3, b4, b5⟩ := hrel
    have c1 := b1.cell
    have c2 := b2.cell
    have c3 := b3.cell
    have c4 := b4.cell
    have l1 := b1.lt
    have l2 := b2.lt
    have l3 := b3.lt
    have l4 := b4.lt
    by_cases hlt : i < ls.length
    · obtain ⟨b, off, rfl, hbl, hLL⟩ := HL.out (by omega)
      obtain ⟨g0, g1⟩ := (hLL i hlt).below hbel hbl
      have hbl2 : b < wr.heap.size := Nat.lt_of_lt_of_le hbl hbel.size
      have hlt' : (i : Int) < ls.length := by omega
      have hge' : (0 : Int) ≤ i := by omega
      have hLL' := Lib.hid hLL
      have HJ0 := Lib.hid hJ
      have hsf := run_store_f32
      have hneB : wr.heap.size ≠ B := by omega
      have hll := (log_ok HG.out.log).1
      have Henc := Lib.hid (encS_round HG.out gap i hlt)
      have hrI : Hid (rateI es gap ls i = if 0 < i ∧ (ls.getD i (0, 0)).1 - (ls.getD (i - 1) (0, 0)).1 ≤ gap then max (rateUp es (tempQ (ls.getD (i - 1) (0, 0)).2)) (rateUp es (tempQ (ls.getD i (0, 0)).2)) else hotI es) := rfl
      have Hfr : Hid (fromT ls (i + 1) = (ls.getD i (0, 0)).1) := by show fromT ls (i + 1) = _; unfold fromT lastT; rw [if_neg (by omega), if_neg (by omega)]; rfl
      have Hbe : Hid (beforeT es ls (i + 1) = rateUp es (tempQ (ls.getD i (0, 0)).2)) := by show beforeT es ls (i + 1) = _; unfold beforeT; rw [if_neg (by omega)]; rfl
      have hrg := (log_ok HG.out.log).2 i hlt
      generalize (ls.getD i (0, 0)).1 = ty at *
      generalize (ls.getD i (0, 0)).2 = bt at *
      clear hLL hJ
      have hN := blk_new wr #[.int .i64 ty, .float .f32 bt] 109
      have hal := (Below.refl wr.heap.size wr).alloc (Nat.le_refl _) (.cells #[.int .i64 ty, .float .f32 bt] 109)
      have s0 : (wr.alloc (.cells #[.int .i64 ty, .float .f32 bt] 109)).drew.cell? ⟨wr.heap.size, 0, none⟩ = some (.int .i64 ty) := blk_cell hN 0 _ rfl
      have s1 : (wr.alloc (.cells #[.int .i64 ty, .float .f32 bt] 109)).drew.cell? ⟨wr.heap.size, 1, none⟩ = some (.float .f32 bt) := blk_cell hN 1 _ rfl
      have hNd : (wr.alloc (.cells #[.int .i64 ty, .float .f32 bt] 109)).drew.heap[wr.heap.size]? = some (.cells #[.int .i64 ty, .float .f32 bt] 109 (0, 0)) := hN
      have hald := hal.drew
      by_cases hcase : 0 < i ∧ ty - (ls.getD (i - 1) (0, 0)).1 ≤ gap
      · obtain ⟨hi0, hle⟩ := hcase
        have ti : decide (0 < i) = true := by simp [hi0]
        obtain ⟨j, hj⟩ : ∃ j, i = j + 1 := ⟨i - 1, by omega⟩
        have e3 : i - 1 = j := by omega
        have HR0 : Hid (rateI es gap ls i = max (beforeT es ls i) (rateUp es (tempQ bt))) := by
          show _ = _
          rw [hrI.out, if_pos ⟨hi0, hle⟩]
          unfold beforeT
          rw [if_neg (by omega)]
        have hrgj := (log_ok HG.out.log).2 j (by omega)
        rw [e3] at hle
        have hws : IntKind.i64.wrap (ty - (ls.getD j (0, 0)).1) = ty - (ls.getD j (0, 0)).1 := IntWalk.i64_in _ (by omega)
        have hc : decide (ty - (ls.getD j (0, 0)).1 ≤ gap) = true := decide_eq_true hle
        have e1' : IntKind.i64.wrap ((i : Int) - 1) = (j : Int) := by rw [show (i : Int) - 1 = (j : Int) by omega]; exact IntWalk.i64_in _ (by omega)
        have hj2 : (j : Int) < ls.length := by omega
        have hj0 : (0 : Int) ≤ j := by omega
        obtain ⟨k0, _⟩ := (hLL'.out j (by omega)).below hbel hbl
        generalize (ls.getD j (0, 0)).1 = tj at *
        clear hi0 hj e3 hrI hle hrgj
        gi_wp2
        refine wpIn_wide.2 ?_
        go_region_held3 (fun w' => Below wr.heap.size wr w' ∧ w'.cell? ⟨wr.heap.size, 0, none⟩ = some (.int .i64 ty) ∧ w'.cell? ⟨B2, 0, none⟩ = some (.slice (some ⟨b, off, none⟩) ls.length capl) ∧ w'.cell? ⟨b, off + j * 2, none⟩ = some (.int .i64 tj) ∧ w'.cell? ⟨B3, 0, none⟩ = some (.int .i64 gap))
          (first | exact ⟨hal.drew, s0, (hal.cell (p := ⟨B2, 0, none⟩) l2).trans c2, (hal.cell (p := ⟨b, _, none⟩) hbl2).trans k0, (hal.cell (p := ⟨B3, 0, none⟩) l3).trans c3⟩)
          (first | skip)
        rename_i hS2
        clear hS2 k0 hws hc e1' hj0 hj2

        obtain ⟨wA, hwA⟩ : ∃ wA, wA = (wr.alloc (.cells #[.int .i64 ty, .float .f32 bt] 109)).drew := ⟨_, rfl⟩
        rw [← hwA] at hNd hald s0 s1 ⊢
        have c4A := (hald.cell (p := ⟨B4, 0, none⟩) l4).trans c4
        clear hwA hN hal c1 c2 c3 c4

        gi_wp2
        refine ⟨trivial, ?_⟩
        refine (callsIn_wide.2 (rateF_any es bt B5 ve _ (boxed_below b5 hald) (HE.out.below IsRat.belowAll (below_join hbel hald)) HS.out hlen)).mono ?_
        rintro e wY ⟨rfl, hbY⟩
        have hxY := hald.trans (hbY.mono hald.size)
        have NY := blk_keep hNd hbY (blk_lt hNd)

        have hJY := HJ.out _ _ wY none HJ0.out (grownBy_below hxY none) (fun r e => by cases e)
        replace b1 := boxed_below b1 hxY
        replace b2 := boxed_below b2 hxY
        replace b3 := boxed_below b3 hxY
        replace b4 := boxed_below b4 hxY
        replace b5 := boxed_below b5 hxY
        replace hbel := below_join hbel hxY
        replace hsz := Nat.le_trans hsz hxY.size
        obtain ⟨fn, tmps, assign, body, hy, hR⟩ := HY.out _ (strS hg gap i) wY hJY (by rw [strsTo_length]; omega)

        rw [Henc.out, HR0.out] at hy
        have cY := blk_cell NY 0 (.int .i64 ty) rfl
        clear c4A s0 s1 hNd hald hbY hxY hJY
        gi_wp2

        refine hR.mono ?_
        rintro e W3 (⟨rfl, hJ3, hk3⟩ | ⟨rfl, hJx3⟩)
        · have hN3 := hk3.blk NY hneB
          have b13 := hk3.boxed b1 h1
          have b23 := hk3.boxed b2 h2
          have b33 := hk3.boxed b3 h3
          have b43 := hk3.boxed b4 h4
          have b53 := hk3.boxed b5 h5
          have hbel3 := hbel.trans hk3.1
          have hsz3 := Nat.le_trans hsz hk3.2.size
          have t0 := blk_cell hN3 0 (.int .i64 ty) rfl
          have t1 := blk_cell hN3 1 (.float .f32 bt) rfl
          have t4 := b43.cell
          have hNl := blk_lt hN3
          have HJ3 := Lib.hid hJ3
          clear hk3 hR hJ3 hN3 NY b1 b2 b3 b4 b5 hbel hsz hy
          gi_wp2
          refine wpIn_wide.2 ?_
          go_region_held3 (fun w' => Below W3.heap.size W3 w' ∧ w'.cell? ⟨wr.heap.size, 0, none⟩ = some (.int .i64 ty) ∧ w'.cell? ⟨wr.heap.size, 1, none⟩ = some (.float .f32 bt) ∧ w'.cell? ⟨B4, 0, none⟩ = some (.func (.func 123) #[] #[.pointer (some ⟨B5, 0, none⟩)]))
            (first | exact ⟨(Below.refl _ _).drew, t0, t1, t4⟩ | assumption | (refine keepA3 (Nat.le_refl _) hbB ?_; assumption))
            (first | (go_at_call 123; refine (rateF_any es bt B5 ve _ (boxed_below b53 (And.left (by assumption))) (HE.out.below IsRat.belowAll (below_join hbel3 (And.left (by assumption)))) HS.out hlen).mono ?_; rintro e wB ⟨rfl, hbB⟩))
          rename_i hS2
          have hx := hS2.1
          clear hS2 hbB t0 t1 t4
          gi_wp2
          exact ⟨⟨i + 1, by omega, by go_num, by rw [Hfr.out], by rw [Hbe.out], by rw [strsTo_succ]; exact HJ.out _ _ _ none HJ3.out (grownBy_below hx none) (fun r e => by cases e), below_join hbel3 hx, Nat.le_trans hsz3 hx.size, boxed_below b13 hx, boxed_below b23 hx, boxed_below b33 hx, boxed_below b43 hx, boxed_below b53 hx⟩, meas_up hlt⟩
        · gi_wp2
          refine bodyPost_ret (results_none rfl _ _ _) rfl ?_
          exact ⟨⟨_, rfl⟩, .inr ⟨strsTo hg gap i ++ [strS hg gap i], by rw [← strsTo_succ]; exact strsTo_prefix hg gap (by omega), hJx3⟩⟩
      · have HR0 : Hid (rateI es gap ls i = hotI es) := by
          show _ = _
          rw [hrI.out, if_neg hcase]

        rcases Nat.eq_zero_or_pos i with hi0 | hi0
        · have ti : decide (0 < i) = false := by simp [hi0]
          clear hi0 hcase hrI
          gi_wp2
          refine wpIn_wide.2 ?_
          go_region

          obtain ⟨wY, hwY⟩ : ∃ wY, wY = (wr.alloc (.cells #[.int .i64 ty, .float .f32 bt] 109)).drew := ⟨_, rfl⟩
          rw [← hwY] at hNd hald s0 s1 ⊢
          have NY := hNd
          clear hwY hN hal c1 c2 c3 c4

          have hJY := HJ.out _ _ wY none HJ0.out (grownBy_below hald none) (fun r e => by cases e)
          replace b1 := boxed_below b1 hald
          replace b2 := boxed_below b2 hald
          replace b3 := boxed_below b3 hald
          replace b4 := boxed_below b4 hald
          replace b5 := boxed_below b5 hald
          replace hbel := below_join hbel hald
          replace hsz := Nat.le_trans hsz hald.size
          obtain ⟨fn, tmps, assign, body, hy, hR⟩ := HY.out _ (strS hg gap i) wY hJY (by rw [strsTo_length]; omega)

          rw [Henc.out, HR0.out] at hy
          have cY := blk_cell NY 0 (.int .i64 ty) rfl
          clear s0 s1 hNd hald hJY
          gi_wp2

          refine hR.mono ?_
          rintro e W3 (⟨rfl, hJ3, hk3⟩ | ⟨rfl, hJx3⟩)
          · have hN3 := hk3.blk NY hneB
            have b13 := hk3.boxed b1 h1
            have b23 := hk3.boxed b2 h2
            have b33 := hk3.boxed b3 h3
            have b43 := hk3.boxed b4 h4
            have b53 := hk3.boxed b5 h5
            have hbel3 := hbel.trans hk3.1
            have hsz3 := Nat.le_trans hsz hk3.2.size
            have t0 := blk_cell hN3 0 (.int .i64 ty) rfl
            have t1 := blk_cell hN3 1 (.float .f32 bt) rfl
            have t4 := b43.cell
            have hNl := blk_lt hN3
            have HJ3 := Lib.hid hJ3
            clear hk3 hR hJ3 hN3 NY b1 b2 b3 b4 b5 hbel hsz hy
            gi_wp2
            refine wpIn_wide.2 ?_
            go_region_held3 (fun w' => Below W3.heap.size W3 w' ∧ w'.cell? ⟨wr.heap.size, 0, none⟩ = some (.int .i64 ty) ∧ w'.cell? ⟨wr.heap.size, 1, none⟩ = some (.float .f32 bt) ∧ w'.cell? ⟨B4, 0, none⟩ = some (.func (.func 123) #[] #[.pointer (some ⟨B5, 0, none⟩)]))
              (first | exact ⟨(Below.refl _ _).drew, t0, t1, t4⟩ | assumption | (refine keepA3 (Nat.le_refl _) hbB ?_; assumption))
              (first | (go_at_call 123; refine (rateF_any es bt B5 ve _ (boxed_below b53 (And.left (by assumption))) (HE.out.below IsRat.belowAll (below_join hbel3 (And.left (by assumption)))) HS.out hlen).mono ?_; rintro e wB ⟨rfl, hbB⟩))
            rename_i hS2
            have hx := hS2.1
            clear hS2 hbB t0 t1 t4
            gi_wp2
            exact ⟨⟨i + 1, by omega, by go_num, by rw [Hfr.out], by rw [Hbe.out], by rw [strsTo_succ]; exact HJ.out _ _ _ none HJ3.out (grownBy_below hx none) (fun r e => by cases e), below_join hbel3 hx, Nat.le_trans hsz3 hx.size, boxed_below b13 hx, boxed_below b23 hx, boxed_below b33 hx, boxed_below b43 hx, boxed_below b53 hx⟩, meas_up hlt⟩
          · gi_wp2
            refine bodyPost_ret (results_none rfl _ _ _) rfl ?_
            exact ⟨⟨_, rfl⟩, .inr ⟨strsTo hg gap i ++ [strS hg gap i], by rw [← strsTo_succ]; exact strsTo_prefix hg gap (by omega), hJx3⟩⟩
        · have ti : decide (0 < i) = true := by simp [hi0]
          obtain ⟨j, hj⟩ : ∃ j, i = j + 1 := ⟨i - 1, by omega⟩
          have e3 : i - 1 = j := by omega
          have hrgj := (log_ok HG.out.log).2 j (by omega)
          rw [e3] at hcase
          have hws : IntKind.i64.wrap (ty - (ls.getD j (0, 0)).1) = ty - (ls.getD j (0, 0)).1 := IntWalk.i64_in _ (by omega)
          have hc : decide (ty - (ls.getD j (0, 0)).1 ≤ gap) = false := decide_eq_false (fun h => hcase ⟨hi0, h⟩)
          have e1' : IntKind.i64.wrap ((i : Int) - 1) = (j : Int) := by rw [show (i : Int) - 1 = (j : Int) by omega]; exact IntWalk.i64_in _ (by omega)
          have hj2 : (j : Int) < ls.length := by omega
          have hj0 : (0 : Int) ≤ j := by omega
          obtain ⟨k0, _⟩ := (hLL'.out j (by omega)).below hbel hbl
          generalize (ls.getD j (0, 0)).1 = tj at *
          clear hi0 hj e3 hrI hcase hrgj
          gi_wp2
          refine wpIn_wide.2 ?_
          go_region_held3 (fun w' => Below wr.heap.size wr w' ∧ w'.cell? ⟨wr.heap.size, 0, none⟩ = some (.int .i64 ty) ∧ w'.cell? ⟨B2, 0, none⟩ = some (.slice (some ⟨b, off, none⟩) ls.length capl) ∧ w'.cell? ⟨b, off + j * 2, none⟩ = some (.int .i64 tj) ∧ w'.cell? ⟨B3, 0, none⟩ = some (.int .i64 gap))
            (first | exact ⟨hal.drew, s0, (hal.cell (p := ⟨B2, 0, none⟩) l2).trans c2, (hal.cell (p := ⟨b, _, none⟩) hbl2).trans k0, (hal.cell (p := ⟨B3, 0, none⟩) l3).trans c3⟩)
            (first | skip)
          rename_i hS2
          clear hS2 k0 hws hc e1' hj0 hj2

          obtain ⟨wY, hwY⟩ : ∃ wY, wY = (wr.alloc (.cells #[.int .i64 ty, .float .f32 bt] 109)).drew := ⟨_, rfl⟩
          rw [← hwY] at hNd hald s0 s1 ⊢
          have NY := hNd
          clear hwY hN hal c1 c2 c3 c4

          have hJY := HJ.out _ _ wY none HJ0.out (grownBy_below hald none) (fun r e => by cases e)
          replace b1 := boxed_below b1 hald
          replace b2 := boxed_below b2 hald
          replace b3 := boxed_below b3 hald
          replace b4 := boxed_below b4 hald
          replace b5 := boxed_below b5 hald
          replace hbel := below_join hbel hald
          replace hsz := Nat.le_trans hsz hald.size
          obtain ⟨fn, tmps, assign, body, hy, hR⟩ := HY.out _ (strS hg gap i) wY hJY (by rw [strsTo_length]; omega)

          rw [Henc.out, HR0.out] at hy
          have cY := blk_cell NY 0 (.int .i64 ty) rfl
          clear s0 s1 hNd hald hJY
          gi_wp2

          refine hR.mono ?_
          rintro e W3 (⟨rfl, hJ3, hk3⟩ | ⟨rfl, hJx3⟩)
          · have hN3 := hk3.blk NY hneB
            have b13 := hk3.boxed b1 h1
            have b23 := hk3.boxed b2 h2
            have b33 := hk3.boxed b3 h3
            have b43 := hk3.boxed b4 h4
            have b53 := hk3.boxed b5 h5
            have hbel3 := hbel.trans hk3.1
            have hsz3 := Nat.le_trans hsz hk3.2.size
            have t0 := blk_cell hN3 0 (.int .i64 ty) rfl
            have t1 := blk_cell hN3 1 (.float .f32 bt) rfl
            have t4 := b43.cell
            have hNl := blk_lt hN3
            have HJ3 := Lib.hid hJ3
            clear hk3 hR hJ3 hN3 NY b1 b2 b3 b4 b5 hbel hsz hy
            gi_wp2
            refine wpIn_wide.2 ?_
            go_region_held3 (fun w' => Below W3.heap.size W3 w' ∧ w'.cell? ⟨wr.heap.size, 0, none⟩ = some (.int .i64 ty) ∧ w'.cell? ⟨wr.heap.size, 1, none⟩ = some (.float .f32 bt) ∧ w'.cell? ⟨B4, 0, none⟩ = some (.func (.func 123) #[] #[.pointer (some ⟨B5, 0, none⟩)]))
              (first | exact ⟨(Below.refl _ _).drew, t0, t1, t4⟩ | assumption | (refine keepA3 (Nat.le_refl _) hbB ?_; assumption))
              (first | (go_at_call 123; refine (rateF_any es bt B5 ve _ (boxed_below b53 (And.left (by assumption))) (HE.out.below IsRat.belowAll (below_join hbel3 (And.left (by assumption)))) HS.out hlen).mono ?_; rintro e wB ⟨rfl, hbB⟩))
            rename_i hS2
            have hx := hS2.1
            clear hS2 hbB t0 t1 t4
            gi_wp2
            exact ⟨⟨i + 1, by omega, by go_num, by rw [Hfr.out], by rw [Hbe.out], by rw [strsTo_succ]; exact HJ.out _ _ _ none HJ3.out (grownBy_below hx none) (fun r e => by cases e), below_join hbel3 hx, Nat.le_trans hsz3 hx.size, boxed_below b13 hx, boxed_below b23 hx, boxed_below b33 hx, boxed_below b43 hx, boxed_below b53 hx⟩, meas_up hlt⟩
          · gi_wp2
            refine bodyPost_ret (results_none rfl _ _ _) rfl ?_
            exact ⟨⟨_, rfl⟩, .inr ⟨strsTo hg gap i ++ [strS hg gap i], by rw [← strsTo_succ]; exact strsTo_prefix hg gap (by omega), hJx3⟩⟩
    · obtain rfl : i = ls.length := by omega
      obtain ⟨fn, tmps, assign, body, hy, hR⟩ := HY.out _ (strS hg gap ls.length) wr hJ (by rw [strsTo_length]; omega)
      rw [encS_last] at hy
      have HR := Lib.hid hR
      clear hR
      gi_wp2
      refine HR.out.mono ?_
      rintro e W3 (⟨rfl, hJ3, hk3⟩ | ⟨rfl, hJx3⟩)
      · gi_wp2
        go_end0
        exact ⟨⟨_, rfl⟩, .inl ⟨_, by rw [strsTo_succ], hJ3⟩⟩
      · gi_wp2
        go_end0
        exact ⟨⟨_, rfl⟩, .inr ⟨_, by rw [← strsTo_succ]; exact List.prefix_refl _, hJx3⟩⟩

end Go.Proofs.Ytkdcgkafjkklcaa

/- THE WALK OF store.used. -/
namespace Go.Proofs.Ytkdcgkafjkklcaa
open Go.RowKit Go.Shelf

attribute [local go_sem] Oper.semAt_some

theorem iter_stops (es : List (Rat × Int)) (gap : Int) (ls : List (Int × Nat)) (f t : Int) (hg : GoodLog es ls f t) (ve vl : Value) (w0 : World) (he : EntsOf IsRat w0 ve es) (hl : LogOf w0 vl ls)
    (hs : ∀ i, i < es.length → szR (es.getD i (0, 0)).1 274877906944) (B B1 B2 B3 B4 B5 n : Nat) (hn : 1 ≤ n) (h1 : B1 ≠ B) (h2 : B2 ≠ B) (h3 : B3 ≠ B) (h4 : B4 ≠ B) (h5 : B5 ≠ B) (W1 : World) (hW : Below w0.heap.size w0 W1)
    (hB : B < W1.heap.size) (hlen : es.length ≤ 1000000)
    (b1 : Boxed W1 B1 3 (.int .i64 (hotI es))) (b2 : Boxed W1 B2 110 vl) (b3 : Boxed W1 B3 3 (.int .i64 gap)) (b4 : Boxed W1 B4 221 (.func (.func 123) #[] #[.pointer (some ⟨B5, 0, none⟩)])) (b5 : Boxed W1 B5 107 ve) :
    SeqStopsK Fence.wide n Try.prog 125 #[.pointer (some ⟨B1, 0, none⟩), .pointer (some ⟨B2, 0, none⟩), .pointer (some ⟨B3, 0, none⟩), .pointer (some ⟨B4, 0, none⟩)] encS (KpU w0.heap.size B) (fun ys => ys = strsTo hg gap (ls.length + 1)) (fun pre => pre <+: strsTo hg gap (ls.length + 1)) (ls.length + 1) W1 :=
  fun l J Jx W hW1 hJ _ hY h0 =>
    iter_in es gap ls f t hg ve vl w0 he hl hs B B1 B2 B3 B4 B5 l n hn h1 h2 h3 h4 h5 J Jx W (below_join hW hW1) (Nat.lt_of_lt_of_le hB hW1.size) hlen hJ hY (boxed_below b1 hW1) (boxed_below b2 hW1) (boxed_below b3 hW1) (boxed_below b4 hW1) (boxed_below b5 hW1) h0

/-- What a stretch adds. -/
def addI (f t : Int) (x : Str) : Int := if max x.1.1 f < min x.1.2.1 t then (min x.1.2.1 t - max x.1.1 f) * x.1.2.2 else 0
def sumI (f t : Int) (xs : List Str) : Int := xs.foldl (fun s x => s + addI f t x) 0
theorem sumI_snoc (f t : Int) (xs : List Str) (x : Str) : sumI f t (xs ++ [x]) = sumI f t xs + addI f t x := by simp [sumI]
theorem addI_range {f t : Int} (hf : 0 ≤ f) (ht : t ≤ 1073741824) (x : Str) : 0 ≤ addI f t x ∧ addI f t x ≤ 1073741824000 := by
  unfold addI
  split
  · have := mul_range x.2.1 x.2.2 (show 0 ≤ min x.1.2.1 t - max x.1.1 f by omega) (show min x.1.2.1 t - max x.1.1 f ≤ 1073741824 by omega)
    rw [Int.mul_comm]
    exact this
  · omega
theorem sumI_foldl {f t : Int} (hf : 0 ≤ f) (ht : t ≤ 1073741824) (xs : List Str) (s : Int) : s ≤ xs.foldl (fun s x => s + addI f t x) s ∧ xs.foldl (fun s x => s + addI f t x) s ≤ s + 1073741824000 * xs.length := by
  induction xs generalizing s with
  | nil => simp
  | cons x xs ih =>
    have := ih (s + addI f t x)
    have := addI_range hf ht x
    simp only [List.foldl_cons, List.length_cons]
    omega
theorem sumI_range {f t : Int} (hf : 0 ≤ f) (ht : t ≤ 1073741824) (xs : List Str) : 0 ≤ sumI f t xs ∧ sumI f t xs ≤ 1073741824000 * xs.length := by
  have := sumI_foldl hf ht xs 0
  unfold sumI
  omega

theorem KeepCells.alloc (B : Nat) (W : World) (o : Obj) : KeepCells B W (W.alloc o) :=
  ⟨by simp, fun k o2 _ hk _ => (Below.heap_alloc W o k (Array.getElem?_eq_some_iff.1 hk).1).trans hk⟩
theorem KeepCells.set (B : Nat) (W : World) (v : Value) : KeepCells B W (W.setCell ⟨B, 0, none⟩ v) :=
  ⟨by simp, fun k o2 hB hk _ => (Below.heap_setCell W _ v k hB).trans hk⟩
theorem keepsN (B : Nat) (W : World) (n : Nat) : KeepsFrom B W (W.drewN n) := ⟨Nat.le_refl _, fun k o _ hk _ => hk⟩
theorem KeepCells.drewN (B : Nat) (W : World) (n : Nat) : KeepCells B W (W.drewN n) := ⟨Nat.le_refl _, fun k o2 _ hk _ => hk⟩
theorem KeepCells.setN (B : Nat) (W : World) (n : Nat) (v : Value) : KeepCells B W ((W.drewN n).setCell ⟨B, 0, none⟩ v) := ⟨(KeepCells.set B (W.drewN n) v).size, fun k o2 hB hk ho => (KeepCells.set B (W.drewN n) v).same k o2 hB hk ho⟩

set_option maxRecDepth 100000 in
set_option maxHeartbeats 4000000 in
theorem used_any (es : List (Rat × Int)) (gap : Int) (ls : List (Int × Nat)) (f t : Int) (hg : GoodLog es ls f t) (ve vl : Value) (w : World) (he : EntsOf IsRat w ve es) (hl : LogOf w vl ls)
    (hs : ∀ i, i < es.length → szR (es.getD i (0, 0)).1 274877906944) :
    Calls Try.prog 79 #[ve, .int .i64 gap, vl, .int .i64 f, .int .i64 t] w (RetInt (sumI f t (strsTo hg gap (ls.length + 1))) w) := by
  have HG := Lib.hid hg
  obtain ⟨h0, h16, _⟩ := tab_ok hg.tab
  have HE := Lib.hid he
  have HL := Lib.hid hl
  have HS := Lib.hid hs
  obtain ⟨aol, capl, rfl, _⟩ := hl
  obtain ⟨ao, cap, rfl, _⟩ := he
  clear hs
  obtain ⟨A1, hA1⟩ : ∃ A1, A1 = w.alloc (.cells #[.int .i64 f] 3) := ⟨_, rfl⟩
  obtain ⟨A2, hA2⟩ : ∃ A2, A2 = A1.alloc (.cells #[.int .i64 t] 3) := ⟨_, rfl⟩
  obtain ⟨A3, hA3⟩ : ∃ A3, A3 = A2.alloc (.cells #[.int .i64 0] 3) := ⟨_, rfl⟩
  have s1 : A1.heap.size = w.heap.size + 1 := by rw [hA1]; simp
  have s2 : A2.heap.size = w.heap.size + 2 := by rw [hA2]; simp; omega
  have s3 : A3.heap.size = w.heap.size + 3 := by rw [hA3]; simp; omega
  have x1 : Below w.heap.size w A1 := by rw [hA1]; exact (Below.refl _ _).alloc (Nat.le_refl _) _
  have x2 : Below w.heap.size w A2 := by rw [hA2]; exact x1.alloc x1.size _
  have x3 : Below w.heap.size w A3 := by rw [hA3]; exact x2.alloc x2.size _
  have b1 : Boxed A1 w.heap.size 3 (.int .i64 f) := by rw [hA1]; exact Boxed.new _ _ _
  have b2 : Boxed A2 (w.heap.size + 1) 3 (.int .i64 t) := by rw [hA2, ← s1]; exact Boxed.new _ _ _
  have b3 : Boxed A3 (w.heap.size + 2) 3 (.int .i64 0) := by rw [hA3, ← s2]; exact Boxed.new _ _ _
  have b12 : Boxed A2 w.heap.size 3 (.int .i64 f) := by rw [hA2]; exact b1.alloc _
  have b13 : Boxed A3 w.heap.size 3 (.int .i64 f) := by rw [hA3]; exact b12.alloc _
  have b23 : Boxed A3 (w.heap.size + 1) 3 (.int .i64 t) := by rw [hA3]; exact b2.alloc _
  clear b1 b2 b12 x1 x2
  rw [hA1] at hA2
  rw [hA2] at hA3
  have HA3 := Lib.hid hA3
  have S3 := Lib.hid s3
  clear hA1 hA2 hA3 s1 s2 s3 A1 A2
  refine (callsIn_wide (n := 3)).1 ?_
  refine callsIn_of_wp_marks Try.func79 rfl trivial ?_ rfl
  simp only [Try.ntmps79, List.size_toArray, List.length_cons, List.length_nil, Nat.reduceAdd, Nat.reduceSub, Array.replicate_succ, Array.replicate_zero, List.push_toArray, List.append_toArray, List.nil_append, List.cons_append]
  gi_wp2
  refine ⟨trivial, ?_⟩
  rw [← HA3.out]
  refine (callsIn_wide.2 (stretches_any es gap _ _ ls _ (HE.out.below IsRat.belowAll x3) (HL.out.below x3) h0 h16)).mono ?_
  rintro e W1 ⟨rfl, hsz, hb1, c5, c3, c2, c1, c4⟩
  rw [S3.out] at hsz hb1 c1 c2 c3 c4 c5 ⊢
  have hW1 : Below w.heap.size w W1 := x3.trans (hb1.mono (by omega))
  have d3 : Boxed W1 (w.heap.size + 1 + 1) 3 (.int .i64 0) := (hb1.block _ (by omega)).trans b3
  have d2 : Boxed W1 (w.heap.size + 1) 3 (.int .i64 t) := (hb1.block _ (by omega)).trans b23
  have d1 : Boxed W1 w.heap.size 3 (.int .i64 f) := (hb1.block _ (by omega)).trans b13
  clear b3 b13 b23 x3 hb1 HA3 S3
  gi_wp2
  refine wpIn_rangeFunc_ownH rfl (by omega) (gf := 125) (lb := #[.pointer (some ⟨w.heap.size + 3 + 3, 0, none⟩), .pointer (some ⟨w.heap.size + 3 + 2, 0, none⟩), .pointer (some ⟨w.heap.size + 3 + 1, 0, none⟩), .pointer (some ⟨w.heap.size + 3 + 4, 0, none⟩)]) rfl trivial (enters_of Try.func125 (by kernel_rfl) rfl)
    (iter_stops es gap ls f t hg _ _ w HE.out HL.out HS.out (w.heap.size + 1 + 1) _ _ _ _ _ (3 - 1) (by omega) (by omega) (by omega) (by omega) (by omega) (by omega) W1 hW1 (by omega) (by omega) c1 c2 c3 c4 c5)
    (fun h k => KpU.trans h k) (fun W l o o' hl h hc hw => KpU.putObj hW1.size W l o o' hl h hc hw) (Below.refl _ _) (fun _ => rfl)
    (fun pre W => ((Boxed W (w.heap.size + 1 + 1) 3 (.int .i64 (sumI f t pre)) ∧ Boxed W w.heap.size 3 (.int .i64 f)) ∧ Boxed W (w.heap.size + 1) 3 (.int .i64 t)) ∧ Below w.heap.size w W)
    (fun _ _ _ => False)
    (OwnFrom.and (OwnFrom.and (OwnFrom.and (Own.from (boxed_own _ _ _) _) (Own.from (boxed_own _ _ _) _)) (Own.from (boxed_own _ _ _) _)) (ownFrom_below (Nat.le_refl _) hW1.size))
    (fun _ _ _ _ _ hs _ _ => hs)
    ⟨⟨⟨d3, d1⟩, d2⟩, hW1⟩
    (fun x a' W => ∃ Bx, w.heap.size + 1 + 1 < Bx ∧ W.heap[Bx]? = some (.cells #[.int .i64 x.1.1, .int .i64 x.1.2.1] 101 (0, 0)) ∧ a' = { tmps := #[.slice ao es.length cap, .int .i64 gap, .slice aol ls.length capl, .int .i64 f, .int .i64 t, undef, undef, undef, .pointer (some ⟨w.heap.size, 0, none⟩), .pointer (some ⟨w.heap.size + 1, 0, none⟩), .int .i64 0, .pointer (some ⟨w.heap.size + 1 + 1, 0, none⟩), .pointer (some ⟨Bx, 0, none⟩), .int .i64 x.1.2.2, undef, undef, .slice ao es.length cap, .int .i64 gap, .slice aol ls.length capl, .func (.func 125) #[] #[.pointer (some ⟨w.heap.size + 3 + 3, 0, none⟩), .pointer (some ⟨w.heap.size + 3 + 2, 0, none⟩), .pointer (some ⟨w.heap.size + 3 + 1, 0, none⟩), .pointer (some ⟨w.heap.size + 3 + 4, 0, none⟩)], .agg #[.int .i64 x.1.1, .int .i64 x.1.2.1], .int .i64 x.1.2.2, undef, undef, undef, undef, undef, undef, undef, undef, undef, undef, undef, undef, undef, undef, undef, undef, undef, undef, undef], defers := [] })
    (fun x a' _ X Y row hs hg hr => by
      obtain ⟨Bx, h1, h2, h3⟩ := hs
      refine ⟨Bx, h1, (hg.block Bx (Array.getElem?_eq_some_iff.1 h2).1 (fun e => ?_)).trans h2, h3⟩
      obtain ⟨o, ho, hc⟩ := (hr Bx e.symm).2
      rw [h2] at ho; cases ho; cases hc)
    ?assign ?body ?done ?stop
  case assign =>
    rintro l pre x W K ⟨⟨⟨e3, e1⟩, e2⟩, hx⟩ hK
    have hsz2 := e3.lt
    simp only [encS]
    gi_wp2
    exact hK _ _ ((KeepsOthers.alloc _ _).from _) ⟨(Below.refl _ W).alloc hx.size _, KeepCells.alloc _ _ _⟩ ⟨⟨⟨e3.alloc _, e1.alloc _⟩, e2.alloc _⟩, hx.alloc hx.size _⟩ ⟨W.heap.size, hsz2, World.alloc_heap_new W _, rfl⟩
  case body =>
    rintro l pre x a' W hl ⟨r, hr⟩ ⟨⟨⟨e3, e1⟩, e2⟩, hx⟩ ⟨Bx, hBx, bX, rfl⟩ hlt
    have k3 := e3.cell
    have f3 := e3.frozen
    have k2 := e2.cell
    have k1 := e1.cell
    have l3 := e3.lt
    have l2 := e2.lt
    have l1 := e1.lt
    have m0 := blk_cell bX 0 (.int .i64 x.1.1) rfl
    have m1 := blk_cell bX 1 (.int .i64 x.1.2.1) rfl
    have hsum := sumI_range HG.out.f0 HG.out.t1 pre
    have hll := (log_ok HG.out.log).1
    have hadd := Lib.hid (sumI_snoc f t pre x)
    have hfr := HG.out.f0
    have htr := HG.out.t1
    have Hax : Hid (addI f t x = if max x.1.1 f < min x.1.2.1 t then (min x.1.2.1 t - max x.1.1 f) * x.1.2.2 else 0) := rfl
    obtain ⟨⟨p, q, r⟩, hr1, hr2⟩ := x
    dsimp only at m0 m1 hr1 hr2 Hax ⊢
    clear d1 d2 d3 c1 c2 c3 c4 c5
    by_cases hab : max p f < min q t
    · have tt : decide (max p f < min q t) = true := decide_eq_true hab
      have hm := mul_range hr1 hr2 (show 0 ≤ min q t - max p f by omega) (show min q t - max p f ≤ 1073741824 by omega)
      rw [Int.mul_comm] at hm
      have hw1 : IntKind.i64.wrap (min q t - max p f) = min q t - max p f := IntWalk.i64_in _ (by omega)
      have hw2 : IntKind.i64.wrap ((min q t - max p f) * r) = (min q t - max p f) * r := IntWalk.i64_in _ (by omega)
      have hw3 : IntKind.i64.wrap (sumI f t pre + (min q t - max p f) * r) = sumI f t pre + (min q t - max p f) * r := IntWalk.i64_in _ (by omega)
      have Ha := Hax.out
      rw [if_pos hab] at Ha
      rw [Ha] at hadd
      clear Ha Hax hab hm hsum hll hlt hfr htr
      gi_wp2
      refine wpIn_region_quiet_round (by kernel_rfl) (by kernel_rfl) (by kernel_rfl) ?_
      repeat (gi_big_quiet_step (fail))
      refine wpQuietIn_nil ?_
      intro _ hw'
      obtain ⟨nq, hw''⟩ := hw'
      subst hw''
      gi_wp2
      exact ⟨(keepsN _ W nq).trans ((KeepsOthers.setCell (W.drewN nq) _ _).from _), ⟨(below_dn (Below.refl _ _) nq).setCell (p := ⟨w.heap.size + 1 + 1, 0, none⟩) (by simp; omega) _, KeepCells.setN _ W nq _⟩, ⟨⟨by rw [hadd.out]; exact Boxed.set _ (W := W.drewN nq) e3, Boxed.other (W := W.drewN nq) e1 (by omega) _⟩, Boxed.other (W := W.drewN nq) e2 (by omega) _⟩, (below_dn hx nq).setCell (p := ⟨w.heap.size + 1 + 1, 0, none⟩) (by simp; omega) _⟩
    · have tt : decide (max p f < min q t) = false := decide_eq_false hab
      have Ha := Hax.out
      rw [if_neg hab] at Ha
      rw [Ha, Int.add_zero] at hadd
      clear Ha Hax hab hsum hll hlt hfr htr
      gi_wp2
      refine wpIn_region_quiet_round (by kernel_rfl) (by kernel_rfl) (by kernel_rfl) ?_
      repeat (gi_big_quiet_step (fail))
      refine wpQuietIn_nil ?_
      intro _ hw'
      obtain ⟨nq, hw''⟩ := hw'
      subst hw''
      gi_wp2
      exact ⟨keepsN _ W nq, ⟨below_dn (Below.refl _ _) nq, KeepCells.drewN _ W nq⟩, ⟨⟨by rw [hadd.out]; exact e3, e1⟩, e2⟩, below_dn hx nq⟩
  case done =>
    rintro D ys W hD rfl ⟨⟨⟨e3, e1⟩, e2⟩, hx⟩ hK
    have k3 := e3.cell
    gi_wp2
    refine ⟨by simp, .inl ⟨_, _, rfl, run_takeDeferred hK, ?_⟩⟩
    exact ⟨_, results_tmp rfl _ _ _, rfl, hx.trans (belowK_b (w := w) (Nat.le_refl _) W D _ _ (by omega) hK rfl rfl)⟩
  case stop =>
    rintro D c pre W _ _ h _
    exact h.elim

end Go.Proofs.Ytkdcgkafjkklcaa

/- Used OF THE PROGRAM AND OF THE REFERENCE. -/
namespace Go.Proofs.Ytkdcgkafjkklcaa
open Go.RowKit

/-! ### The sums agree -/
def addP (f t a b r : Int) : Int := if max a f < min b t then (min b t - max a f) * r else 0
theorem addI_round {es : List (Rat × Int)} {ls : List (Int × Nat)} {f t : Int} (h : GoodLog es ls f t) (gap : Int) (i : Nat) (hi : i < ls.length) :
    addI f t (strS h gap i) = rateI es gap ls i * bothI f t (lastT ls i) (ls.getD i (0, 0)).1 := by
  have hf := h.f0
  have hla := h.last i (by omega)
  have e : max (if i = 0 then (-9223372036854775808 : Int) else lastT ls i) f = max f (lastT ls i) := by
    split
    · rename_i h0
      have : lastT ls i = 0 := by unfold lastT; rw [if_pos h0]
      omega
    · omega
  show addP f t (strI es gap ls i).1 (strI es gap ls i).2.1 (strI es gap ls i).2.2 = _
  unfold strI bothI addP
  dsimp only
  rw [if_pos hi, if_pos hi, e]
  generalize (ls.getD i (0, 0)).1 = ty
  generalize rateI es gap ls i = R
  have e2 : min ty t = min t ty := by omega
  rw [e2]
  split
  · rw [Int.mul_comm]
    congr 1
    omega
  · have : max 0 (min t ty - max f (lastT ls i)) = 0 := by omega
    rw [this, Int.mul_zero]
theorem addI_last {es : List (Rat × Int)} {ls : List (Int × Nat)} {f t : Int} (h : GoodLog es ls f t) (gap : Int) :
    addI f t (strS h gap ls.length) = hotI es * bothI f t (lastT ls ls.length) 1073741825 := by
  have hf := h.f0
  have ht := h.t1
  have hla := h.last ls.length (by omega)
  have e : max (if ls.length = 0 then (-9223372036854775808 : Int) else lastT ls ls.length) f = max f (lastT ls ls.length) := by
    split
    · rename_i h0
      have : lastT ls ls.length = 0 := by unfold lastT; rw [if_pos h0]
      omega
    · omega
  show addP f t (strI es gap ls ls.length).1 (strI es gap ls ls.length).2.1 (strI es gap ls ls.length).2.2 = _
  unfold strI bothI addP
  dsimp only
  rw [if_neg (Nat.lt_irrefl _), if_neg (Nat.lt_irrefl _), e]
  have e2 : min 9223372036854775807 t = min t 1073741825 := by omega
  rw [e2]
  generalize hotI es = R
  split
  · rw [Int.mul_comm]
    congr 1
    omega
  · have : max 0 (min t 1073741825 - max f (lastT ls ls.length)) = 0 := by omega
    rw [this, Int.mul_zero]
theorem sumI_used {es : List (Rat × Int)} {ls : List (Int × Nat)} {f t : Int} (h : GoodLog es ls f t) (gap : Int) (k : Nat) (hk : k ≤ ls.length) : sumI f t (strsTo h gap k) = usedI es gap ls f t k := by
  induction k with
  | zero => rfl
  | succ k ih => rw [strsTo_succ, sumI_snoc, ih (by omega), addI_round h gap k (by omega)]; rfl
theorem sumI_all {es : List (Rat × Int)} {ls : List (Int × Nat)} {f t : Int} (h : GoodLog es ls f t) (gap : Int) : sumI f t (strsTo h gap (ls.length + 1)) = usedAll es gap ls f t := by
  rw [strsTo_succ, sumI_snoc, sumI_used h gap _ (Nat.le_refl _), addI_last]
  rfl

/-! ### What Used tells -/
def usedErr (es : List (Rat × Int)) (gap : Int) (ls : List (Int × Nat)) (f t : Int) : Int :=
  if tabErr es ≠ 0 then tabErr es else if gapB gap = false then 1 else if logErr ls ≠ 0 then logErr ls else if timeB f = false ∨ timeB t = false then 1 else if t < f then 7 else 0
def usedVal (es : List (Rat × Int)) (gap : Int) (ls : List (Int × Nat)) (f t : Int) : Int := if usedErr es gap ls f t = 0 then usedAll es gap ls f t else 0
theorem timeB_spec {n : Int} (h : timeB n = true) : 0 ≤ n ∧ n ≤ 1073741824 := by
  unfold timeB at h
  simpa using h
def UsedIs (es : List (Rat × Int)) (gap : Int) (ls : List (Int × Nat)) (f t v e : Int) : Prop := usedVal es gap ls f t = v ∧ usedErr es gap ls f t = e
theorem used_tab {es : List (Rat × Int)} {gap : Int} {ls : List (Int × Nat)} {f t : Int} (h : tabErr es ≠ 0) : UsedIs es gap ls f t 0 (tabErr es) := by
  have e : usedErr es gap ls f t = tabErr es := by unfold usedErr; rw [if_pos h]
  exact ⟨by unfold usedVal; rw [e, if_neg h], e⟩
theorem used_gap {es : List (Rat × Int)} {gap : Int} {ls : List (Int × Nat)} {f t : Int} (h : tabErr es = 0) (h2 : gapB gap = false) : UsedIs es gap ls f t 0 1 := by
  have e : usedErr es gap ls f t = 1 := by unfold usedErr; rw [if_neg (fun h3 => h3 h), if_pos h2]
  exact ⟨by unfold usedVal; rw [e, if_neg (by decide)], e⟩
theorem used_log {es : List (Rat × Int)} {gap : Int} {ls : List (Int × Nat)} {f t : Int} (h : tabErr es = 0) (h2 : gapB gap = true) (h3 : logErr ls ≠ 0) : UsedIs es gap ls f t 0 (logErr ls) := by
  have e : usedErr es gap ls f t = logErr ls := by unfold usedErr; rw [if_neg (fun h3 => h3 h), if_neg (by rw [h2]; decide), if_pos h3]
  exact ⟨by unfold usedVal; rw [e, if_neg h3], e⟩
theorem used_time {es : List (Rat × Int)} {gap : Int} {ls : List (Int × Nat)} {f t : Int} (h : tabErr es = 0) (h2 : gapB gap = true) (h3 : logErr ls = 0) (h4 : timeB f = false ∨ timeB t = false) : UsedIs es gap ls f t 0 1 := by
  have e : usedErr es gap ls f t = 1 := by unfold usedErr; rw [if_neg (fun h3 => h3 h), if_neg (by rw [h2]; decide), if_neg (fun h => h h3), if_pos h4]
  exact ⟨by unfold usedVal; rw [e, if_neg (by decide)], e⟩
theorem used_order {es : List (Rat × Int)} {gap : Int} {ls : List (Int × Nat)} {f t : Int} (h : tabErr es = 0) (h2 : gapB gap = true) (h3 : logErr ls = 0) (h4 : timeB f = true) (h5 : timeB t = true) (h6 : t < f) : UsedIs es gap ls f t 0 7 := by
  have e : usedErr es gap ls f t = 7 := by unfold usedErr; rw [if_neg (fun h3 => h3 h), if_neg (by rw [h2]; decide), if_neg (fun h => h h3), if_neg (by rw [h4, h5]; decide), if_pos h6]
  exact ⟨by unfold usedVal; rw [e, if_neg (by decide)], e⟩
theorem used_good {es : List (Rat × Int)} {gap : Int} {ls : List (Int × Nat)} {f t : Int} (h : tabErr es = 0) (h2 : gapB gap = true) (h3 : logErr ls = 0) (h4 : timeB f = true) (h5 : timeB t = true) (h6 : ¬ t < f) : UsedIs es gap ls f t (usedAll es gap ls f t) 0 := by
  have e : usedErr es gap ls f t = 0 := by unfold usedErr; rw [if_neg (fun h3 => h3 h), if_neg (by rw [h2]; decide), if_neg (fun h => h h3), if_neg (by rw [h4, h5]; decide), if_neg h6]
  exact ⟨by unfold usedVal; rw [e, if_pos rfl], e⟩
theorem goodLog_of {es : List (Rat × Int)} {ls : List (Int × Nat)} {f t : Int} (h : tabErr es = 0) (h3 : logErr ls = 0) (h4 : timeB f = true) (h5 : timeB t = true) : GoodLog es ls f t :=
  ⟨h, h3, (timeB_spec h4).1, (timeB_spec h4).2, (timeB_spec h5).1, (timeB_spec h5).2⟩

set_option maxHeartbeats 2000000 in
theorem Used_any (es : List (Rat × Int)) (gap : Int) (ls : List (Int × Nat)) (f t : Int) (ve vl : Value) (w : World) (he : EntsOf IsRat w ve es) (hl : LogOf w vl ls) (hs : ∀ i, i < es.length → szR (es.getD i (0, 0)).1 274877906944) :
    Calls Try.prog 38 #[ve, .int .i64 gap, vl, .int .i64 f, .int .i64 t] w (RetIE (usedVal es gap ls f t) (usedErr es gap ls f t) w) := by
  have HE := Lib.hid he
  have HL := Lib.hid hl
  have HS := Lib.hid hs
  obtain ⟨aol, capl, rfl, _⟩ := hl
  obtain ⟨ao, cap, rfl, _⟩ := he
  clear hs
  by_cases h0 : tabErr es = 0
  · have t0 : (tabErr es != 0) = false := by simp [h0]
    have H0 := Lib.hid h0
    clear h0
    cases hgp : gapB gap with
    | false =>
      have Hv := Lib.hid (used_gap (ls := ls) (f := f) (t := t) H0.out hgp)

      go_enter Try.func38, Try.ntmps38
      go_wp2_with fail
      refine (checkTable_any es _ _ HE.out HS.out).mono ?_
      rintro e w1 ⟨rfl, hb1⟩
      generalize tabErr es = te at *
      go_wp2_with fail

      refine (gap_any gap _).mono ?_
      rintro e w2 ⟨rfl, rfl⟩
      rw [hgp]
      go_wp2_with fail

      go_ret2
      exact ⟨by rw [Hv.out.1, Hv.out.2]; rfl, hb1⟩
    | true =>
      have Hg := Lib.hid hgp
      by_cases h1 : logErr ls = 0
      · have t1 : (logErr ls != 0) = false := by simp [h1]
        have H1 := Lib.hid h1
        clear h1
        cases htf : timeB f with
        | false =>
          have Hv := Lib.hid (used_time (f := f) (t := t) H0.out Hg.out H1.out (.inl htf))

          go_enter Try.func38, Try.ntmps38
          go_wp2_with fail
          refine (checkTable_any es _ _ HE.out HS.out).mono ?_
          rintro e w1 ⟨rfl, hb1⟩
          generalize tabErr es = te at *
          go_wp2_with fail

          refine (gap_any gap _).mono ?_
          rintro e w2 ⟨rfl, rfl⟩
          rw [hgp]
          go_wp2_with fail

          refine (checkLog_any ls _ _ (HL.out.below hb1)).mono ?_
          rintro e w2 ⟨rfl, hb2⟩
          have hx2 := ext_trans hb1 hb2
          generalize logErr ls = le at *
          go_wp2_with fail

          refine (time_any f _).mono ?_
          rintro e w3 ⟨rfl, rfl⟩
          rw [htf]
          go_wp2_with fail

          go_ret2
          exact ⟨by rw [Hv.out.1, Hv.out.2]; rfl, hx2⟩
        | true =>
          cases htt : timeB t with
          | false =>
            have Hv := Lib.hid (used_time (f := f) (t := t) H0.out Hg.out H1.out (.inr htt))

            go_enter Try.func38, Try.ntmps38
            go_wp2_with fail
            refine (checkTable_any es _ _ HE.out HS.out).mono ?_
            rintro e w1 ⟨rfl, hb1⟩
            generalize tabErr es = te at *
            go_wp2_with fail

            refine (gap_any gap _).mono ?_
            rintro e w2 ⟨rfl, rfl⟩
            rw [hgp]
            go_wp2_with fail

            refine (checkLog_any ls _ _ (HL.out.below hb1)).mono ?_
            rintro e w2 ⟨rfl, hb2⟩
            have hx2 := ext_trans hb1 hb2
            generalize logErr ls = le at *
            go_wp2_with fail

            refine (time_any f _).mono ?_
            rintro e w3 ⟨rfl, rfl⟩
            rw [htf]
            go_wp2_with fail

            refine (time_any t _).mono ?_
            rintro e w3 ⟨rfl, rfl⟩
            rw [htt]
            go_wp2_with fail

            go_ret2
            exact ⟨by rw [Hv.out.1, Hv.out.2]; rfl, hx2⟩
          | true =>
            by_cases hft : t < f
            · have Hv := Lib.hid (used_order (f := f) (t := t) H0.out Hg.out H1.out htf htt hft)
              have tt : decide (f > t) = true := decide_eq_true hft
              clear hft

              go_enter Try.func38, Try.ntmps38
              go_wp2_with fail
              refine (checkTable_any es _ _ HE.out HS.out).mono ?_
              rintro e w1 ⟨rfl, hb1⟩
              generalize tabErr es = te at *
              go_wp2_with fail

              refine (gap_any gap _).mono ?_
              rintro e w2 ⟨rfl, rfl⟩
              rw [hgp]
              go_wp2_with fail

              refine (checkLog_any ls _ _ (HL.out.below hb1)).mono ?_
              rintro e w2 ⟨rfl, hb2⟩
              have hx2 := ext_trans hb1 hb2
              generalize logErr ls = le at *
              go_wp2_with fail

              refine (time_any f _).mono ?_
              rintro e w3 ⟨rfl, rfl⟩
              rw [htf]
              go_wp2_with fail

              refine (time_any t _).mono ?_
              rintro e w3 ⟨rfl, rfl⟩
              rw [htt]
              go_wp2_with fail

              go_ret2
              exact ⟨by rw [Hv.out.1, Hv.out.2]; rfl, hx2⟩
            · have Hv := Lib.hid (used_good (f := f) (t := t) H0.out Hg.out H1.out htf htt hft)
              have HG := Lib.hid (goodLog_of H0.out H1.out htf htt)
              have tt : decide (f > t) = false := decide_eq_false hft
              clear hft

              go_enter Try.func38, Try.ntmps38
              go_wp2_with fail
              refine (checkTable_any es _ _ HE.out HS.out).mono ?_
              rintro e w1 ⟨rfl, hb1⟩
              generalize tabErr es = te at *
              go_wp2_with fail

              refine (gap_any gap _).mono ?_
              rintro e w2 ⟨rfl, rfl⟩
              rw [hgp]
              go_wp2_with fail

              refine (checkLog_any ls _ _ (HL.out.below hb1)).mono ?_
              rintro e w2 ⟨rfl, hb2⟩
              have hx2 := ext_trans hb1 hb2
              generalize logErr ls = le at *
              go_wp2_with fail

              refine (time_any f _).mono ?_
              rintro e w3 ⟨rfl, rfl⟩
              rw [htf]
              go_wp2_with fail

              refine (time_any t _).mono ?_
              rintro e w3 ⟨rfl, rfl⟩
              rw [htt]
              go_wp2_with fail

              refine (used_any es gap ls f t HG.out _ _ _ (HE.out.below IsRat.belowAll hx2) (HL.out.below hx2) HS.out).mono ?_
              rintro e w4 ⟨rfl, hb4⟩
              rw [sumI_all]
              have hx4 := ext_trans hx2 hb4
              go_wp2_with fail

              go_ret2
              exact ⟨by rw [Hv.out.1, Hv.out.2]; rfl, hx4⟩
      · have t1 : (logErr ls != 0) = true := by simp [h1]
        have Hv := Lib.hid (used_log (f := f) (t := t) H0.out Hg.out h1)
        clear h1

        go_enter Try.func38, Try.ntmps38
        go_wp2_with fail
        refine (checkTable_any es _ _ HE.out HS.out).mono ?_
        rintro e w1 ⟨rfl, hb1⟩
        generalize tabErr es = te at *
        go_wp2_with fail

        refine (gap_any gap _).mono ?_
        rintro e w2 ⟨rfl, rfl⟩
        rw [hgp]
        go_wp2_with fail

        refine (checkLog_any ls _ _ (HL.out.below hb1)).mono ?_
        rintro e w2 ⟨rfl, hb2⟩
        have hx2 := ext_trans hb1 hb2
        generalize logErr ls = le at *
        go_wp2_with fail

        go_ret2
        exact ⟨by rw [Hv.out.1, Hv.out.2]; rfl, hx2⟩
  · have t0 : (tabErr es != 0) = true := by simp [h0]
    have Hv := Lib.hid (used_tab (gap := gap) (ls := ls) (f := f) (t := t) h0)
    clear h0

    go_enter Try.func38, Try.ntmps38
    go_wp2_with fail
    refine (checkTable_any es _ _ HE.out HS.out).mono ?_
    rintro e w1 ⟨rfl, hb1⟩
    generalize tabErr es = te at *
    go_wp2_with fail

    go_ret2
    exact ⟨by rw [Hv.out.1, Hv.out.2]; rfl, hb1⟩

end Go.Proofs.Ytkdcgkafjkklcaa

/- THE WALK OF law06.awake: the examples of the chapter. -/
namespace Go.Proofs.Ytkdcgkafjkklcaa
open Go.RowKit

def esA : List (Rat × Int) := [(((250 : Int) : Rat), 1), (((290 : Int) : Rat), 10)]
def lsA : List (Int × Nat) := [(0, 1132396544), (100, 1133740032), (1000, 1132396544)]
def jsA : List (Int × Int) := [(0, 3), (0, 3), (0, 4)]
theorem awake_u1 : usedVal esA 200 lsA 0 200 = 2000 ∧ usedErr esA 200 lsA 0 200 = 0 := by decide +kernel
theorem awake_u2 : usedVal esA 200 lsA 100 1000 = 9000 ∧ usedErr esA 200 lsA 100 1000 = 0 := by decide +kernel
theorem awake_b : boundN jsA 2 = 5 ∧ (boundL jsA 2).length = 3 ∧ jobsErr jsA 2 = 0 := by decide +kernel

theorem szA : ∀ i, i < esA.length → szR (esA.getD i (0, 0)).1 274877906944 := by
  intro i hi
  have h1 : ∀ n d : Int, i64R n → i64R d → szR (fracQ n d) 274877906944 := fun n d hn hd => by
    have := fracQ_szR n d hn.1 hn.2 hd.1 hd.2
    exact ⟨Nat.le_trans this.1 (by omega), Nat.le_trans this.2 (by omega)⟩
  match i, hi with
  | 0, _ => exact h1 250 0 (by unfold i64R; omega) (by unfold i64R; omega)
  | 1, _ => exact h1 290 0 (by unfold i64R; omega) (by unfold i64R; omega)

theorem entsOf_two {R : World → Value → Rat → Prop} (w : World) (v0 v1 v2 u0 u1 u2 : Value) (r s : Int) (q p : Rat) (T : TypeId)
    (h : R (w.alloc (.cells #[v0, v1, v2, .int .i64 r, u0, u1, u2, .int .i64 s] T)) (.agg #[v0, v1, v2]) q) (k : R (w.alloc (.cells #[v0, v1, v2, .int .i64 r, u0, u1, u2, .int .i64 s] T)) (.agg #[u0, u1, u2]) p) :
    EntsOf R (w.alloc (.cells #[v0, v1, v2, .int .i64 r, u0, u1, u2, .int .i64 s] T)) (.slice (some ⟨w.heap.size, 0, none⟩) 2 2) [(q, r), (p, s)] := by
  refine ⟨_, _, rfl, fun _ => ⟨w.heap.size, 0, rfl, by simp, fun i hi => ?_⟩⟩
  have hN := blk_new w #[v0, v1, v2, .int .i64 r, u0, u1, u2, .int .i64 s] T
  match i, hi with
  | 0, _ => exact ⟨v0, v1, v2, blk_cell hN 0 _ rfl, blk_cell hN 1 _ rfl, blk_cell hN 2 _ rfl, blk_cell hN 3 _ rfl, h⟩
  | 1, _ => exact ⟨u0, u1, u2, blk_cell hN 4 _ rfl, blk_cell hN 5 _ rfl, blk_cell hN 6 _ rfl, blk_cell hN 7 _ rfl, k⟩
theorem logOf_three (w : World) (t0 t1 t2 : Int) (b0 b1 b2 : Nat) (T : TypeId) :
    LogOf (w.alloc (.cells #[.int .i64 t0, .float .f32 b0, .int .i64 t1, .float .f32 b1, .int .i64 t2, .float .f32 b2] T)) (.slice (some ⟨w.heap.size, 0, none⟩) 3 3) [(t0, b0), (t1, b1), (t2, b2)] := by
  refine ⟨_, _, rfl, fun _ => ⟨w.heap.size, 0, rfl, by simp, fun i hi => ?_⟩⟩
  have hN := blk_new w #[.int .i64 t0, .float .f32 b0, .int .i64 t1, .float .f32 b1, .int .i64 t2, .float .f32 b2] T
  match i, hi with
  | 0, _ => exact ⟨blk_cell hN 0 _ rfl, blk_cell hN 1 _ rfl⟩
  | 1, _ => exact ⟨blk_cell hN 2 _ rfl, blk_cell hN 3 _ rfl⟩
  | 2, _ => exact ⟨blk_cell hN 4 _ rfl, blk_cell hN 5 _ rfl⟩
theorem pairsOf_three (w : World) (t0 t1 t2 b0 b1 b2 : Int) (T : TypeId) :
    PairsOf (w.alloc (.cells #[.int .i64 t0, .int .i64 b0, .int .i64 t1, .int .i64 b1, .int .i64 t2, .int .i64 b2] T)) (.slice (some ⟨w.heap.size, 0, none⟩) 3 3) [(t0, b0), (t1, b1), (t2, b2)] := by
  refine ⟨_, _, rfl, fun _ => ⟨w.heap.size, 0, rfl, by simp, fun i hi => ?_⟩⟩
  have hN := blk_new w #[.int .i64 t0, .int .i64 b0, .int .i64 t1, .int .i64 b1, .int .i64 t2, .int .i64 b2] T
  match i, hi with
  | 0, _ => exact ⟨blk_cell hN 0 _ rfl, blk_cell hN 1 _ rfl⟩
  | 1, _ => exact ⟨blk_cell hN 2 _ rfl, blk_cell hN 3 _ rfl⟩
  | 2, _ => exact ⟨blk_cell hN 4 _ rfl, blk_cell hN 5 _ rfl⟩

set_option maxRecDepth 100000 in
set_option maxHeartbeats 4000000 in
theorem awake_any (w : World) : Calls Try.prog 9 #[] w (RetBool true w) := by
  go_enter Try.func9, Try.ntmps9
  go_wp2_with fail
  refine (int_any 250 _ (by omega) (by omega)).mono ?_
  rintro e w1 ⟨v1, rfl, hv1, hb1⟩
  obtain ⟨q1, Hq1⟩ : ∃ q1 : Rat, Hid (((250 : Int) : Rat) = q1) := ⟨_, rfl⟩
  rw [Hq1.out] at hv1
  obtain ⟨a1, c1, a2, c2, rfl, _, _⟩ := hv1.opened
  have Hv1 := Lib.hid hv1
  clear hv1
  go_wp2_with fail
  refine (int_any 290 _ (by omega) (by omega)).mono ?_
  rintro e w2 ⟨v2, rfl, hv2, hb2⟩
  obtain ⟨q2, Hq2⟩ : ∃ q2 : Rat, Hid (((290 : Int) : Rat) = q2) := ⟨_, rfl⟩
  rw [Hq2.out] at hv2
  obtain ⟨a3, c3, a4, c4, rfl, _, _⟩ := hv2.opened
  have hv1' := Hv1.out.below hb2
  have hal := (Below.refl w2.heap.size w2).alloc (Nat.le_refl _) (.cells #[.bool (decide (q1.num < 0)), .slice a1 (dig b64 q1.num.natAbs).length c1, .slice a2 (dig b64 (dn q1.den)).length c2, .int .i64 1, .bool (decide (q2.num < 0)), .slice a3 (dig b64 q2.num.natAbs).length c3, .slice a4 (dig b64 (dn q2.den)).length c4, .int .i64 10] 106)
  have HEs : Hid ([(q1, 1), (q2, 10)] = esA) := by show _ = esA; rw [← Hq1.out, ← Hq2.out]; rfl
  have HE0 := entsOf_two w2 _ _ _ _ _ _ 1 10 q1 q2 106 (hv1'.below hal) (hv2.below hal)
  rw [HEs.out] at HE0
  have HE := Lib.hid HE0
  have hx2 := ext_trans hb1 (ext_trans hb2 hal)
  clear HE0 hv1' hv2 Hv1 HEs Hq1 Hq2
  have hlog := logOf_three (w2.alloc (.cells #[.bool (decide (q1.num < 0)), .slice a1 (dig b64 q1.num.natAbs).length c1, .slice a2 (dig b64 (dn q1.den)).length c2, .int .i64 1, .bool (decide (q2.num < 0)), .slice a3 (dig b64 q2.num.natAbs).length c3, .slice a4 (dig b64 (dn q2.den)).length c4, .int .i64 10] 106)) 0 100 1000 1132396544 1133740032 1132396544 109
  rw [World.size_alloc] at hlog
  have hal2 := (Below.refl w2.heap.size w2).alloc (Nat.le_refl _) (.cells #[.bool (decide (q1.num < 0)), .slice a1 (dig b64 q1.num.natAbs).length c1, .slice a2 (dig b64 (dn q1.den)).length c2, .int .i64 1, .bool (decide (q2.num < 0)), .slice a3 (dig b64 q2.num.natAbs).length c3, .slice a4 (dig b64 (dn q2.den)).length c4, .int .i64 10] 106)
  have HL := Lib.hid hlog
  clear hlog hal hal2 hb1 hb2
  go_wp2_with fail
  refine (Used_any esA 200 lsA 0 200 _ _ _ (HE.out.below IsRat.belowAll ((Below.refl _ _).alloc (Nat.le_refl _) _)) HL.out szA).mono ?_
  rintro e w3 ⟨rfl, hb3⟩
  rw [awake_u1.1, awake_u1.2]
  have hx3 := ext_trans (ext_trans hx2 ((Below.refl _ _).alloc (Nat.le_refl _) _)) hb3
  go_wp2_with fail
  refine (Used_any esA 200 lsA 100 1000 _ _ _ ((HE.out.below IsRat.belowAll ((Below.refl _ _).alloc (Nat.le_refl _) _)).below IsRat.belowAll hb3) (HL.out.below hb3) szA).mono ?_
  rintro e w4 ⟨rfl, hb4⟩
  rw [awake_u2.1, awake_u2.2]
  have hx4 := ext_trans hx3 hb4
  have HJ := Lib.hid (pairsOf_three w4 0 0 0 3 3 4 116)
  clear hx2 hx3 hb3 hb4
  go_wp2_with fail
  refine (bound_any jsA 2 _ _ HJ.out).mono ?_
  rintro e w5 ⟨v, rfl, hv, hb5⟩
  rw [awake_b.1, awake_b.2.2]
  obtain ⟨av, cv, rfl, _⟩ := hv.opened
  rw [awake_b.2.1]
  have hx5 := ext_trans (ext_trans hx4 ((Below.refl _ _).alloc (Nat.le_refl _) _)) hb5
  clear hv hb5 hx4
  go_wp2_with fail
  go_ret
  exact ⟨rfl, hx5⟩

end Go.Proofs.Ytkdcgkafjkklcaa

/- THE WALK OF law06.StoreNil. -/
namespace Go.Proofs.Ytkdcgkafjkklcaa
open Go.RowKit

/-- The call returns v; nothing that was there has turned. -/
def RetTo (v : Value) (w : World) (e : Ending) (w' : World) : Prop := e = .returned v ∧ Below w.heap.size w w'

set_option maxHeartbeats 1000000 in
theorem item_nil (nm : ByteArray) (w : World) : Calls Try.prog 42 #[.pointer none, .string nm] w (RetTo (.pointer none) w) := by
  go_enter Try.func42, Try.ntmps42
  go_wp2_with fail
  go_ret
  exact ⟨rfl, Below.refl _ _⟩
set_option maxHeartbeats 1000000 in
theorem asked_nil (nm : ByteArray) (t : Int) (w : World) : Calls Try.prog 40 #[.pointer none, .string nm, .int .i64 t] w (RetTo (.tuple #[.pointer none, .int .i64 5]) w) := by
  go_enter Try.func40, Try.ntmps40
  go_wp2_with fail
  refine (item_nil nm _).mono ?_
  rintro e w1 ⟨rfl, hb1⟩
  go_wp2_with fail
  go_ret2
  exact ⟨rfl, hb1⟩
set_option maxHeartbeats 1000000 in
theorem left_nil (nm : ByteArray) (t : Int) (w : World) : Calls Try.prog 10 #[.pointer none, .string nm, .int .i64 t] w (RetTo (.tuple #[.int .i64 0, .int .i64 5]) w) := by
  go_enter Try.func10, Try.ntmps10
  go_wp2_with fail
  refine (asked_nil nm t _).mono ?_
  rintro e w1 ⟨rfl, hb1⟩
  go_wp2_with fail
  go_ret2
  exact ⟨rfl, hb1⟩
set_option maxHeartbeats 1000000 in
theorem until_nil (nm : ByteArray) (t : Int) (w : World) : Calls Try.prog 11 #[.pointer none, .string nm, .int .i64 t] w (RetTo (.tuple #[.int .i64 0, .int .i64 5]) w) := by
  go_enter Try.func11, Try.ntmps11
  go_wp2_with fail
  refine (asked_nil nm t _).mono ?_
  rintro e w1 ⟨rfl, hb1⟩
  go_wp2_with fail
  go_ret2
  exact ⟨rfl, hb1⟩
set_option maxHeartbeats 1000000 in
theorem kits_nil (nm : ByteArray) (w : World) : Calls Try.prog 13 #[.pointer none, .string nm] w (RetTo (.tuple #[.slice none 0 0, .int .i64 5]) w) := by
  go_enter Try.func13, Try.ntmps13
  go_wp2_with fail
  refine (item_nil nm _).mono ?_
  rintro e w1 ⟨rfl, hb1⟩
  go_wp2_with fail
  go_ret2
  exact ⟨rfl, hb1⟩
set_option maxHeartbeats 1000000 in
theorem add_nil (nm : ByteArray) (w : World) : Calls Try.prog 14 #[.pointer none, .string nm] w (RetTo (.int .i64 1) w) := by
  go_enter Try.func14, Try.ntmps14
  go_wp2_with fail
  go_ret
  exact ⟨rfl, Below.refl _ _⟩
set_option maxHeartbeats 1000000 in
theorem items_nil (w : World) : Calls Try.prog 15 #[.pointer none] w (RetTo (.slice none 0 0) w) := by
  go_enter Try.func15, Try.ntmps15
  go_wp2_with fail
  go_ret
  exact ⟨rfl, Below.refl _ _⟩
def RetItem5 (w : World) (e : Ending) (w' : World) : Prop := e = .returned (.tuple #[.agg #[.string { data := #[] }, .int .i64 0, .string { data := #[] }, .slice none 0 0, .int .i64 0], .int .i64 5]) ∧ Below w.heap.size w w'
set_option maxHeartbeats 1000000 in
theorem itemOf_nil (nm : ByteArray) (w : World) : Calls Try.prog 12 #[.pointer none, .string nm] w (RetItem5 w) := by
  go_enter Try.func12, Try.ntmps12
  go_wp2_with fail
  refine (item_nil nm _).mono ?_
  rintro e w1 ⟨rfl, hb1⟩
  have hB := blk_keep (blk_new w #[.string { data := #[] }, .int .i64 0, .string { data := #[] }, .slice none 0 0, .int .i64 0] 34) hb1 (by simp)
  have hx : Below w.heap.size w w1 := ((Below.refl _ _).alloc (Nat.le_refl _) _).trans (hb1.mono (by simp))
  have hBl := blk_lt hB
  have c0 := blk_cell hB 0 (.string { data := #[] }) rfl
  have c1 := blk_cell hB 1 (.int .i64 0) rfl
  have c2 := blk_cell hB 2 (.string { data := #[] }) rfl
  have c3 := blk_cell hB 3 (.slice none 0 0) rfl
  have c4 := blk_cell hB 4 (.int .i64 0) rfl
  have f0 := blk_frozen hB 0
  have f1 := blk_frozen hB 1
  have f2 := blk_frozen hB 2
  have f3 := blk_frozen hB 3
  have f4 := blk_frozen hB 4
  clear hB hb1
  go_wp2_with fail
  refine bodyPost_ret (v := .tuple #[.agg #[.string { data := #[] }, .int .i64 0, .string { data := #[] }, .slice none 0 0, .int .i64 0], .int .i64 5]) (by simp [results, Try.results12, go_sem, c0, c1, c2, c3, c4]; first | done | exact ⟨rfl, rfl⟩ | rfl) rfl ⟨rfl, ?_⟩
  exact ((((hx.setCell (p := ⟨w.heap.size, 0, none⟩) (Nat.le_refl _) _).setCell (p := ⟨w.heap.size, 1, none⟩) (Nat.le_refl _) _).setCell (p := ⟨w.heap.size, 2, none⟩) (Nat.le_refl _) _).setCell (p := ⟨w.heap.size, 3, none⟩) (Nat.le_refl _) _).setCell (p := ⟨w.heap.size, 4, none⟩) (Nat.le_refl _) _

/-- The first n acts at ao. -/
def ActAt (w : World) (b o : Nat) : Prop := ∃ (k : Int) (nm pl : ByteArray) (ao : Option Addr) (len cap : Nat) (t l : Int) (f : Nat),
  w.cell? ⟨b, o, none⟩ = some (.int .u8 k) ∧ w.cell? ⟨b, o + 1, none⟩ = some (.string nm) ∧ w.cell? ⟨b, o + 2, none⟩ = some (.string pl) ∧ w.cell? ⟨b, o + 3, none⟩ = some (.slice ao len cap) ∧ w.cell? ⟨b, o + 4, none⟩ = some (.int .i64 t) ∧
  w.cell? ⟨b, o + 5, none⟩ = some (.int .i64 l) ∧ w.cell? ⟨b, o + 6, none⟩ = some (.float .f32 f) ∧ nm.size ≤ maxLen ∧ pl.size ≤ maxLen ∧ len ≤ maxLen ∧ StrsAt w ao len
def ActsAt (w : World) (ao : Option Addr) (n : Nat) : Prop := 0 < n → ∃ b off, ao = some ⟨b, off, none⟩ ∧ b < w.heap.size ∧ ∀ i, i < n → ActAt w b (off + i * 7)
theorem ActAt.below {w w' : World} {b o : Nat} (h : ActAt w b o) (hb : Below w.heap.size w w') (hl : b < w.heap.size) : ActAt w' b o := by
  obtain ⟨k, nm, pl, ao, len, cap, t, l, f, h0, h1, h2, h3, h4, h5, h6, h7, h8, h9, h10⟩ := h
  have c : ∀ j v, w.cell? ⟨b, j, none⟩ = some v → w'.cell? ⟨b, j, none⟩ = some v := fun j v h => (hb.cell (p := ⟨b, j, none⟩) hl).trans h
  exact ⟨k, nm, pl, ao, len, cap, t, l, f, c _ _ h0, c _ _ h1, c _ _ h2, c _ _ h3, c _ _ h4, c _ _ h5, c _ _ h6, h7, h8, h9, h10.below hb⟩

set_option maxRecDepth 100000 in
set_option maxHeartbeats 4000000 in
theorem short_any (ao : Option Addr) (n cap : Nat) (w : World) (h : ActsAt w ao n) : Calls Try.prog 8 #[.slice ao n cap] w (fun e w' => ∃ b, RetBool b w e w') := by
  have H := Lib.hid h
  clear h
  by_cases c1 : 80 < n
  · have t1 : decide ((n : Int) > 80) = true := by simp; omega
    clear c1
    have hsf := run_store_f32
    go_enter Try.func8, Try.ntmps8
    go_wp2_with fail
    go_ret
    exact ⟨_, rfl, Below.refl _ _⟩
  · have t1 : decide ((n : Int) > 80) = false := by simp; omega
    have hn : n ≤ 80 := by omega
    clear c1
    have hsf := run_store_f32
    go_enter Try.func8, Try.ntmps8
    go_wp2_with fail
    go_loopw [12] (fun iv wr => ∃ (i : Nat), i ≤ n ∧ iv = .int .i64 i ∧ Below w.heap.size w wr) (fun iv _ => n - (intOf iv).toNat)
    case atStart => exact ⟨0, Nat.zero_le _, rfl, Below.refl _ _⟩
    case round =>
      obtain ⟨i, hi, rfl, hbel⟩ := hrel
      by_cases hlt : i < n
      · obtain ⟨b, off, rfl, hbl, hE⟩ := H.out (by omega)
        obtain ⟨k, nm, pl, ar, len, cr, t, l, f, g0, g1, g2, g3, g4, g5, g6, hs1, hs2, hs3, hS⟩ := (hE i hlt).below hbel hbl
        have hlt' : (i : Int) < n := by omega
        have hge' : (0 : Int) ≤ i := by omega
        have hbl2 : b < wr.heap.size := Nat.lt_of_lt_of_le hbl hbel.size
        have hx := (Below.refl wr.heap.size wr).alloc (Nat.le_refl _) (.cells #[.int .u8 k, .string nm, .string pl, .slice ar len cr, .int .i64 t, .int .i64 l, .float .f32 f] 25)
        have hS2 := Lib.hid (hS.below hx)
        have hbel2 := below_join hbel hx
        clear hE hS hx
        by_cases d1 : 40 < nm.size
        · have e1 : decide ((nm.size : Int) > 40) = true := by simp; omega
          clear d1
          go_wp2_with fail
          go_ret
          exact ⟨_, rfl, hbel2⟩
        · have e1 : decide ((nm.size : Int) > 40) = false := by simp; omega
          clear d1
          by_cases d2 : 40 < pl.size
          · have e2 : decide ((pl.size : Int) > 40) = true := by simp; omega
            clear d2
            go_wp2_with fail
            go_ret
            exact ⟨_, rfl, hbel2⟩
          · have e2 : decide ((pl.size : Int) > 40) = false := by simp; omega
            clear d2
            by_cases d3 : 70 < len
            · have e3 : decide ((len : Int) > 70) = true := by simp; omega
              clear d3
              go_wp2_with fail
              go_ret
              exact ⟨_, rfl, hbel2⟩
            · have e3 : decide ((len : Int) > 70) = false := by simp; omega
              have h70 : len ≤ 70 := by omega
              clear d3
              go_wp2_with fail
              generalize wr.alloc (.cells #[.int .u8 k, .string nm, .string pl, .slice ar len cr, .int .i64 t, .int .i64 l, .float .f32 f] 25) = W at *
              clear g0 g1 g2 g3 g4 g5 g6 e1 e2 e3
              go_loopw [35] (fun jv wq => ∃ (j : Nat), j ≤ len ∧ jv = .int .i64 j ∧ Below W.heap.size W wq) (fun jv _ => len - (intOf jv).toNat)
              case atStart => exact ⟨0, Nat.zero_le _, rfl, Below.refl _ _⟩
              case round =>
                obtain ⟨j, hj, rfl, hbq⟩ := hrel
                have hxq := below_join hbel2 hbq
                by_cases hjl : j < len
                · obtain ⟨bs, os, rfl, hbs, hSE⟩ := hS2.out (by omega)
                  obtain ⟨s, q0, hsz⟩ := hSE j hjl
                  have q1 := (hbq.cell (p := ⟨bs, os + j, none⟩) hbs).trans q0
                  have hbs2 : bs < wr.heap.size := Nat.lt_of_lt_of_le hbs hbq.size
                  have hjl' : (j : Int) < len := by omega
                  have hgj' : (0 : Int) ≤ j := by omega
                  clear q0 hSE
                  by_cases d4 : 40 < s.size
                  · have e4 : decide ((s.size : Int) > 40) = true := by simp; omega
                    clear d4
                    go_wp2_with fail
                    go_ret
                    exact ⟨_, rfl, hxq⟩
                  · have e4 : decide ((s.size : Int) > 40) = false := by simp; omega
                    clear d4
                    go_wp2_with fail
                    exact ⟨⟨j + 1, by omega, by go_num, hbq⟩, meas_up hjl⟩
                · obtain rfl : j = len := by omega
                  go_wp2_with fail
                  exact ⟨⟨i + 1, by omega, by go_num, hxq⟩, meas_up hlt⟩
      · obtain rfl : i = n := by omega
        go_wp2_with fail
        go_ret
        exact ⟨_, rfl, hbel⟩

set_option maxRecDepth 100000 in
set_option maxHeartbeats 4000000 in
theorem storeNil_any (k : Int) (nm pl : ByteArray) (ao : Option Addr) (len cap : Nat) (t l : Int) (f : Nat) (w : World) (hn : nm.size ≤ maxLen) (hp : pl.size ≤ maxLen) (hlen : len ≤ maxLen) (hS : StrsAt w ao len) :
    Calls Try.prog 3 #[.agg #[.int .u8 k, .string nm, .string pl, .slice ao len cap, .int .i64 t, .int .i64 l, .float .f32 f]] w (RetBool true w) := by
  have hA1 := (Below.refl w.heap.size w).alloc (Nat.le_refl _) (.cells #[.int .u8 k, .string nm, .string pl, .slice ao len cap, .int .i64 t, .int .i64 l, .float .f32 f] 25)
  have hA2 := hA1.alloc hA1.size (.cells #[.int .u8 k, .string nm, .string pl, .slice ao len cap, .int .i64 t, .int .i64 l, .float .f32 f] 25)
  have hB1 := blk_keep (blk_new w #[.int .u8 k, .string nm, .string pl, .slice ao len cap, .int .i64 t, .int .i64 l, .float .f32 f] 25) ((Below.refl _ _).alloc (Nat.le_refl _) (.cells #[.int .u8 k, .string nm, .string pl, .slice ao len cap, .int .i64 t, .int .i64 l, .float .f32 f] 25)) (by simp)
  have hB2 := blk_new (w.alloc (.cells #[.int .u8 k, .string nm, .string pl, .slice ao len cap, .int .i64 t, .int .i64 l, .float .f32 f] 25)) #[.int .u8 k, .string nm, .string pl, .slice ao len cap, .int .i64 t, .int .i64 l, .float .f32 f] 25
  rw [World.size_alloc] at hB2
  have HA : Hid (ActsAt ((w.alloc (.cells #[.int .u8 k, .string nm, .string pl, .slice ao len cap, .int .i64 t, .int .i64 l, .float .f32 f] 25)).alloc (.cells #[.int .u8 k, .string nm, .string pl, .slice ao len cap, .int .i64 t, .int .i64 l, .float .f32 f] 25)) (some ⟨w.heap.size + 1, 0, none⟩) 1) := by
    intro _
    refine ⟨_, _, rfl, blk_lt hB2, fun i hi => ?_⟩
    obtain rfl : i = 0 := by omega
    exact ⟨k, nm, pl, ao, len, cap, t, l, f, blk_cell hB2 0 _ rfl, blk_cell hB2 1 _ rfl, blk_cell hB2 2 _ rfl, blk_cell hB2 3 _ rfl, blk_cell hB2 4 _ rfl, blk_cell hB2 5 _ rfl, blk_cell hB2 6 _ rfl, hn, hp, hlen, hS.below hA2⟩
  have HB1 := Lib.hid hB1
  clear hB1 hB2 hS hA1
  have hsf := run_store_f32
  go_enter Try.func3, Try.ntmps3
  go_wp2_with fail
  refine (short_any _ 1 _ _ HA.out).mono ?_
  rintro e w1 ⟨b, rfl, hb1⟩
  have hB1 := blk_keep HB1.out hb1 (blk_lt HB1.out)
  have hx1 := ext_trans hA2 hb1
  have c1 := blk_cell hB1 1 (.string nm) rfl
  have c2 := blk_cell hB1 2 (.string pl) rfl
  have c4 := blk_cell hB1 4 (.int .i64 t) rfl
  have hl1 := blk_lt hB1
  clear HA HB1 hA2 hb1 hB1
  cases b with
  | false =>
    go_wp2_with fail
    refine (awake_any _).mono ?_
    rintro e w2 ⟨rfl, hb2⟩
    go_wp2_with fail
    go_ret
    exact ⟨rfl, ext_trans hx1 hb2⟩
  | true =>
    go_wp2_with fail
    refine (left_nil nm t _).mono ?_
    rintro e w2 ⟨rfl, hb2⟩
    have d1 := (hb2.cell (p := ⟨w.heap.size, 1, none⟩) hl1).trans c1
    have d2 := (hb2.cell (p := ⟨w.heap.size, 2, none⟩) hl1).trans c2
    have d4 := (hb2.cell (p := ⟨w.heap.size, 4, none⟩) hl1).trans c4
    have hx2 := ext_trans hx1 hb2
    have hl2 := Nat.lt_of_lt_of_le hl1 hb2.size
    clear c1 c2 c4 hb2 hx1 hl1
    go_wp2_with fail
    refine (until_nil nm t _).mono ?_
    rintro e w3 ⟨rfl, hb3⟩
    have c1 := (hb3.cell (p := ⟨w.heap.size, 1, none⟩) hl2).trans d1
    have c2 := (hb3.cell (p := ⟨w.heap.size, 2, none⟩) hl2).trans d2
    have hx3 := ext_trans hx2 hb3
    have hl3 := Nat.lt_of_lt_of_le hl2 hb3.size
    clear d1 d2 d4 hb3 hx2 hl2
    go_wp2_with fail
    refine (itemOf_nil nm _).mono ?_
    rintro e w4 ⟨rfl, hb4⟩
    have d1 := (hb4.cell (p := ⟨w.heap.size, 1, none⟩) hl3).trans c1
    have d2 := (hb4.cell (p := ⟨w.heap.size, 2, none⟩) hl3).trans c2
    have hx4 := ext_trans hx3 hb4
    have hl4 := Nat.lt_of_lt_of_le hl3 hb4.size
    clear c1 c2 hb4 hx3 hl3
    have hal := (Below.refl w4.heap.size w4).alloc (Nat.le_refl _) (.cells #[.string { data := #[] }, .int .i64 0, .string { data := #[] }, .slice none 0 0, .int .i64 0] 34)
    have c2 := (hal.cell (p := ⟨w.heap.size, 2, none⟩) hl4).trans d2
    have hx5 := ext_trans hx4 hal
    have hl5 := Nat.lt_of_lt_of_le hl4 hal.size
    clear d2 hx4 hal
    go_wp2_with fail
    refine (kits_nil nm _).mono ?_
    rintro e w6 ⟨rfl, hb6⟩
    have e2 := (hb6.cell (p := ⟨w.heap.size, 2, none⟩) hl5).trans c2
    have hx6 := ext_trans hx5 hb6
    clear c2 d1 hb6 hx5 hl4 hl5
    go_wp2_with fail
    refine (add_nil pl _).mono ?_
    rintro e w7 ⟨rfl, hb7⟩
    have hx7 := ext_trans hx6 hb7
    clear e2 hb7 hx6
    go_wp2_with fail
    refine (items_nil _).mono ?_
    rintro e w8 ⟨rfl, hb8⟩
    have hx8 := ext_trans hx7 hb8
    clear hb8 hx7
    go_wp2_with fail
    refine (awake_any _).mono ?_
    rintro e w9 ⟨rfl, hb9⟩
    go_wp2_with fail
    go_ret
    exact ⟨rfl, ext_trans hx8 hb9⟩

end Go.Proofs.Ytkdcgkafjkklcaa
