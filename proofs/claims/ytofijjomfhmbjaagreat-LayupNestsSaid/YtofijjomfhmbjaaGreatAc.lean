/- Part c of the lemmas and walks. -/
import Derived.Test.YtofijjomfhmbjaaGreatAb

namespace Go.Proofs.YtofijjomfhmbjaaGreat
open Go.ChangeShapes Go.WideShapes Go.ChangeAt Go.RowKit

section
variable {H : Type} {enc : TypeId × Value → H} {P : Program} {w : World} {base : Nat} {spare : Nat → Bool} {held : Bool}
theorem trod_float {t : TypeId} {fuel : Nat} {cs : List Value} {x : DataW H × List MemPlace} {k : FloatKind} (ht : P.underlying t = some (.float k)) (h : DataW.trod enc P w base spare held fuel t cs = some x) :
  ∃ n, cs = [.float k n] ∧ x = (.lit (.float k n), []) ∧ (Lit.float k n).wf = true := by
 cases fuel with
 | zero => simp [DataW.trod] at h
 | succ n =>
  unfold DataW.trod at h
  rw [ht] at h
  split at h <;> simp_all

theorem open_rows {r : Reach} {b0 : Nat} {t e : TypeId} {k : Nat} {v : Value} {d : DataW H} {p : List MemPlace} (ht : P.underlying t = some (.slice e)) (hk : P.cellsOf e = k) (hk0 : 0 < k) (Law : List Value → Prop)
  (hlaw : ∀ n cs y, DataW.trod enc P w 0 (fun _ => true) true n e cs = some y → Law cs) (hv : Value.okWide P w r b0 t v) (h : DataW.Trod enc P w 0 (fun _ => true) true t v d p) :
  ∃ ao len cap, v = .slice ao len cap ∧ len ≤ cap ∧ cap ≤ maxLen ∧ (0 < len → ∃ b off, ao = some ⟨b, off, none⟩ ∧ b < w.heap.size ∧ ∀ i, i < len → ∃ cs : List Value, cs.length = k ∧ Law cs ∧ ∀ j, j < k → w.cell? ⟨b, off + i * k + j, none⟩ = cs[j]?) := by
 obtain ⟨ao, len, cap, rfl⟩ := okWide_slice ht hv
 refine ⟨ao, len, cap, rfl, ?_⟩
 obtain ⟨fuel, hf⟩ := h
 rcases Deep.open_slice ht hf with ⟨hcs, _⟩ | ⟨a, len', cap', m, n, D, Pl, hcs, _, hl, hm, hmm, _, hi⟩
 ·
  simp [Value.cells] at hcs
  obtain ⟨rfl, rfl, rfl⟩ := hcs
  exact ⟨Nat.le_refl _, by unfold maxLen; omega, fun h => absurd h (by omega)⟩
 ·
  simp [Value.cells] at hcs
  obtain ⟨rfl, rfl, rfl⟩ := hcs
  refine ⟨hl, hm, fun hlen => ?_⟩
  simp only [if_true] at hmm
  subst hmm
  have key : ∀ i, i < len → ∃ cs : List Value, cs.length = k ∧ Law cs ∧ ∀ j, j < k → w.cell? (a.add (i * k + j)) = cs[j]? := by
   intro i hlt
   obtain ⟨cs', hc, hT⟩ := hi i (by omega)
   rw [hk] at hc
   obtain ⟨_, hcl, hat⟩ := World.cells?_some hc
   exact ⟨cs', hcl, hlaw _ _ _ hT, fun j hj => by rw [← hat j hj, Deep.add_add]⟩
  obtain ⟨b, off, spot⟩ := a
  have hsp : spot = none := by
   obtain ⟨cs, hcl, _, hat⟩ := key 0 hlen
   have h0 := hat 0 hk0
   rw [List.getElem?_eq_getElem (by omega)] at h0
   have := World.cell?_spot h0
   simpa [Addr.add] using this
  subst hsp
  have ea : ∀ j, (⟨b, off, none⟩ : Addr).add j = ⟨b, off + j, none⟩ := fun j => by unfold Addr.add; split <;> simp_all
  refine ⟨b, off, rfl, ?_, fun i hlt => ?_⟩
  ·
   obtain ⟨cs, hcl, _, hat⟩ := key 0 hlen
   have h0 := hat 0 hk0
   rw [List.getElem?_eq_getElem (by omega), ea] at h0
   exact World.block_lt_of_cell? (h := h0)
  ·
   obtain ⟨cs, hcl, hL, hat⟩ := key i hlt
   exact ⟨cs, hcl, hL, fun j hj => by rw [← hat j hj, ea, Nat.add_assoc]⟩
end

theorem choose_list {α : Type} (n : Nat) (d : α) (p : Nat → α → Prop) (h : ∀ i, i < n → ∃ x, p i x) : ∃ l : List α, l.length = n ∧ ∀ i, i < n → p i (l.getD i d) := by
 have h2 : ∀ i, ∃ x, i < n → p i x := fun i => by
  by_cases hi : i < n
  ·
   obtain ⟨x, hx⟩ := h i hi
   exact ⟨x, fun _ => hx⟩
  ·
   exact ⟨d, fun h => absurd h hi⟩
 refine ⟨(List.range n).map fun i => Classical.choose (h2 i), by simp, fun i hi => ?_⟩
 have e : ((List.range n).map fun i => Classical.choose (h2 i)).getD i d = Classical.choose (h2 i) := by simp [hi]
 rw [e]
 exact Classical.choose_spec (h2 i) hi

section
variable {H : Type} {enc : TypeId × Value → H} {w : World}
end

theorem own_knob : ownKnob Tryz.prog.godebug = none := by kernel_rfl
theorem laid_out : laidOutB Tryz.prog = true := by kernel_rfl

end Go.Proofs.YtofijjomfhmbjaaGreat

namespace Go.Proofs.YtofijjomfhmbjaaGreat
open Go.ChangeShapes Go.WideShapes Go.ChangeAt Go.RowKit

inductive Leaf where
 | int (k : IntKind) | float (k : FloatKind) | bool | string
def leafOk : Leaf → Value → Prop
 | .int k, v => ∃ n, v = .int k n ∧ (Lit.int k n).wf = true
 | .float k, v => ∃ n, v = .float k n ∧ (Lit.float k n).wf = true
 | .bool, v => ∃ b, v = .bool b
 | .string, v => ∃ s : ByteArray, v = .string s ∧ s.size ≤ maxLen
def allLeaf : List Leaf → List Value → Prop
 | [], [] => True
 | l :: ls, v :: vs => leafOk l v ∧ allLeaf ls vs
 | _, _ => False
theorem allLeaf_append : ∀ {ls : List Leaf} {vs : List Value} {ls' : List Leaf} {vs' : List Value}, allLeaf ls vs → allLeaf ls' vs' → allLeaf (ls ++ ls') (vs ++ vs')
 | [], [], _, _, _, h => h
 | _ :: _, _ :: _, _, _, ⟨h1, h2⟩, h => ⟨h1, allLeaf_append h2 h⟩
section
variable (P : Program)
def flatFs (fl : TypeId → Option (List Leaf)) : List Field → Nat → Option (List Leaf)
 | [], _ => some []
 | f :: fs, o => if f.offset = o then (fl f.type).bind fun l => if P.cellsOf f.type = l.length then (flatFs fl fs (o + l.length)).map (l ++ ·) else none else none
def flatN (l : List Leaf) : Nat → List Leaf
 | 0 => []
 | n + 1 => flatN l n ++ l
def flat : Nat → TypeId → Option (List Leaf)
 | 0, _ => none
 | n + 1, t => match P.underlying t with
  | some .bool => some [.bool]
  | some (.int k) => some [.int k]
  | some (.float k) => some [.float k]
  | some .string => some [.string]
  | some (.struct fs) => (flatFs P (flat n) fs.toList 0).bind fun l => if P.cellsOf t = l.length then some l else none
  | some (.array m e) => (flat n e).bind fun l => if P.cellsOf e = l.length ∧ P.cellsOf t = m * l.length then some (flatN l m) else none
  | _ => none
end
section
variable {H : Type} {enc : TypeId × Value → H} {P : Program} {w : World}
theorem flatFs_law (fl : TypeId → Option (List Leaf)) (n : Nat) (cs : List Value) (ih : ∀ t l cs y, fl t = some l → DataW.trod enc P w 0 (fun _ => true) true n t cs = some y → allLeaf l cs) :
  ∀ (fs : List Field) (o : Nat) (ls : List Leaf), flatFs P fl fs o = some ls → (∀ f ∈ fs, ∃ y, DataW.trod enc P w 0 (fun _ => true) true n f.type ((cs.drop f.offset).take (P.cellsOf f.type)) = some y) →
   allLeaf ls ((cs.drop o).take ls.length)
 | [], o, ls, h, _ => by
  simp [flatFs] at h
  subst h
  simp [allLeaf]
 | f :: fs, o, ls, h, hf => by
  unfold flatFs at h
  split at h
  ·
   rename_i ho
   subst ho
   rw [Option.bind_eq_some_iff] at h
   obtain ⟨l, h1, h2⟩ := h
   split at h2
   ·
    rename_i hc
    rw [Option.map_eq_some_iff] at h2
    obtain ⟨l2, h3, rfl⟩ := h2
    obtain ⟨y, hy⟩ := hf f (by simp)
    have a1 := ih _ _ _ _ h1 hy
    rw [hc] at a1
    have a2 := flatFs_law fl n cs ih fs _ _ h3 (fun g hg => hf g (by simp [hg]))
    rw [List.length_append, List.take_add, List.drop_drop]
    exact allLeaf_append a1 a2
   ·
    cases h2
  ·
   cases h
theorem trod_array {t e : TypeId} {fuel m : Nat} {cs : List Value} {x : DataW H × List MemPlace} (ht : P.underlying t = some (.array m e)) (h : DataW.trod enc P w 0 (fun _ => true) true fuel t cs = some x) :
  ∃ n, fuel = n + 1 ∧ cs.length = P.cellsOf t ∧ ∀ i, i < m → ∃ y, DataW.trod enc P w 0 (fun _ => true) true n e ((cs.drop (i * P.cellsOf e)).take (P.cellsOf e)) = some y := by
 cases fuel with
 | zero => simp [DataW.trod] at h
 | succ n =>
  unfold DataW.trod at h
  rw [ht] at h
  split at h <;> simp_all
  obtain ⟨hl, xs, hp, hd⟩ := h
  intro i hi
  have hlen := mapM_some_length hp
  have := mapM_some_get hp i i (by simp [hi])
  rw [this]
  simp at hlen
  exact ⟨xs[i].1, xs[i].2, by simp [hlen, hi]⟩
theorem flat_law : ∀ (k : Nat) (t : TypeId) (ls : List Leaf) (n : Nat) (cs : List Value) (y : DataW H × List MemPlace), flat P k t = some ls → DataW.trod enc P w 0 (fun _ => true) true n t cs = some y → allLeaf ls cs := by
 intro k
 induction k with
 | zero => intro t ls n cs y h; simp [flat] at h
 | succ k ih =>
  intro t ls n cs y h ht
  unfold flat at h
  split at h
  ·
   rename_i hu
   obtain ⟨b, rfl, _⟩ := DataW.trod_bool hu ht
   obtain rfl : [Leaf.bool] = ls := by simpa using h
   exact ⟨⟨b, rfl⟩, trivial⟩
  ·
   rename_i kk hu
   obtain ⟨b, rfl, _, hw⟩ := DataW.trod_int hu ht
   obtain rfl : [Leaf.int kk] = ls := by simpa using h
   exact ⟨⟨b, rfl, hw⟩, trivial⟩
  ·
   rename_i kk hu
   obtain ⟨b, rfl, _, hw⟩ := trod_float hu ht
   obtain rfl : [Leaf.float kk] = ls := by simpa using h
   exact ⟨⟨b, rfl, hw⟩, trivial⟩
  ·
   rename_i hu
   obtain ⟨s, rfl, _, hw⟩ := DataW.trod_string hu ht
   obtain rfl : [Leaf.string] = ls := by simpa using h
   exact ⟨⟨s, rfl, hw⟩, trivial⟩
  ·
   rename_i fs hu
   rw [Option.bind_eq_some_iff] at h
   obtain ⟨l, h1, h2⟩ := h
   split at h2
   ·
    rename_i hc
    obtain rfl : l = ls := by simpa using h2
    obtain ⟨xs, m, _, _, hcl, hxl, hf⟩ := DataW.trod_struct hu ht
    have := flatFs_law (enc := enc) (w := w) (flat P k) m cs (fun t l cs y a b => ih t l m cs y a b) fs.toList 0 l h1 (fun f hf' => by
     obtain ⟨i, hi, rfl⟩ := List.getElem_of_mem hf'
     simp at hi
     have e := hf i fs[i] (by simp [hi])
     exact ⟨xs[i], by simp at e ⊢; rw [e]; simp [hxl, hi]⟩)
    rw [List.drop_zero, List.take_of_length_le (by rw [hcl, hc]; exact Nat.le_refl _)] at this
    exact this
   ·
    cases h2
  ·
   rename_i m e hu
   rw [Option.bind_eq_some_iff] at h
   obtain ⟨l, h1, h2⟩ := h
   split at h2
   ·
    rename_i hc
    obtain ⟨hc1, hc2⟩ := hc
    obtain rfl : flatN l m = ls := by simpa using h2
    obtain ⟨n', _, hcl, hE⟩ := trod_array hu ht
    have key : ∀ j, j ≤ m → allLeaf (flatN l j) (cs.take (j * l.length)) := by
     intro j hj
     induction j with
     | zero => simp [flatN, allLeaf]
     | succ j ihj =>
      obtain ⟨y, hy⟩ := hE j (by omega)
      have a1 := ih _ _ _ _ _ h1 hy
      rw [hc1] at a1
      rw [Nat.succ_mul, List.take_add]
      exact allLeaf_append (ihj (by omega)) a1
    have := key m (Nat.le_refl _)
    rw [List.take_of_length_le (by rw [hcl, hc2]; exact Nat.le_refl _)] at this
    exact this
   ·
    cases h2
  ·
   cases h

theorem open_flats {r : Reach} {b0 : Nat} {t e : TypeId} {k : Nat} {ls : List Leaf} {v : Value} {d : DataW H} {p : List MemPlace} (ht : P.underlying t = some (.slice e)) (hk : P.cellsOf e = k) (hk0 : 0 < k) (hfl : flat P 8 e = some ls)
  (hv : Value.okWide P w r b0 t v) (h : DataW.Trod enc P w 0 (fun _ => true) true t v d p) :
  ∃ ao len cap, v = .slice ao len cap ∧ len ≤ cap ∧ cap ≤ maxLen ∧ (0 < len → ∃ b off, ao = some ⟨b, off, none⟩ ∧ b < w.heap.size ∧ ∀ i, i < len → ∃ cs : List Value, cs.length = k ∧ allLeaf ls cs ∧ ∀ j, j < k → w.cell? ⟨b, off + i * k + j, none⟩ = cs[j]?) :=
 open_rows ht hk hk0 (allLeaf ls) (fun n cs y hy => flat_law 8 e ls n cs y hfl hy) hv h
end

end Go.Proofs.YtofijjomfhmbjaaGreat

namespace Go.Proofs.YtofijjomfhmbjaaGreat

/-! ### Sums -/
def sumZ (f : Nat → Int) : Nat → Int
 | 0 => 0
 | k + 1 => sumZ f k + f k
section
variable {n E w : Nat} {X Y L W : Nat → Int}
end

/-! ### Shelves -/
def gP (l : List (Int × Int)) (i : Nat) : Int × Int := l.getD i (0, 0)
section
variable {l : List (Int × Int)} {w : Int} {ord : Nat → Nat} {m : Nat} {sh out : List (Int × Int)} {e : Int}
end

end Go.Proofs.YtofijjomfhmbjaaGreat

namespace Go.Proofs.YtofijjomfhmbjaaGreat

structure PermI (ord : Nat → Nat) (n : Nat) : Prop where
 lt : ∀ j, j < n → ord j < n
 inj : ∀ j k, j < n → k < n → ord j = ord k → j = k
 surj : ∀ i, i < n → ∃ j, j < n ∧ ord j = i
theorem PermI.id (n : Nat) : PermI (fun j => j) n := ⟨fun _ h => h, fun _ _ _ _ h => h, fun i h => ⟨i, h, rfl⟩⟩
def overlapB (l at_ : List (Int × Int)) (i k : Nat) : Bool :=
 decide ((gP at_ i).1 < (gP at_ k).1 + (gP l k).1) && (decide ((gP at_ k).1 < (gP at_ i).1 + (gP l i).1) && (decide ((gP at_ i).2 < (gP at_ k).2 + (gP l k).2) && decide ((gP at_ k).2 < (gP at_ i).2 + (gP l i).2)))
def overTo (l at_ : List (Int × Int)) (i : Nat) : Nat → Bool
 | 0 => false
 | k + 1 => overTo l at_ i k || overlapB l at_ i k
def outB (l : List (Int × Int)) (w : Int) (at_ : List (Int × Int)) (i : Nat) : Bool :=
 !(decide (0 ≤ (gP at_ i).1) && decide ((gP at_ i).1 ≤ 1099511627776)) || (decide ((gP at_ i).2 < 0) || decide ((gP at_ i).2 > w - (gP l i).2))
def endZ (l at_ : List (Int × Int)) : Nat → Int
 | 0 => 0
 | i + 1 => max (endZ l at_ i) ((gP at_ i).1 + (gP l i).1)
theorem overTo_iff (l at_ : List (Int × Int)) (i n : Nat) : overTo l at_ i n = false ↔ ∀ k, k < n → overlapB l at_ i k = false := by
 induction n with
 | zero => simp [overTo]
 | succ n ih =>
  simp only [overTo, Bool.or_eq_false_iff, ih]
  constructor
  ·
   rintro ⟨h1, h2⟩ k hk
   by_cases c : k = n
   ·
    rw [c]; exact h2
   ·
    exact h1 k (by omega)
  ·
   intro h
   exact ⟨fun k hk => h k (by omega), h n (by omega)⟩
def longZ (l : List (Int × Int)) : Nat → Int
 | 0 => 0
 | i + 1 => max (longZ l i) (gP l i).1
def areaZ (l : List (Int × Int)) (n : Nat) : Int := sumZ (fun i => (gP l i).1 * (gP l i).2) n
def aloneZ (l : List (Int × Int)) (w : Int) (n : Nat) : Int := sumZ (fun i => if 2 * (gP l i).2 > w then (gP l i).1 else 0) n
def boundZ (l : List (Int × Int)) (w : Int) : Int := max (max (longZ l l.length) ((areaZ l l.length + w - 1) / w)) (aloneZ l w l.length)
def Pieces (l : List (Int × Int)) (w : Int) : Prop := 1 ≤ w ∧ ∀ i, i < l.length → 1 ≤ (gP l i).1 ∧ 1 ≤ (gP l i).2 ∧ (gP l i).2 ≤ w
end Go.Proofs.YtofijjomfhmbjaaGreat

namespace Go.Proofs.YtofijjomfhmbjaaGreat

def swO (f : Nat → Nat) (j : Nat) : Nat → Nat := fun k => if k = j then f (j - 1) else if k = j - 1 then f j else f k
theorem swO_at (f : Nat → Nat) (j : Nat) : swO f j j = f (j - 1) := by simp [swO]
theorem swO_pre (f : Nat → Nat) {j : Nat} (hj : 0 < j) : swO f j (j - 1) = f j := by
 unfold swO
 rw [if_neg (by omega), if_pos rfl]
theorem swO_oth (f : Nat → Nat) {j k : Nat} (h1 : k ≠ j) (h2 : k ≠ j - 1) : swO f j k = f k := by
 unfold swO
 rw [if_neg h1, if_neg h2]
theorem swO_ways (f : Nat → Nat) {j : Nat} (hj : 0 < j) (k : Nat) : (k = j ∧ swO f j k = f (j - 1)) ∨ (k = j - 1 ∧ swO f j k = f j) ∨ (k ≠ j ∧ k ≠ j - 1 ∧ swO f j k = f k) := by
 by_cases c : k = j
 ·
  left; subst c; exact ⟨rfl, swO_at f k⟩
 ·
  by_cases d : k = j - 1
  ·
   right; left; subst d; exact ⟨rfl, swO_pre f hj⟩
  ·
   right; right; exact ⟨c, d, swO_oth f c d⟩
theorem PermI.sw {f : Nat → Nat} {n j : Nat} (h : PermI f n) (hj0 : 0 < j) (hj : j < n) : PermI (swO f j) n := by
 refine ⟨fun k hk => ?_, fun a b ha hb e => ?_, fun i hi => ?_⟩
 ·
  rcases swO_ways f hj0 k with ⟨_, e⟩ | ⟨_, e⟩ | ⟨_, _, e⟩
  ·
   rw [e]; exact h.lt _ (by omega)
  ·
   rw [e]; exact h.lt _ hj
  ·
   rw [e]; exact h.lt _ hk
 ·
  rcases swO_ways f hj0 a with ⟨c1, e1⟩ | ⟨c1, e1⟩ | ⟨c1, d1, e1⟩ <;> rcases swO_ways f hj0 b with ⟨c2, e2⟩ | ⟨c2, e2⟩ | ⟨c2, d2, e2⟩ <;> rw [e1, e2] at e <;> have := h.inj _ _ (by omega) (by omega) e <;> omega
 ·
  obtain ⟨k, hk, e⟩ := h.surj i hi
  by_cases c : k = j
  ·
   exact ⟨j - 1, by omega, by rw [swO_pre f hj0, ← c, e]⟩
  ·
   by_cases d : k = j - 1
   ·
    exact ⟨j, hj, by rw [swO_at, ← d, e]⟩
   ·
    exact ⟨k, hk, by rw [swO_oth f c d, e]⟩
def SortTo (key : Nat → Int) (f : Nat → Nat) (i : Nat) : Prop := ∀ a b, a < b → b < i → key (f b) ≤ key (f a)
def SortX (key : Nat → Int) (f : Nat → Nat) (i j : Nat) : Prop := ∀ a b, a < b → b ≤ i → b ≠ j → key (f b) ≤ key (f a)
theorem SortTo.one (key : Nat → Int) (f : Nat → Nat) : SortTo key f 1 := fun a b h1 h2 => by omega
theorem SortX.start {key : Nat → Int} {f : Nat → Nat} {i : Nat} (h : SortTo key f i) : SortX key f i i := fun a b h1 h2 h3 => h a b h1 (by omega)
theorem SortX.sw {key : Nat → Int} {f : Nat → Nat} {i j : Nat} (h : SortX key f i j) (hj0 : 0 < j) (hj : j ≤ i) (hlt : key (f (j - 1)) < key (f j)) : SortX key (swO f j) i (j - 1) := by
 intro a b hab hb hne
 rcases swO_ways f hj0 b with ⟨cb, eb⟩ | ⟨cb, eb⟩ | ⟨cb, db, eb⟩
 ·
  rcases swO_ways f hj0 a with ⟨ca, ea⟩ | ⟨ca, ea⟩ | ⟨ca, da, ea⟩
  ·
   omega
  ·
   rw [ea, eb]; omega
  ·
   rw [ea, eb]; exact h a (j - 1) (by omega) (by omega) (by omega)
 ·
  exact absurd cb hne
 ·
  rcases swO_ways f hj0 a with ⟨ca, ea⟩ | ⟨ca, ea⟩ | ⟨ca, da, ea⟩
  ·
   rw [ea, eb]; exact h (j - 1) b (by omega) hb cb
  ·
   rw [ea, eb]; exact h j b (by omega) hb cb
  ·
   rw [ea, eb]; exact h a b hab hb cb
theorem SortX.stop {key : Nat → Int} {f : Nat → Nat} {i j : Nat} (h : SortX key f i j) (hs : j = 0 ∨ key (f j) ≤ key (f (j - 1))) : SortTo key f (i + 1) := by
 intro a b hab hb
 by_cases c : b = j
 ·
  subst c
  have hs := hs.resolve_left (by omega)
  by_cases d : a = b - 1
  ·
   subst d; exact hs
  ·
   exact Int.le_trans hs (h a (b - 1) (by omega) (by omega) (by omega))
 ·
  exact h a b hab (by omega) c

end Go.Proofs.YtofijjomfhmbjaaGreat

namespace Go.Proofs.YtofijjomfhmbjaaGreat

def LtK (key : Nat → Int) (x y : Nat) : Prop := key y < key x ∨ (key x = key y ∧ x < y)
theorem LtK.trans {key : Nat → Int} {x y z : Nat} (h : LtK key x y) (k : LtK key y z) : LtK key x z := by
 unfold LtK at *; omega
theorem LtK.of_gt {key : Nat → Int} {x y : Nat} (h : key y < key x) : LtK key x y := .inl h
theorem LtK.of_le {key : Nat → Int} {x y : Nat} (hxy : x < y) (h : ¬ key x < key y) : LtK key x y := by
 unfold LtK; omega
theorem LtK.irrefl {key : Nat → Int} {x : Nat} (h : LtK key x x) : False := by
 unfold LtK at h; omega
def SortR (key : Nat → Int) (f : Nat → Nat) (a b : Nat) : Prop := ∀ i j, a ≤ i → i < j → j < b → LtK key (f i) (f j)
theorem SortR.small {key : Nat → Int} {f : Nat → Nat} {a b : Nat} (h : b ≤ a + 1) : SortR key f a b := fun i j hi hij hj => by omega
structure SameOn (f g : Nat → Nat) (a b : Nat) : Prop where
 out : ∀ k, (k < a ∨ b ≤ k) → g k = f k
 hits : ∀ k, a ≤ k → k < b → ∃ j, a ≤ j ∧ j < b ∧ g k = f j
 from_ : ∀ j, a ≤ j → j < b → ∃ k, a ≤ k ∧ k < b ∧ g k = f j
 inj : (∀ i j, a ≤ i → i < b → a ≤ j → j < b → f i = f j → i = j) → ∀ i j, a ≤ i → i < b → a ≤ j → j < b → g i = g j → i = j
theorem SameOn.refl (f : Nat → Nat) (a b : Nat) : SameOn f f a b := ⟨fun _ _ => rfl, fun k h1 h2 => ⟨k, h1, h2, rfl⟩, fun k h1 h2 => ⟨k, h1, h2, rfl⟩, fun h => h⟩
theorem SameOn.trans {f g h : Nat → Nat} {a b : Nat} (h1 : SameOn f g a b) (h2 : SameOn g h a b) : SameOn f h a b :=
 ⟨fun k hk => (h2.out k hk).trans (h1.out k hk), fun k ha hb => by
  obtain ⟨j, ja, jb, e⟩ := h2.hits k ha hb
  obtain ⟨i, ia, ib, e'⟩ := h1.hits j ja jb
  exact ⟨i, ia, ib, e.trans e'⟩, fun j ha hb => by
  obtain ⟨k, ka, kb, e⟩ := h1.from_ j ha hb
  obtain ⟨i, ia, ib, e'⟩ := h2.from_ k ka kb
  exact ⟨i, ia, ib, e'.trans e⟩, fun hi => h2.inj (h1.inj hi)⟩
theorem SameOn.wide {f g : Nat → Nat} {a b c d : Nat} (h : SameOn f g c d) (h1 : a ≤ c) (h2 : c ≤ d) (h3 : d ≤ b) : SameOn f g a b :=
 ⟨fun k hk => h.out k (by omega), fun k ha hb => by
  by_cases q : c ≤ k ∧ k < d
  ·
   obtain ⟨j, ja, jb, e⟩ := h.hits k q.1 q.2
   exact ⟨j, by omega, by omega, e⟩
  ·
   exact ⟨k, ha, hb, h.out k (by omega)⟩, fun j ha hb => by
  by_cases q : c ≤ j ∧ j < d
  ·
   obtain ⟨k, ka, kb, e⟩ := h.from_ j q.1 q.2
   exact ⟨k, by omega, by omega, e⟩
  ·
   exact ⟨j, ha, hb, h.out j (by omega)⟩, fun hi i j ia ib ja jb e => by
  have hin := h.inj (fun i j p1 p2 p3 p4 e => hi i j (by omega) (by omega) (by omega) (by omega) e)
  by_cases qi : c ≤ i ∧ i < d
  ·
   by_cases qj : c ≤ j ∧ j < d
   ·
    exact hin i j qi.1 qi.2 qj.1 qj.2 e
   ·
    obtain ⟨i', ia', ib', e'⟩ := h.hits i qi.1 qi.2
    rw [h.out j (by omega), e'] at e
    have := hi i' j (by omega) (by omega) ja jb e
    omega
  ·
   by_cases qj : c ≤ j ∧ j < d
   ·
    obtain ⟨j', ja', jb', e'⟩ := h.hits j qj.1 qj.2
    rw [h.out i (by omega), e'] at e
    have := hi i j' ia ib (by omega) (by omega) e
    omega
   ·
    rw [h.out i (by omega), h.out j (by omega)] at e
    exact hi i j ia ib ja jb e⟩
def swN (f : Nat → Nat) (a b n : Nat) : Nat → Nat := fun k => if a ≤ k ∧ k < a + n then f (k - a + b) else if b ≤ k ∧ k < b + n then f (k - b + a) else f k
theorem swN_zero (f : Nat → Nat) (a b : Nat) : swN f a b 0 = f := by
 funext k
 unfold swN
 rw [if_neg (by omega), if_neg (by omega)]
theorem swN_step (f : Nat → Nat) {a b n : Nat} (h : a + n < b) (k : Nat) : swN f a b (n + 1) k = if k = a + n then f (b + n) else if k = b + n then f (a + n) else swN f a b n k := by
 unfold swN
 by_cases c1 : k = a + n
 ·
  rw [if_pos c1, if_pos (by omega)]
  congr 1
  omega
 ·
  rw [if_neg c1]
  by_cases c2 : k = b + n
  ·
   rw [if_pos c2, if_neg (by omega), if_pos (by omega)]
   congr 1
   omega
  ·
   rw [if_neg c2]
   by_cases c3 : a ≤ k ∧ k < a + n
   ·
    rw [if_pos (by omega), if_pos c3]
   ·
    rw [if_neg (by omega), if_neg c3]
    by_cases c4 : b ≤ k ∧ k < b + n
    ·
     rw [if_pos (by omega), if_pos c4]
    ·
     rw [if_neg (by omega), if_neg c4]
def rotF (f : Nat → Nat) (a m b : Nat) : Nat → Nat := fun k => if a ≤ k ∧ k < a + (b - m) then f (m + (k - a)) else if a + (b - m) ≤ k ∧ k < b then f (a + (k - (a + (b - m)))) else f k
theorem rot_gt (f : Nat → Nat) {m i j : Nat} (hi : i ≤ m) (hij : j < i) : rotF (swN f (m - i) m j) (m - (i - j)) m (m + j) = rotF f (m - i) m (m + j) := by
 funext k
 unfold rotF swN
 repeat' split
 all_goals first | (exfalso; omega) | (congr 1 <;> omega)
theorem rot_lt (f : Nat → Nat) {m i j : Nat} (hi : i ≤ m) (hij : i < j) : rotF (swN f (m - i) (m + j - i) i) (m - i) m (m + (j - i)) = rotF f (m - i) m (m + j) := by
 funext k
 unfold rotF swN
 repeat' split
 all_goals first | (exfalso; omega) | (congr 1 <;> omega)
theorem rot_eq (f : Nat → Nat) {m i : Nat} (hi : i ≤ m) : swN f (m - i) m i = rotF f (m - i) m (m + i) := by
 funext k
 unfold rotF swN
 repeat' split
 all_goals first | (exfalso; omega) | (congr 1 <;> omega)
theorem rot_lo (f : Nat → Nat) {a m b k : Nat} (h1 : a ≤ k) (h2 : k < a + (b - m)) : rotF f a m b k = f (m + (k - a)) := by unfold rotF; rw [if_pos ⟨h1, h2⟩]
theorem rot_hi (f : Nat → Nat) {a m b k : Nat} (h1 : a + (b - m) ≤ k) (h2 : k < b) : rotF f a m b k = f (a + (k - (a + (b - m)))) := by unfold rotF; rw [if_neg (by omega), if_pos ⟨h1, h2⟩]
theorem rot_out (f : Nat → Nat) {a m b k : Nat} (ha : a ≤ m) (hm : m ≤ b) (h : k < a ∨ b ≤ k) : rotF f a m b k = f k := by unfold rotF; rw [if_neg (by omega), if_neg (by omega)]
theorem rot_same (f : Nat → Nat) {a m b : Nat} (ha : a ≤ m) (hm : m ≤ b) : SameOn f (rotF f a m b) a b := by
 refine ⟨fun k hk => rot_out f ha hm hk, fun k h1 h2 => ?_, fun j h1 h2 => ?_, fun hi i j ia ib ja jb e => ?_⟩
 ·
  by_cases c : k < a + (b - m)
  ·
   exact ⟨_, by omega, by omega, rot_lo f h1 c⟩
  ·
   exact ⟨_, by omega, by omega, rot_hi f (by omega) h2⟩
 ·
  by_cases c : j < m
  ·
   refine ⟨j - a + (a + (b - m)), by omega, by omega, ?_⟩
   rw [rot_hi f (by omega) (by omega)]
   congr 1
   omega
  ·
   refine ⟨j - m + a, by omega, by omega, ?_⟩
   rw [rot_lo f (by omega) (by omega)]
   congr 1
   omega
 ·
  by_cases ci : i < a + (b - m)
  ·
   rw [rot_lo f ia ci] at e
   by_cases cj : j < a + (b - m)
   ·
    rw [rot_lo f ja cj] at e
    have := hi _ _ (by omega) (by omega) (by omega) (by omega) e
    omega
   ·
    rw [rot_hi f (by omega) jb] at e
    have := hi _ _ (by omega) (by omega) (by omega) (by omega) e
    omega
  ·
   rw [rot_hi f (by omega) ib] at e
   by_cases cj : j < a + (b - m)
   ·
    rw [rot_lo f ja cj] at e
    have := hi _ _ (by omega) (by omega) (by omega) (by omega) e
    omega
   ·
    rw [rot_hi f (by omega) jb] at e
    have := hi _ _ (by omega) (by omega) (by omega) (by omega) e
    omega

/-! ### The symmetric merge -/
structure Parts (key : Nat → Int) (f : Nat → Nat) (a m b : Nat) : Prop where
 l : SortR key f a m
 r : SortR key f m b
 old : ∀ i j, a ≤ i → i < m → m ≤ j → j < b → f i < f j
theorem Parts.lt_iff {key : Nat → Int} {f : Nat → Nat} {a m b : Nat} (h : Parts key f a m b) {i j : Nat} (h1 : a ≤ i) (h2 : i < m) (h3 : m ≤ j) (h4 : j < b) : (key (f i) < key (f j) → LtK key (f j) (f i)) ∧ (¬ key (f i) < key (f j) → LtK key (f i) (f j)) :=
 ⟨fun h => LtK.of_gt h, fun hn => LtK.of_le (h.old i j h1 h2 h3 h4) hn⟩
theorem merge_rot {key : Nat → Int} {f : Nat → Nat} {a m b s e d : Nat} (h : Parts key f a m b) (has : a ≤ s) (hsm : s ≤ m) (hme : m ≤ e) (heb : e ≤ b) (hd : d = s + (e - m))
  (h1 : a < s → e < b → LtK key (f (s - 1)) (f e)) (h2 : m < e → s < m → LtK key (f (e - 1)) (f s)) :
  Parts key (rotF f s m e) a s d ∧ Parts key (rotF f s m e) d e b ∧ ∀ i j, a ≤ i → i < d → d ≤ j → j < b → LtK key (rotF f s m e i) (rotF f s m e j) := by
 subst hd
 have lo : ∀ k, k < s → rotF f s m e k = f k := fun k hk => rot_out f hsm hme (.inl hk)
 have mi : ∀ k, s ≤ k → k < s + (e - m) → rotF f s m e k = f (m + (k - s)) := fun k h1 h2 => rot_lo f h1 h2
 have hi : ∀ k, s + (e - m) ≤ k → k < e → rotF f s m e k = f (s + (k - (s + (e - m)))) := fun k h1 h2 => rot_hi f h1 h2
 have up : ∀ k, e ≤ k → rotF f s m e k = f k := fun k hk => rot_out f hsm hme (.inr hk)
 refine ⟨⟨fun i j p1 p2 p3 => ?_, fun i j p1 p2 p3 => ?_, fun i j p1 p2 p3 p4 => ?_⟩, ⟨fun i j p1 p2 p3 => ?_, fun i j p1 p2 p3 => ?_, fun i j p1 p2 p3 p4 => ?_⟩, fun i j p1 p2 p3 p4 => ?_⟩
 ·
  rw [lo i (by omega), lo j (by omega)]
  exact h.l i j (by omega) p2 (by omega)
 ·
  rw [mi i (by omega) (by omega), mi j (by omega) (by omega)]
  exact h.r _ _ (by omega) (by omega) (by omega)
 ·
  rw [lo i (by omega), mi j (by omega) (by omega)]
  exact h.old _ _ (by omega) (by omega) (by omega) (by omega)
 ·
  rw [hi i (by omega) (by omega), hi j (by omega) (by omega)]
  exact h.l _ _ (by omega) (by omega) (by omega)
 ·
  rw [up i (by omega), up j (by omega)]
  exact h.r _ _ (by omega) p2 (by omega)
 ·
  rw [hi i (by omega) (by omega), up j (by omega)]
  exact h.old _ _ (by omega) (by omega) (by omega) (by omega)
 ·
  by_cases ci : i < s
  ·
   rw [lo i ci]
   by_cases cj : j < e
   ·
    rw [hi j p3 cj]
    exact h.l _ _ (by omega) (by omega) (by omega)
   ·
    rw [up j (by omega)]
    have a1 := h1 (by omega) (by omega)
    have a2 : i = s - 1 ∨ LtK key (f i) (f (s - 1)) := by
     rcases Nat.lt_or_ge i (s - 1) with q | q
     ·
      exact .inr (h.l _ _ p1 q (by omega))
     ·
      exact .inl (by omega)
    have a3 : j = e ∨ LtK key (f e) (f j) := by
     rcases Nat.lt_or_ge e j with q | q
     ·
      exact .inr (h.r _ _ hme q p4)
     ·
      exact .inl (by omega)
    have a4 : LtK key (f i) (f e) := by
     rcases a2 with q | q
     ·
      rw [q]; exact a1
     ·
      exact q.trans a1
    rcases a3 with q | q
    ·
     rw [q]; exact a4
    ·
     exact a4.trans q
  ·
   rw [mi i (by omega) p2]
   by_cases cj : j < e
   ·
    rw [hi j p3 cj]
    have a1 := h2 (by omega) (by omega)
    have a2 : m + (i - s) = e - 1 ∨ LtK key (f (m + (i - s))) (f (e - 1)) := by
     rcases Nat.lt_or_ge (m + (i - s)) (e - 1) with q | q
     ·
      exact .inr (h.r _ _ (by omega) q (by omega))
     ·
      exact .inl (by omega)
    have a3 : s + (j - (s + (e - m))) = s ∨ LtK key (f s) (f (s + (j - (s + (e - m))))) := by
     rcases Nat.lt_or_ge s (s + (j - (s + (e - m)))) with q | q
     ·
      exact .inr (h.l _ _ has q (by omega))
     ·
      exact .inl (by omega)
    have a4 : LtK key (f (m + (i - s))) (f s) := by
     rcases a2 with q | q
     ·
      rw [q]; exact a1
     ·
      exact q.trans a1
    rcases a3 with q | q
    ·
     rw [q]; exact a4
    ·
     exact a4.trans q
   ·
    rw [up j (by omega)]
    exact h.r _ _ (by omega) (by omega) p4
theorem merge_join {key : Nat → Int} {f g h : Nat → Nat} {a d b : Nat} (had : a ≤ d) (hdb : d ≤ b) (hx : ∀ i j, a ≤ i → i < d → d ≤ j → j < b → LtK key (f i) (f j)) (h1 : SameOn f g a d) (s1 : SortR key g a d) (h2 : SameOn g h d b) (s2 : SortR key h d b) :
  SameOn f h a b ∧ SortR key h a b := by
 refine ⟨(h1.wide (Nat.le_refl _) had hdb).trans (h2.wide had hdb (Nat.le_refl _)), fun i j p1 p2 p3 => ?_⟩
 by_cases ci : i < d
 ·
  rw [h2.out i (.inl ci)]
  by_cases cj : j < d
  ·
   rw [h2.out j (.inl cj)]
   exact s1 i j p1 p2 cj
  ·
   obtain ⟨i', ia, ib, e⟩ := h1.hits i p1 ci
   obtain ⟨j', ja, jb, e'⟩ := h2.hits j (by omega) p3
   rw [e, e', h1.out j' (.inr ja)]
   exact hx i' j' ia ib ja jb
 ·
  exact s2 i j (by omega) p2 p3
theorem merge_one {key : Nat → Int} {f : Nat → Nat} {a m b p : Nat} (h : Parts key f a m b) (hm : m = a + 1) (hp : m ≤ p) (hpb : p ≤ b) (h1 : ∀ j, m ≤ j → j < p → LtK key (f j) (f a)) (h2 : ∀ j, p ≤ j → j < b → LtK key (f a) (f j)) :
  SortR key (rotF f a m p) a b := by
 intro i j p1 p2 p3
 have lo : ∀ k, a ≤ k → k < a + (p - m) → rotF f a m p k = f (m + (k - a)) := fun k h1 h2 => rot_lo f h1 h2
 have mi : rotF f a m p (a + (p - m)) = f a := by rw [rot_hi f (by omega) (by omega)]; congr 1; omega
 have up : ∀ k, p ≤ k → rotF f a m p k = f k := fun k hk => rot_out f (by omega) hp (.inr hk)
 by_cases ci : i < a + (p - m)
 ·
  rw [lo i p1 ci]
  by_cases cj : j < a + (p - m)
  ·
   rw [lo j (by omega) cj]
   exact h.r _ _ (by omega) (by omega) (by omega)
  ·
   by_cases cj2 : j = a + (p - m)
   ·
    rw [cj2, mi]
    exact h1 _ (by omega) (by omega)
   ·
    rw [up j (by omega)]
    exact h.r _ _ (by omega) (by omega) p3
 ·
  by_cases ci2 : i = a + (p - m)
  ·
   rw [ci2, mi, up j (by omega)]
   exact h2 j (by omega) p3
  ·
   rw [up i (by omega), up j (by omega)]
   exact h.r _ _ (by omega) p2 p3
theorem merge_one' {key : Nat → Int} {f : Nat → Nat} {a m b p : Nat} (h : Parts key f a m b) (hm : b = m + 1) (hap : a ≤ p) (hp : p ≤ m) (h1 : ∀ j, a ≤ j → j < p → LtK key (f j) (f m)) (h2 : ∀ j, p ≤ j → j < m → LtK key (f m) (f j)) :
  SortR key (rotF f p m b) a b := by
 intro i j p1 p2 p3
 have lo : ∀ k, k < p → rotF f p m b k = f k := fun k hk => rot_out f hp (by omega) (.inl hk)
 have mi : rotF f p m b p = f m := by rw [rot_lo f (by omega) (by omega)]; congr 1; omega
 have up : ∀ k, p < k → k < b → rotF f p m b k = f (k - 1) := fun k h1 h2 => by rw [rot_hi f (by omega) h2]; congr 1; omega
 by_cases ci : i < p
 ·
  rw [lo i ci]
  by_cases cj : j < p
  ·
   rw [lo j cj]
   exact h.l _ _ p1 p2 (by omega)
  ·
   by_cases cj2 : j = p
   ·
    rw [cj2, mi]
    exact h1 i p1 ci
   ·
    rw [up j (by omega) p3]
    exact h.l _ _ p1 (by omega) (by omega)
 ·
  by_cases ci2 : i = p
  ·
   rw [ci2, mi, up j (by omega) p3]
   exact h2 _ (by omega) (by omega)
  ·
   rw [up i (by omega) (by omega), up j (by omega) p3]
   exact h.l _ _ (by omega) (by omega) (by omega)

end Go.Proofs.YtofijjomfhmbjaaGreat

namespace Go.Proofs.YtofijjomfhmbjaaGreat
open Go.RowKit

theorem wpList_make_room {P : Program} (w : World) {ops : Array Oper} {rest : List Oper} {o : Oper} {a : Act} {Q : Exit → Act → World → Prop}
  (hg : o.guard = none) (l c : Operand) (t : TypeId) (hop : o.op = Op.makeSlice t l c)
  (base : Nat) (e : TypeId) (i : TypeInfo) (z : Value) (size : Nat) (h1 : P.underlying t = some (.slice e)) (h2 : P.info? e = some i) (h3 : i.zero = some z) (h4 : i.size = size)
  (kl kc : IntKind) (L C : Int) (n m : Nat) (hl : a.eval l = .int kl L) (hc : a.eval c = .int kc C) (hL : L = (n : Int)) (hC : C = (m : Int)) (hnm : n ≤ m) (b2 : i.bytes * m ≤ 281474976710656) (b3 : m ≤ maxLen) (_b4 : base ≤ w.heap.size)
  (hK : ∀ w', w'.heap[w.heap.size]? = some (.cells (madeCells z.cells (m * size)) e (0, 0)) → w.grownBy w' none → wpList P ops Q rest (a.put o.dst (.slice (some ⟨w.heap.size, 0, none⟩) n m)) w') :
  wpList P ops Q (o :: rest) a w := by
 subst h4
 subst hL
 subst hC
 refine wpList_plain hg fun K hK' => ?_
 have b3' : (m : Int) ≤ 9223372036854775807 := by
  have h := b3
  simp [maxLen] at h
  omega
 have hb' : (i.bytes : Int) * (m : Int) ≤ 281474976710656 := by
  have h : ((i.bytes * m : Nat) : Int) ≤ 281474976710656 := by omega
  rwa [Int.natCast_mul] at h
 have hr := run_make (P := P) w t e i z h1 h2 h3 kl kc n m (by omega) (by omega) hb' b3'
 simp only [Int.toNat_natCast] at hr
 unfold Oper.wp
 simp [execOp, hop, hl, hc, hr, Result.andThen]
 exact hK' _ _ (hK _ (heap_alloc_new w _) (World.grownBy_alloc w _ none))

structure PlIn (a b : List Nat) (n i : Nat) (o : List Nat) (c : Nat) : Prop where
 len : o.length = n
 dgs : Dgs b64 o
 car : c ≤ 1
 val : lv b64 o + b64 ^ i * c = lv b64 (a.take i) + lv b64 (b.take i)
 top : ∀ j, i ≤ j → o.getD j 0 = 0
theorem take_step64 (a : List Nat) (i : Nat) : lv b64 (a.take (i + 1)) = lv b64 (a.take i) + b64 ^ i * a.getD i 0 := by
 by_cases h : i < a.length
 ·
  exact lv_take_succ b64 a i h
 ·
  rw [List.take_of_length_le (by omega), List.take_of_length_le (by omega)]
  simp [List.getElem?_eq_none (Nat.le_of_not_lt h)]
theorem PlIn.start (a b : List Nat) (n : Nat) : PlIn a b n 0 (List.replicate n 0) 0 :=
 ⟨by simp, Dgs.replicate b64_pos _, by omega, by simp [lv_replicate, lv], fun j _ => by simp [List.getElem?_replicate]; split <;> rfl⟩
theorem PlIn.step {a b : List Nat} {n i : Nat} {o : List Nat} {c : Nat} (h : PlIn a b n i o c) (ha : Dgs b64 a) (hb : Dgs b64 b) (hi : i < n) (x y : Nat) (hx : x = a.getD i 0) (hy : y = b.getD i 0) :
  PlIn a b n (i + 1) (o.set i (addLo x y c)) (addHi x y c) := by
 have hxl := ha.getD b64_pos i
 have hyl := hb.getD b64_pos i
 rw [← hx] at hxl
 rw [← hy] at hyl
 refine ⟨by simpa using h.len, h.dgs.set _ _ (addLo_lt _ _ _), addHi_le _ _ _ hxl hyl h.car, ?_, fun j hj => ?_⟩
 ·
  have h1 := lv_set b64 o i (addLo x y c) (by rw [h.len]; exact hi)
  rw [h.top i (Nat.le_refl _)] at h1
  have h2 := h.val
  rw [take_step64, take_step64, Nat.pow_succ, ← hx, ← hy]
  have e4 := add_eq x y c
  have e5 : b64 ^ i * (addLo x y c + b64 * addHi x y c) = b64 ^ i * (x + y + c) := by rw [e4]
  rw [Nat.mul_assoc]
  simp only [Nat.mul_add] at e5
  omega
 ·
  have := h.top j (by omega)
  rw [List.getD_eq_getElem?_getD] at *
  rw [List.getElem?_set_ne (by omega)]
  exact this
theorem PlIn.done {a b : List Nat} {o : List Nat} {c : Nat} (h : PlIn a b a.length a.length o c) (hl : b.length ≤ a.length) : lv b64 o + b64 ^ a.length * c = lv b64 a + lv b64 b := by
 have hv := h.val
 rw [List.take_of_length_le (Nat.le_refl _), List.take_of_length_le hl] at hv
 exact hv
theorem plus_dig {a b o : List Nat} {c : Nat} (h : PlIn a b a.length a.length o c) (hl : b.length ≤ a.length) (hla : ∀ h : a ≠ [], a.getLast h ≠ 0) :
  (c = 0 → dig b64 (lv b64 a + lv b64 b) = o) ∧ (0 < c → dig b64 (lv b64 a + lv b64 b) = o ++ [c]) := by
 have hd := h.done hl
 constructor
 ·
  intro h0
  subst h0
  rw [← hd, Nat.mul_zero, Nat.add_zero]
  refine dig_of b64_two o h.dgs fun hne => ?_
  -- the greatest digit of o is not 0: o is at least a
  have hpos : 0 < a.length := by
   rcases Nat.eq_zero_or_pos a.length with h1 | h1
   ·
    exact absurd (List.eq_nil_of_length_eq_zero (h.len.trans h1)) hne
   ·
    exact h1
  have hane : a ≠ [] := fun e => by rw [e] at hpos; simp at hpos
  intro hz
  have h2 : lv b64 o < b64 ^ (a.length - 1) := by
   have e1 : o = o.take (o.length - 1) ++ [0] := by
    conv => lhs; rw [← List.dropLast_concat_getLast hne, hz, List.dropLast_eq_take]
   have e2 : Dgs b64 (o.take (o.length - 1)) := h.dgs.take _
   rw [e1, dig_lv_snoc_zero]
   have := lv_lt e2
   rw [List.length_take, Nat.min_eq_left (by omega)] at this
   rw [h.len] at this ⊢
   exact this
  have h3 : b64 ^ (a.length - 1) ≤ lv b64 a := by
   have e1 : a = a.dropLast ++ [a.getLast hane] := (List.dropLast_concat_getLast hane).symm
   have h4 := hla hane
   generalize a.getLast hane = q at *
   rw [e1, lv_append]
   have : a.dropLast.length = a.length - 1 := by simp
   rw [this]
   have e3 : lv b64 [q] = q := by simp [lv]
   rw [e3]
   have := Nat.le_mul_of_pos_right (b64 ^ (a.length - 1)) (show 0 < q by omega)
   simp only [List.length_append, List.length_dropLast, List.length_cons, List.length_nil]
   have e4 : a.length - 1 + (0 + 1) - 1 = a.length - 1 := by omega
   rw [e4]
   omega
  omega
 ·
  intro h0
  have hc : c = 1 := by have := h.car; omega
  subst hc
  have e : lv b64 a + lv b64 b = lv b64 (o ++ [1]) := by rw [lv_append, h.len, ← hd]; simp [lv]
  rw [e]
  exact dig_of b64_two _ (h.dgs.append (by intro d hd; simp at hd; rw [hd]; exact b64_two)) fun hne => by simp

def OwnAll (w : World) (g : Nat) (k : IntKind) (e : TypeId) (ds : List Nat) : Prop := w.heap[g]? = some (.cells (ds.map (fun d : Nat => Value.int k (d : Int))).toArray e (0, 0))
theorem OwnAll.own {w : World} {g : Nat} {k : IntKind} {e : TypeId} {ds : List Nat} (h : OwnAll w g k e ds) : Own w g k e ds := ⟨[], by rw [List.append_nil]; exact h⟩
theorem OwnAll.frozen {w : World} {g : Nat} {k : IntKind} {e : TypeId} {ds : List Nat} (h : OwnAll w g k e ds) (j : Nat) : w.frozen? ⟨g, j, none⟩ = false := h.own.frozen j
theorem OwnAll.cell {w : World} {g : Nat} {k : IntKind} {e : TypeId} {ds : List Nat} (h : OwnAll w g k e ds) (j : Nat) (hj : j < ds.length) : ∃ q, w.cell? ⟨g, j, none⟩ = some (.int k q) := ⟨_, h.own.cell j hj⟩
theorem OwnAll.store {w : World} {g : Nat} {k : IntKind} {e : TypeId} {ds : List Nat} (h : OwnAll w g k e ds) (j x : Nat) : OwnAll (w.setCell ⟨g, j, none⟩ (.int k x)) g k e (ds.set j x) := by
 unfold OwnAll at *
 rw [heap_setCell_same w g j _ e _ h]
 simp [List.map_set]
theorem OwnAll.of_room {w : World} {g : Nat} {e : TypeId} {n : Nat} (h : w.heap[g]? = some (.cells (madeCells #[Value.int .u64 0] (n + 1)) e (0, 0))) : OwnAll w g .u64 e (List.replicate n 0 ++ [0]) := by
 unfold OwnAll
 rw [h]
 have e1 : (madeCells #[Value.int .u64 0] (n + 1)).toList = List.replicate (n + 1) (Value.int .u64 0) := toList_madeCells_one _ _
 have e2 : (List.replicate n 0 ++ [0]).map (fun d : Nat => Value.int .u64 (d : Int)) = List.replicate (n + 1) (Value.int .u64 0) := by
  rw [List.replicate_succ']
  simp
 rw [e2, ← e1]
theorem Own.init {w : World} {g : Nat} {k : IntKind} {e : TypeId} {a b : List Nat} (h : Own w g k e (a ++ b)) : Own w g k e a := by
 obtain ⟨tl, h⟩ := h
 refine ⟨b.map (fun d : Nat => Value.int k (d : Int)) ++ tl, ?_⟩
 rw [h]
 simp
theorem OwnAll.ownsRow {w : World} {g : Nat} {k : IntKind} {e : TypeId} {o : List Nat} (h : OwnAll w g k e (o ++ [0])) (n base : Nat) (hb : base ≤ g) (hn : o.length = n) (hm : n + 1 ≤ maxLen) :
  w.ownsRow base e 1 (.slice (some ⟨g, 0, none⟩) n (n + 1)) n (o.map (fun d : Nat => Value.int k (d : Int))) := by
 refine ⟨by simp [hn], .inr ⟨g, n + 1, _, rfl, hb, h, by omega, hm, by simp [hn], ?_⟩⟩
 simp [← hn]
theorem digits_row {w : World} {base g n : Nat} {e : TypeId} {o : List Nat} {c : Nat} (hn : o.length = n) (h : w.ownsRow base e 1 (.slice (some ⟨g, 0, none⟩) (n + 1) (n + 1)) (n + 1) (o.map (fun d : Nat => Value.int .u64 (d : Int)) ++ [.int .u64 (c : Int)])) :
  IsRow .u64 w (.slice (some ⟨g, 0, none⟩) (n + 1) (n + 1)) (o ++ [c]) := by
 have hl : (o ++ [c]).length = n + 1 := by simp [hn]
 obtain ⟨ho, h1, h2, _⟩ := Own.of_ownsRow (k := .u64) (ds := o ++ [c]) hl (by simpa using h)
 have := ho.isRowCap (n + 1) (by omega) h2
 rw [hl] at this
 exact this

theorem run_Add64_y0 (x c : Nat) (hc : c ≤ 1) (w : World) :
  (callFunc 93 #[.int .u64 x, .int .u64 0, .int .u64 c]).run Tryz.prog w = .ok (.value (.tuple #[.int .u64 (addLo x 0 c : Nat), .int .u64 (addHi x 0 c : Nat)])) w :=
 run_Add64 x 0 c hc w
theorem run_Sub64_y0 (x c : Nat) (hc : c ≤ 1) (w : World) :
  (callFunc 96 #[.int .u64 x, .int .u64 0, .int .u64 c]).run Tryz.prog w = .ok (.value (.tuple #[.int .u64 (subLo x 0 c : Nat), .int .u64 (subHi x 0 c : Nat)])) w :=
 run_Sub64 x 0 c hc w

set_option maxRecDepth 100000 in
set_option maxHeartbeats 2000000 in
theorem plus_any (m n : Nat) (va vb : Value) (w : World) (ha : IsNat .u64 b64 w va m) (hb : IsNat .u64 b64 w vb n) (hla : (dig b64 m).length ≤ 1099511627776) (hlb : (dig b64 n).length ≤ 1099511627776) :
  Calls Tryz.prog 68 #[va, vb] w (RetNat .u64 b64 (m + n) w) := by
 obtain ⟨aa, ca, rfl, hA⟩ := IsRow.opened ha
 obtain ⟨ab, cb, rfl, hB⟩ := IsRow.opened hb
 have hdA := dgs_dig b64_two m
 have hdB := dgs_dig b64_two n
 have HLA := Lib.hid (dig_last b64_two m)
 have HLB := Lib.hid (dig_last b64_two n)
 have HVA : Hid (lv b64 (dig b64 m) + lv b64 (dig b64 n) = m + n) := by show _ = _; rw [lv_dig b64_two, lv_dig b64_two]
 have HVB : Hid (lv b64 (dig b64 n) + lv b64 (dig b64 m) = m + n) := by show _ = _; rw [lv_dig b64_two, lv_dig b64_two, Nat.add_comm]
 clear ha hb
 generalize dig b64 m = dA at *
 generalize dig b64 n = dB at *
 obtain ⟨i0, hi, hz0, hz1, hz2⟩ := info_parts info_u64
 by_cases hsw : dA.length < dB.length
 ·
  have tsw : decide (dA.length < dB.length) = true := decide_eq_true hsw
  go_enter Tryz.func68, Tryz.ntmps68
  go_wp2_with (at_make; refine wpList_make_room _ rfl _ _ 52 rfl w.heap.size 103 i0 (.int .u64 0) 1 Tryz.underlying52 hi hz0 hz1 _ _ _ _ dB.length (dB.length + 1) rfl rfl (by omega) (by omega) (by omega) (by rw [hz2]; omega) (by unfold maxLen; omega) (by omega) ?_)
  intro w1 hown hgrow
  have ho := OwnAll.of_room hown
  have hbel := (Below.refl w.heap.size w).grown hgrow (Nat.le_refl _) (by simp)
  clear hown hgrow
  go_wp2_with fail
  go_loopw [6, 25] (fun cv iv wr => ∃ (i : Nat) (o : List Nat) (c : Nat), i ≤ dB.length ∧ iv = .int .i64 i ∧ cv = .int .u64 c ∧ OwnAll wr w.heap.size .u64 103 (o ++ [0]) ∧ Hid (PlIn dB dA dB.length i o c) ∧ Below w.heap.size w wr)
   (fun _ iv _ => dB.length - (intOf iv).toNat)
  case atStart => exact ⟨0, _, 0, Nat.zero_le _, rfl, rfl, ho, PlIn.start _ _ _, hbel⟩
  case round =>
   clear ho hbel
   obtain ⟨i, o, c, hil, rfl, rfl, ho, hM, hbel⟩ := hrel
   by_cases hlt : i < dB.length
   ·
    obtain ⟨b, off, rfl, hbA, hcA⟩ := hB (by omega)
    have hca := (hbel.cell (p := ⟨b, off + i, none⟩) hbA).trans (hcA i hlt)
    have hfo := ho.frozen i
    have hlo := hM.out.len
    obtain ⟨q0, hco⟩ := ho.cell i (by rw [List.length_append]; omega)
    have hst := Lib.hid (fun x y hx hy => hM.out.step hdB hdA hlt x y hx hy)
    have hlt' : (i : Int) < dB.length := by omega
    have hge' : (0 : Int) ≤ i := by omega
    have hset : ∀ v, (o ++ [0]).set i v = o.set i v ++ [0] := fun v => by rw [List.set_append_left _ _ (by omega)]
    have HSET := Lib.hid hset
    have hcar := hM.out.car
    clear hset hlo
    by_cases hlb : i < dA.length
    ·
     obtain ⟨b', off', rfl, hbB, hcB⟩ := hA (by omega)
     have hcb := (hbel.cell (p := ⟨b', off' + i, none⟩) hbB).trans (hcB i hlb)
     have hlb' : (i : Int) < dA.length := by omega
     have tb : decide (i < dA.length) = true := decide_eq_true hlb
     have HST := Lib.hid (hst.out _ _ rfl rfl)
     clear hst
     generalize dB.getD i 0 = x at *
     generalize dA.getD i 0 = y at *
     have hadd := run_Add64 x y c hcar
     clear hcar
     go_wp2_with fail
     exact ⟨⟨i + 1, _, _, by omega, by go_num, rfl, by rw [← HSET.out]; exact ho.store i _, HST.out, hbel.setCell (p := ⟨w.heap.size, i, none⟩) (Nat.le_refl _) _⟩, meas_up hlt⟩
    ·
     have tb : decide (i < dA.length) = false := decide_eq_false hlb
     have HST := Lib.hid (hst.out _ 0 rfl (by simp [List.getElem?_eq_none (Nat.le_of_not_lt hlb)]))
     clear hst
     generalize dB.getD i 0 = x at *
     have hadd := run_Add64_y0 x c hcar
     clear hcar
     go_wp2_with fail
     exact ⟨⟨i + 1, _, _, by omega, by go_num, rfl, by rw [← HSET.out]; exact ho.store i _, HST.out, hbel.setCell (p := ⟨w.heap.size, i, none⟩) (Nat.le_refl _) _⟩, meas_up hlt⟩
   ·
    obtain rfl : i = dB.length := by omega
    have hlen := Lib.hid hM.out.len
    have hpd := plus_dig hM.out (by omega) HLB.out
    have hv : lv b64 dB + lv b64 dA = m + n := HVB.out
    rw [hv] at hpd
    have HP0 := Lib.hid hpd.1
    have HP1 := Lib.hid hpd.2
    clear hpd hv
    rcases Nat.eq_zero_or_pos c with hc | hc
    ·
     subst hc
     have HP := Lib.hid (HP0.out rfl)
     have hrow := (Own.init ho.own).isRowCap (dB.length + 1) (by rw [hlen.out]; omega) (by unfold maxLen; omega)
     rw [hlen.out] at hrow
     have HR := Lib.hid hrow
     clear hrow
     go_wp2_with fail
     go_ret
     exact ⟨_, rfl, by show IsRow _ _ _ _; rw [HP.out]; exact HR.out, hbel⟩
    ·
     have tc : decide (0 < c) = true := decide_eq_true hc
     have HP := Lib.hid (HP1.out hc)
     have how := ho.ownsRow dB.length w.heap.size (Nat.le_refl _) hlen.out (by unfold maxLen; omega)
     have hx1 := hbel.alloc hbel.size (.cells #[.int .u64 (c : Int)] 103)
     have hcn := cell_one_new wr (.int .u64 (c : Int)) 103
     have HCN := Lib.hid hcn
     have HOW := Lib.hid (how.alloc (.cells #[.int .u64 (c : Int)] 103))
     clear how hcn hc ho
     go_wp2_with (at_builtin; refine wpList_append_fits _ rfl (.tmp 51) (.tmp 53) 52 rfl w.heap.size 103 i0 1 Tryz.underlying52 hi hz1 _ _ _ _ rfl HOW.out ⟨wr.heap.size, 0, none⟩ 1 1 [.int .u64 (c : Int)] rfl rfl HCN.out (by simp [Value.oneCell']) (by omega) ?_)
     intro w2 hown2 hgr2
     have hb2 : Below w.heap.size w w2 := hx1.grown hgr2 hx1.size (by simp)
     have HR := Lib.hid (digits_row hlen.out hown2)
     clear hown2 hgr2 hx1
     go_wp2_with fail
     go_ret
     exact ⟨_, rfl, by show IsRow _ _ _ _; rw [HP.out]; exact HR.out, hb2⟩
 ·
  have tsw : decide (dA.length < dB.length) = false := decide_eq_false hsw
  go_enter Tryz.func68, Tryz.ntmps68
  go_wp2_with (at_make; refine wpList_make_room _ rfl _ _ 52 rfl w.heap.size 103 i0 (.int .u64 0) 1 Tryz.underlying52 hi hz0 hz1 _ _ _ _ dA.length (dA.length + 1) rfl rfl (by omega) (by omega) (by omega) (by rw [hz2]; omega) (by unfold maxLen; omega) (by omega) ?_)
  intro w1 hown hgrow
  have ho := OwnAll.of_room hown
  have hbel := (Below.refl w.heap.size w).grown hgrow (Nat.le_refl _) (by simp)
  clear hown hgrow
  go_wp2_with fail
  go_loopw [6, 25] (fun cv iv wr => ∃ (i : Nat) (o : List Nat) (c : Nat), i ≤ dA.length ∧ iv = .int .i64 i ∧ cv = .int .u64 c ∧ OwnAll wr w.heap.size .u64 103 (o ++ [0]) ∧ Hid (PlIn dA dB dA.length i o c) ∧ Below w.heap.size w wr)
   (fun _ iv _ => dA.length - (intOf iv).toNat)
  case atStart => exact ⟨0, _, 0, Nat.zero_le _, rfl, rfl, ho, PlIn.start _ _ _, hbel⟩
  case round =>
   clear ho hbel
   obtain ⟨i, o, c, hil, rfl, rfl, ho, hM, hbel⟩ := hrel
   by_cases hlt : i < dA.length
   ·
    obtain ⟨b, off, rfl, hbA, hcA⟩ := hA (by omega)
    have hca := (hbel.cell (p := ⟨b, off + i, none⟩) hbA).trans (hcA i hlt)
    have hfo := ho.frozen i
    have hlo := hM.out.len
    obtain ⟨q0, hco⟩ := ho.cell i (by rw [List.length_append]; omega)
    have hst := Lib.hid (fun x y hx hy => hM.out.step hdA hdB hlt x y hx hy)
    have hlt' : (i : Int) < dA.length := by omega
    have hge' : (0 : Int) ≤ i := by omega
    have hset : ∀ v, (o ++ [0]).set i v = o.set i v ++ [0] := fun v => by rw [List.set_append_left _ _ (by omega)]
    have HSET := Lib.hid hset
    have hcar := hM.out.car
    clear hset hlo
    by_cases hlb : i < dB.length
    ·
     obtain ⟨b', off', rfl, hbB, hcB⟩ := hB (by omega)
     have hcb := (hbel.cell (p := ⟨b', off' + i, none⟩) hbB).trans (hcB i hlb)
     have hlb' : (i : Int) < dB.length := by omega
     have tb : decide (i < dB.length) = true := decide_eq_true hlb
     have HST := Lib.hid (hst.out _ _ rfl rfl)
     clear hst
     generalize dA.getD i 0 = x at *
     generalize dB.getD i 0 = y at *
     have hadd := run_Add64 x y c hcar
     clear hcar
     go_wp2_with fail
     exact ⟨⟨i + 1, _, _, by omega, by go_num, rfl, by rw [← HSET.out]; exact ho.store i _, HST.out, hbel.setCell (p := ⟨w.heap.size, i, none⟩) (Nat.le_refl _) _⟩, meas_up hlt⟩
    ·
     have tb : decide (i < dB.length) = false := decide_eq_false hlb
     have HST := Lib.hid (hst.out _ 0 rfl (by simp [List.getElem?_eq_none (Nat.le_of_not_lt hlb)]))
     clear hst
     generalize dA.getD i 0 = x at *
     have hadd := run_Add64_y0 x c hcar
     clear hcar
     go_wp2_with fail
     exact ⟨⟨i + 1, _, _, by omega, by go_num, rfl, by rw [← HSET.out]; exact ho.store i _, HST.out, hbel.setCell (p := ⟨w.heap.size, i, none⟩) (Nat.le_refl _) _⟩, meas_up hlt⟩
   ·
    obtain rfl : i = dA.length := by omega
    have hlen := Lib.hid hM.out.len
    have hpd := plus_dig hM.out (by omega) HLA.out
    have hv : lv b64 dA + lv b64 dB = m + n := HVA.out
    rw [hv] at hpd
    have HP0 := Lib.hid hpd.1
    have HP1 := Lib.hid hpd.2
    clear hpd hv
    rcases Nat.eq_zero_or_pos c with hc | hc
    ·
     subst hc
     have HP := Lib.hid (HP0.out rfl)
     have hrow := (Own.init ho.own).isRowCap (dA.length + 1) (by rw [hlen.out]; omega) (by unfold maxLen; omega)
     rw [hlen.out] at hrow
     have HR := Lib.hid hrow
     clear hrow
     go_wp2_with fail
     go_ret
     exact ⟨_, rfl, by show IsRow _ _ _ _; rw [HP.out]; exact HR.out, hbel⟩
    ·
     have tc : decide (0 < c) = true := decide_eq_true hc
     have HP := Lib.hid (HP1.out hc)
     have how := ho.ownsRow dA.length w.heap.size (Nat.le_refl _) hlen.out (by unfold maxLen; omega)
     have hx1 := hbel.alloc hbel.size (.cells #[.int .u64 (c : Int)] 103)
     have hcn := cell_one_new wr (.int .u64 (c : Int)) 103
     have HCN := Lib.hid hcn
     have HOW := Lib.hid (how.alloc (.cells #[.int .u64 (c : Int)] 103))
     clear how hcn hc ho
     go_wp2_with (at_builtin; refine wpList_append_fits _ rfl (.tmp 51) (.tmp 53) 52 rfl w.heap.size 103 i0 1 Tryz.underlying52 hi hz1 _ _ _ _ rfl HOW.out ⟨wr.heap.size, 0, none⟩ 1 1 [.int .u64 (c : Int)] rfl rfl HCN.out (by simp [Value.oneCell']) (by omega) ?_)
     intro w2 hown2 hgr2
     have hb2 : Below w.heap.size w w2 := hx1.grown hgr2 hx1.size (by simp)
     have HR := Lib.hid (digits_row hlen.out hown2)
     clear hown2 hgr2 hx1
     go_wp2_with fail
     go_ret
     exact ⟨_, rfl, by show IsRow _ _ _ _; rw [HP.out]; exact HR.out, hb2⟩

structure MiIn (a b : List Nat) (n i : Nat) (o : List Nat) (c : Nat) : Prop where
 len : o.length = n
 dgs : Dgs b64 o
 car : c ≤ 1
 val : lv b64 o + lv b64 (b.take i) = lv b64 (a.take i) + b64 ^ i * c
 top : ∀ j, i ≤ j → o.getD j 0 = 0
theorem MiIn.start (a b : List Nat) (n : Nat) : MiIn a b n 0 (List.replicate n 0) 0 :=
 ⟨by simp, Dgs.replicate b64_pos _, by omega, by simp [lv_replicate, lv], fun j _ => by simp [List.getElem?_replicate]; split <;> rfl⟩
theorem sub_eq_plus (x y c : Nat) (hx : x < b64) (hy : y < b64) (hc : c ≤ 1) : subLo x y c + y + c = x + b64 * subHi x y c := by
 unfold subLo subHi
 by_cases h : x < y + c
 ·
  rw [if_pos h, Nat.mod_eq_of_lt (by omega)]; omega
 ·
  rw [if_neg h]
  have e : b64 + x - y - c = (x - y - c) + b64 := by omega
  rw [e, Nat.add_mod_right, Nat.mod_eq_of_lt (by omega)]
  omega
theorem MiIn.step {a b : List Nat} {n i : Nat} {o : List Nat} {c : Nat} (h : MiIn a b n i o c) (ha : Dgs b64 a) (hb : Dgs b64 b) (hi : i < n) (x y : Nat) (hx : x = a.getD i 0) (hy : y = b.getD i 0) :
  MiIn a b n (i + 1) (o.set i (subLo x y c)) (subHi x y c) := by
 have hxl := ha.getD b64_pos i
 have hyl := hb.getD b64_pos i
 rw [← hx] at hxl
 rw [← hy] at hyl
 refine ⟨by simpa using h.len, h.dgs.set _ _ (subLo_lt _ _ _), subHi_le _ _ _, ?_, fun j hj => ?_⟩
 ·
  have h1 := lv_set b64 o i (subLo x y c) (by rw [h.len]; exact hi)
  rw [h.top i (Nat.le_refl _)] at h1
  have h2 := h.val
  rw [take_step64, take_step64, Nat.pow_succ, ← hx, ← hy]
  have e4 := sub_eq_plus x y c hxl hyl h.car
  have e5 : b64 ^ i * (subLo x y c + y + c) = b64 ^ i * (x + b64 * subHi x y c) := by rw [e4]
  rw [Nat.mul_assoc]
  simp only [Nat.mul_add] at e5
  omega
 ·
  have := h.top j (by omega)
  rw [List.getD_eq_getElem?_getD] at *
  rw [List.getElem?_set_ne (by omega)]
  exact this
theorem MiIn.done {a b o : List Nat} {c : Nat} (h : MiIn a b a.length a.length o c) (hl : b.length ≤ a.length) (hle : lv b64 b ≤ lv b64 a) : lv b64 o = lv b64 a - lv b64 b := by
 have hv := h.val
 rw [List.take_of_length_le (Nat.le_refl _), List.take_of_length_le hl] at hv
 rcases Nat.eq_zero_or_pos c with h0 | h0
 ·
  subst h0; omega
 ·
  have hc : c = 1 := by have := h.car; omega
  subst hc
  have := lv_lt h.dgs
  rw [h.len] at this
  omega

set_option maxRecDepth 100000 in
set_option maxHeartbeats 2000000 in
theorem minus_any (m n : Nat) (va vb : Value) (w : World) (ha : IsNat .u64 b64 w va m) (hb : IsNat .u64 b64 w vb n) (hle : n ≤ m) (hla : (dig b64 m).length ≤ 1099511627776) :
  Calls Tryz.prog 70 #[va, vb] w (RetNat .u64 b64 (m - n) w) := by
 obtain ⟨aa, ca, rfl, hA⟩ := IsRow.opened ha
 obtain ⟨ab, cb, rfl, hB⟩ := IsRow.opened hb
 have hdA := dgs_dig b64_two m
 have hdB := dgs_dig b64_two n
 have hlen := dig_length_mono b64_two hle
 have Hva := Lib.hid (lv_dig b64_two m)
 have Hvb := Lib.hid (lv_dig b64_two n)
 clear ha hb
 generalize dig b64 m = dA at *
 generalize dig b64 n = dB at *
 obtain ⟨i0, hi, hz0, hz1, hz2⟩ := info_parts info_u64
 go_enter Tryz.func70, Tryz.ntmps70
 go_wp2_with (at_make; refine wpList_make_full _ rfl _ _ 52 rfl w.heap.size 103 i0 (.int .u64 0) 1 Tryz.underlying52 hi hz0 hz1 _ _ _ _ dA.length rfl rfl (by omega) (by omega) (by rw [hz2]; omega) (by unfold maxLen; omega) (by omega) ?_)
 intro w1 hown hgrow
 have ho := Own.of_made hown
 have hbel := (Below.refl w.heap.size w).grown hgrow (Nat.le_refl _) (by simp)
 clear hown hgrow hi hz0 hz1 hz2
 go_wp2_with fail
 go_loopw [6, 15] (fun cv iv wr => ∃ (i : Nat) (o : List Nat) (c : Nat), i ≤ dA.length ∧ iv = .int .i64 i ∧ cv = .int .u64 c ∧ Own wr w.heap.size .u64 103 o ∧ Hid (MiIn dA dB dA.length i o c) ∧ Below w.heap.size w wr)
  (fun _ iv _ => dA.length - (intOf iv).toNat)
 case atStart => exact ⟨0, _, 0, Nat.zero_le _, rfl, rfl, ho, MiIn.start _ _ _, hbel⟩
 case round =>
  clear ho hbel
  obtain ⟨i, o, c, hil, rfl, rfl, ho, hM, hbel⟩ := hrel
  by_cases hlt : i < dA.length
  ·
   obtain ⟨b, off, rfl, hbA, hcA⟩ := hA (by omega)
   have hca := (hbel.cell (p := ⟨b, off + i, none⟩) hbA).trans (hcA i hlt)
   have hfo := ho.frozen i
   have hco := ho.cell i (by rw [hM.out.len]; omega)
   have hst := Lib.hid (fun x y hx hy => hM.out.step hdA hdB hlt x y hx hy)
   have hlt' : (i : Int) < dA.length := by omega
   have hge' : (0 : Int) ≤ i := by omega
   have hcar := hM.out.car
   generalize o.getD i 0 = q0 at *
   by_cases hlb : i < dB.length
   ·
    obtain ⟨b', off', rfl, hbB, hcB⟩ := hB (by omega)
    have hcb := (hbel.cell (p := ⟨b', off' + i, none⟩) hbB).trans (hcB i hlb)
    have hlb' : (i : Int) < dB.length := by omega
    have tb : decide (i < dB.length) = true := decide_eq_true hlb
    have HST := Lib.hid (hst.out _ _ rfl rfl)
    clear hst
    generalize dA.getD i 0 = x at *
    generalize dB.getD i 0 = y at *
    have hsub := run_Sub64 x y c hcar
    clear hcar
    go_wp2_with fail
    exact ⟨⟨i + 1, _, _, by omega, by go_num, rfl, ho.store i _, HST.out, hbel.setCell (p := ⟨w.heap.size, i, none⟩) (Nat.le_refl _) _⟩, meas_up hlt⟩
   ·
    have tb : decide (i < dB.length) = false := decide_eq_false hlb
    have HST := Lib.hid (hst.out _ 0 rfl (by simp [List.getElem?_eq_none (Nat.le_of_not_lt hlb)]))
    clear hst
    generalize dA.getD i 0 = x at *
    have hsub := run_Sub64_y0 x c hcar
    clear hcar
    go_wp2_with fail
    exact ⟨⟨i + 1, _, _, by omega, by go_num, rfl, ho.store i _, HST.out, hbel.setCell (p := ⟨w.heap.size, i, none⟩) (Nat.le_refl _) _⟩, meas_up hlt⟩
  ·
   obtain rfl : i = dA.length := by omega
   have hl := hM.out.len
   have hrow := ho.isRow (by rw [hl]; unfold maxLen; omega)
   rw [hl] at hrow
   have HR := Lib.hid hrow
   have HD := Lib.hid hM.out.dgs
   have HV := Lib.hid (hM.out.done hlen (by rw [Hva.out, Hvb.out]; exact hle))
   clear hl hrow ho
   go_wp2_with fail
   refine (cut_any o _ _ HR.out HD.out).mono ?_
   rintro e w' ⟨v, rfl, hv, rfl⟩
   go_wp2_with fail
   go_ret
   exact ⟨v, rfl, by rw [← Hva.out, ← Hvb.out, ← HV.out]; exact hv, hbel⟩

end Go.Proofs.YtofijjomfhmbjaaGreat

namespace Go.Proofs.YtofijjomfhmbjaaGreat
open Go.RowKit

theorem IsRat.stored {w : World} {B : Nat} {neg : Bool} {x1 y1 : Option Addr} {i1 j1 k1 l1 n : Nat} {q : Rat}
  (hB : RB w B) (h1 : IsNat .u64 b64 w (.slice x1 i1 j1) n) (h2 : IsNat .u64 b64 w (.slice y1 k1 l1) (dn q.den))
  (hn : decide (q.num < 0) = neg) (hm : q.num.natAbs = n) :
  IsRat (((w.setCell ⟨B, 0, none⟩ (.bool neg)).setCell ⟨B, 1, none⟩ (.slice x1 i1 j1)).setCell ⟨B, 2, none⟩ (.slice y1 k1 l1)) (.agg #[.bool neg, .slice x1 i1 j1, .slice y1 k1 l1]) q := by
 subst hn hm
 obtain ⟨b, x, i, j, y, k, l, T, hB⟩ := hB
 exact ⟨_, _, rfl, store3 hB h1, store3 hB h2⟩

set_option maxRecDepth 100000 in
set_option maxHeartbeats 4000000 in
theorem addRat_any (x y : Rat) (vx vy : Value) (w : World) (hx : IsRat w vx x) (hy : IsRat w vy y) (hlx : szR x 68719476736) (hly : szR y 68719476736) : Calls Tryz.prog 45 #[vx, vy] w (RetRat (x + y) w) := by
 obtain ⟨a1, c1, a2, c2, rfl, n1, n2⟩ := hx.opened
 obtain ⟨a3, c3, a4, c4, rfl, n3, n4⟩ := hy.opened
 have N1 := Lib.hid n1
 have N2 := Lib.hid n2
 have N3 := Lib.hid n3
 have N4 := Lib.hid n4
 have He := Lib.hid (mkQ_add x y)
 have hA := dig_length_mul b64_two x.num.natAbs y.den
 have hB := dig_length_mul b64_two y.num.natAbs x.den
 have hC := dig_length_mul b64_two x.den y.den
 have HA : Hid ((dig b64 (x.num.natAbs * y.den)).length ≤ 137438953472) := by have := hlx.1; have := hly.2; show _ ≤ _; omega
 have HBB : Hid ((dig b64 (y.num.natAbs * x.den)).length ≤ 137438953472) := by have := hlx.2; have := hly.1; show _ ≤ _; omega
 have HC : Hid ((dig b64 (x.den * y.den)).length ≤ 137438953472) := by have := hlx.2; have := hly.2; show _ ≤ _; omega
 have hS := dig_length_add b64_two (x.num.natAbs * y.den) (y.num.natAbs * x.den) 137438953472 HA.out HBB.out
 have HS := Lib.hid hS
 have HP := Lib.hid (Nat.mul_pos x.den_pos y.den_pos)
 have HLX := Lib.hid hlx
 have HLY := Lib.hid hly
 clear hx hy n1 n2 n3 n4 hlx hly hA hB hC hS
 go_enter Tryz.func45, Tryz.ntmps45
 go_wp2_with fail
 generalize hsx : decide (x.num < 0) = sx at *
 generalize hsy : decide (y.num < 0) = sy at *
 clear hsx hsy
 generalize hW0 : ((w.alloc (.cells #[.bool sx, .slice a1 (dig b64 x.num.natAbs).length c1, .slice a2 (dig b64 (dn x.den)).length c2] 54)).alloc (.cells #[.bool sy, .slice a3 (dig b64 y.num.natAbs).length c3, .slice a4 (dig b64 (dn y.den)).length c4] 54)).alloc (.cells #[.bool false, .slice none 0 0, .slice none 0 0] 54) = W at *
 obtain ⟨hal, hB1, hB2, hB3⟩ := boxes3 w _ _ _ _ W hW0.symm
 clear hW0
 have hW : Below w.heap.size w W.drew := hal.drew
 have p0 := blk_cell hB1 0 (.bool sx) rfl
 have p1 := blk_cell hB1 1 (.slice a1 (dig b64 x.num.natAbs).length c1) rfl
 have p2 := blk_cell hB1 2 (.slice a2 (dig b64 (dn x.den)).length c2) rfl
 have r0 := blk_cell hB2 0 (.bool sy) rfl
 have r1 := blk_cell hB2 1 (.slice a3 (dig b64 y.num.natAbs).length c3) rfl
 have r2 := blk_cell hB2 2 (.slice a4 (dig b64 (dn y.den)).length c4) rfl
 have HB : Hid (RB W (w.heap.size + 2)) := ⟨false, none, 0, 0, none, 0, 0, _, hB3⟩
 have hl3 := blk_lt hB3
 clear hB1 hB2 hB3
 go_region_held3 (fun w' => Below w.heap.size w w' ∧ RB w' (w.heap.size + 2) ∧ w'.cell? ⟨w.heap.size, 0, none⟩ = some (.bool sx) ∧ w'.cell? ⟨w.heap.size, 1, none⟩ = some (.slice a1 (dig b64 x.num.natAbs).length c1) ∧ w'.cell? ⟨w.heap.size, 2, none⟩ = some (.slice a2 (dig b64 (dn x.den)).length c2) ∧ w'.cell? ⟨w.heap.size + 1, 0, none⟩ = some (.bool sy) ∧ w'.cell? ⟨w.heap.size + 1, 1, none⟩ = some (.slice a3 (dig b64 y.num.natAbs).length c3) ∧ w'.cell? ⟨w.heap.size + 1, 2, none⟩ = some (.slice a4 (dig b64 (dn y.den)).length c4) ∧ w'.cell? ⟨w.heap.size + 2, 0, none⟩ = some (cellOf w' ⟨w.heap.size + 2, 0, none⟩) ∧ w'.cell? ⟨w.heap.size + 2, 1, none⟩ = some (cellOf w' ⟨w.heap.size + 2, 1, none⟩) ∧ w'.cell? ⟨w.heap.size + 2, 2, none⟩ = some (cellOf w' ⟨w.heap.size + 2, 2, none⟩) ∧ w'.frozen? ⟨w.heap.size + 2, 0, none⟩ = false ∧ w'.frozen? ⟨w.heap.size + 2, 1, none⟩ = false ∧ w'.frozen? ⟨w.heap.size + 2, 2, none⟩ = false)
  (first | exact hold6 hW p0 p1 p2 r0 r1 r2 HB.out | exact hold6_call (Nat.le_refl _) hbB (by assumption) | exact hold6_call (Nat.le_refl _) hbA (by assumption))
  (first
   | (go_at_call_of 65 (Value.slice a2 (dig b64 (dn x.den)).length c2); (with_reducible refine (under_any x.den _ _ (N2.out.below (And.left (by assumption))) x.den_pos).mono ?_); rintro e wA ⟨vA, rfl, hvA, hbA⟩)
   | (go_at_call_of 65 (Value.slice a4 (dig b64 (dn y.den)).length c4); (with_reducible refine (under_any y.den _ _ (N4.out.below (And.left (by assumption))) y.den_pos).mono ?_); rintro e wB ⟨vB, rfl, hvB, hbB⟩))
 rename_i hS1
 have hD := ext_trans hbA hbB
 have HB1 : Hid (RB wB (w.heap.size + 2)) := RB.keep (a := W.drew) HB.out hD hl3
 have hl31 := HB1.out.lt
 have hXA := Lib.hid (hvA.below hbB)
 have hXB := Lib.hid hvB
 obtain ⟨hWB, -, p0', p1', p2', r0', r1', r2', -⟩ := hS1
 clear p0 p1 p2 r0 r1 r2
 replace p0 := p0'
 replace p1 := p1'
 replace p2 := p2'
 replace r0 := r0'
 replace r1 := r1'
 replace r2 := r2'
 clear p0' p1' p2' r0' r1' r2'
 have hWB2 : Below w.heap.size w wB.drew := hWB.drew
 clear hbA hbB hvA hvB hD HB hW hal hl3
 go_wp2_with fail
 go_region_held3 (fun w' => Below w.heap.size w w' ∧ RB w' (w.heap.size + 2) ∧ w'.cell? ⟨w.heap.size, 0, none⟩ = some (.bool sx) ∧ w'.cell? ⟨w.heap.size, 1, none⟩ = some (.slice a1 (dig b64 x.num.natAbs).length c1) ∧ w'.cell? ⟨w.heap.size, 2, none⟩ = some (.slice a2 (dig b64 (dn x.den)).length c2) ∧ w'.cell? ⟨w.heap.size + 1, 0, none⟩ = some (.bool sy) ∧ w'.cell? ⟨w.heap.size + 1, 1, none⟩ = some (.slice a3 (dig b64 y.num.natAbs).length c3) ∧ w'.cell? ⟨w.heap.size + 1, 2, none⟩ = some (.slice a4 (dig b64 (dn y.den)).length c4) ∧ w'.cell? ⟨w.heap.size + 2, 0, none⟩ = some (cellOf w' ⟨w.heap.size + 2, 0, none⟩) ∧ w'.cell? ⟨w.heap.size + 2, 1, none⟩ = some (cellOf w' ⟨w.heap.size + 2, 1, none⟩) ∧ w'.cell? ⟨w.heap.size + 2, 2, none⟩ = some (cellOf w' ⟨w.heap.size + 2, 2, none⟩) ∧ w'.frozen? ⟨w.heap.size + 2, 0, none⟩ = false ∧ w'.frozen? ⟨w.heap.size + 2, 1, none⟩ = false ∧ w'.frozen? ⟨w.heap.size + 2, 2, none⟩ = false)
  (first | exact hold6 hWB2 p0 p1 p2 r0 r1 r2 HB1.out | exact hold6_call (Nat.le_refl _) hbD (by assumption) | exact hold6_call (Nat.le_refl _) hbC (by assumption))
  (first
   | (go_at_call_of 66 (Value.slice a1 (dig b64 x.num.natAbs).length c1); refine (times_any x.num.natAbs y.den _ _ _ (N1.out.below (And.left (by assumption))) (hXB.out.below (Below.refl _ _).drew) (by have := HLX.out.1; have := HLY.out.2; omega)).mono ?_; rintro e wC ⟨vC, rfl, hvC, hbC⟩)
   | (go_at_call_of 66 (Value.slice a3 (dig b64 y.num.natAbs).length c3); refine (times_any y.num.natAbs x.den _ _ _ (N3.out.below (And.left (by assumption))) ((hXA.out.below (Below.refl _ _).drew).below hbC) (by have := HLX.out.2; have := HLY.out.1; omega)).mono ?_; rintro e wD ⟨vD, rfl, hvD, hbD⟩))
 rename_i hS1
 have hD : Below wB.heap.size wB wD := ext_trans (Below.refl _ _).drew (ext_trans hbC hbD)
 have HB2 : Hid (RB wD (w.heap.size + 2)) := RB.keep HB1.out hD hl31
 have hl32 := HB2.out.lt
 have hB3 := Lib.hid (hvC.below hbD)
 have hD3 := Lib.hid hvD
 have hXA2 := Lib.hid (hXA.out.below hD)
 have hXB2 := Lib.hid (hXB.out.below hD)
 obtain ⟨hWD, -, p0', p1', p2', r0', r1', r2', -⟩ := hS1
 clear p0 p1 p2 r0 r1 r2
 replace p0 := p0'
 replace p1 := p1'
 replace p2 := p2'
 replace r0 := r0'
 replace r1 := r1'
 replace r2 := r2'
 clear p0' p1' p2' r0' r1' r2'
 clear hbC hbD hvC hvD hD HB1 hXA hXB hWB hWB2 hl31
 go_wp2_with fail
 refine (times_any x.den y.den _ _ _ hXA2.out hXB2.out (by have := HLX.out.2; have := HLY.out.2; omega)).mono ?_
 rintro e W2 ⟨vC, rfl, hvC, hbF⟩
 have HC3 := Lib.hid hvC
 have HN1 := Lib.hid (hB3.out.below hbF)
 have HN2 := Lib.hid (hD3.out.below hbF)
 have HB3 : Hid (RB W2 (w.heap.size + 2)) := RB.keep HB2.out hbF hl32
 have e6 := hold6_call (Nat.le_refl _) hbF (hold6 hWD p0 p1 p2 r0 r1 r2 HB2.out)
 obtain ⟨hW2, -, p0', p1', p2', r0', r1', r2', -⟩ := e6
 clear p0 p1 p2 r0 r1 r2 hbF HB2 hB3 hD3 hXA2 hXB2 hvC hWD hl32
 replace p0 := p0'
 replace p1 := p1'
 replace p2 := p2'
 replace r0 := r0'
 replace r1 := r1'
 replace r2 := r2'
 clear p0' p1' p2' r0' r1' r2'
 have HB2 := HB3
 have hl32 := HB2.out.lt
 clear HB3
 generalize x.num.natAbs * y.den = A at *
 generalize y.num.natAbs * x.den = B at *
 generalize x.den * y.den = C at *
 by_cases hs : (sx == sy) = true
 ·
  have Hs := Lib.hid hs
  go_wp2_with fail
  have hWe : Below w.heap.size w W2.drew := hW2.drew
  go_region_held3 (fun w' => Below w.heap.size w w' ∧ RB w' (w.heap.size + 2) ∧ w'.cell? ⟨w.heap.size, 0, none⟩ = some (.bool sx) ∧ w'.cell? ⟨w.heap.size, 1, none⟩ = some (.slice a1 (dig b64 x.num.natAbs).length c1) ∧ w'.cell? ⟨w.heap.size, 2, none⟩ = some (.slice a2 (dig b64 (dn x.den)).length c2) ∧ w'.cell? ⟨w.heap.size + 1, 0, none⟩ = some (.bool sy) ∧ w'.cell? ⟨w.heap.size + 1, 1, none⟩ = some (.slice a3 (dig b64 y.num.natAbs).length c3) ∧ w'.cell? ⟨w.heap.size + 1, 2, none⟩ = some (.slice a4 (dig b64 (dn y.den)).length c4) ∧ w'.cell? ⟨w.heap.size + 2, 0, none⟩ = some (cellOf w' ⟨w.heap.size + 2, 0, none⟩) ∧ w'.cell? ⟨w.heap.size + 2, 1, none⟩ = some (cellOf w' ⟨w.heap.size + 2, 1, none⟩) ∧ w'.cell? ⟨w.heap.size + 2, 2, none⟩ = some (cellOf w' ⟨w.heap.size + 2, 2, none⟩) ∧ w'.frozen? ⟨w.heap.size + 2, 0, none⟩ = false ∧ w'.frozen? ⟨w.heap.size + 2, 1, none⟩ = false ∧ w'.frozen? ⟨w.heap.size + 2, 2, none⟩ = false)
   (first | exact hold6 hWe p0 p1 p2 r0 r1 r2 HB2.out | exact hold6_call (Nat.le_refl _) hbE (by assumption) | exact hold6_call (Nat.le_refl _) hbD (by assumption) | exact hold6_store _ _ _ _ _ _ _ (by omega) (by omega) (by omega) (by assumption) _ rfl)
   (first
    | (go_at_call 68; (refine (plus_any A B _ _ _ (HN1.out.below (Below.refl _ _).drew) (HN2.out.below (Below.refl _ _).drew) (by have := HA.out; omega) (by have := HBB.out; omega)).mono ?_); rintro e wD' ⟨vE, rfl, hvE, hbD⟩)
    | (go_at_call 67; (refine (reduced_any _ (A + B) C _ _ _ hvE (HC3.out.below (ext_trans (show Below W2.heap.size W2 W2.drew from (Below.refl _ _).drew) hbD)) HP.out (by have := HA.out; have := HBB.out; have := HS.out; omega) (by have := HC.out; omega)).mono ?_); rintro e wE ⟨vF, rfl, hvF, hbE⟩; obtain ⟨a5, c5, a6, c6, rfl, n5, n6⟩ := IsRat.opened hvF))
  have hE := ext_trans hbD hbE
  have hRB := RB.keep (a := W2.drew) HB2.out hE hl32
  obtain ⟨g0, g1, g2, f0', f1', f2'⟩ := hRB.cell
  have hx := hWe.trans (hE.mono hWe.size)
  have hBl := hRB.lt
  have He' := He.out sx (A + B) (by have e : sx = sy := (by simpa using Hs.out); rw [← e]; exact sg_add sx A B)
  generalize mkQ sx (A + B) C = q at *
  subst He'
  go_wp2_with fail
  refine bodyPost_ret (v := .agg #[.bool (decide ((x + y).num < 0)), .slice a5 (dig b64 (x + y).num.natAbs).length _, .slice a6 (dig b64 (dn (x + y).den)).length _]) (by simp [results, Tryz.results45, go_sem, g0, g1, g2]; first | done | exact ⟨rfl, rfl⟩ | rfl) rfl ⟨_, rfl, ?_, below_store3 hx (by omega)⟩
  exact IsRat.stored hRB n5 n6 rfl rfl
 ·
  have hs' : (sx == sy) = false := by simpa using hs
  have Hs := Lib.hid hs'
  clear hs
  go_wp2_with fail
  refine (cmp_any A B _ _ W2 HN1.out HN2.out).mono ?_
  rintro e w' ⟨rfl, nq, rfl⟩
  have hWn : Below w.heap.size w (W2.drewN nq) := below_dn hW2 nq
  have HC4 := Lib.hid (HC3.out.below (below_dn (Below.refl W2.heap.size W2) nq))
  have HN3 := Lib.hid (HN1.out.below (below_dn (Below.refl W2.heap.size W2) nq))
  have HN4 := Lib.hid (HN2.out.below (below_dn (Below.refl W2.heap.size W2) nq))
  have HB4 : Hid (RB (W2.drewN nq) (w.heap.size + 2)) := HB2.out
  have hl34 := HB4.out.lt
  clear HB2 HN1 HN2 HC3 hW2 hl32
  have q0 : (W2.drewN nq).cell? ⟨w.heap.size, 0, none⟩ = _ := p0
  have q1 : (W2.drewN nq).cell? ⟨w.heap.size, 1, none⟩ = _ := p1
  have q2 : (W2.drewN nq).cell? ⟨w.heap.size, 2, none⟩ = _ := p2
  have q3 : (W2.drewN nq).cell? ⟨w.heap.size + 1, 0, none⟩ = _ := r0
  have q4 : (W2.drewN nq).cell? ⟨w.heap.size + 1, 1, none⟩ = _ := r1
  have q5 : (W2.drewN nq).cell? ⟨w.heap.size + 1, 2, none⟩ = _ := r2
  clear p0 p1 p2 r0 r1 r2
  have p0 := q0
  have p1 := q1
  have p2 := q2
  have r0 := q3
  have r1 := q4
  have r2 := q5
  clear q0 q1 q2 q3 q4 q5
  generalize W2.drewN nq = W3 at *
  have HC3 := HC4
  have HN1 := HN3
  have HN2 := HN4
  have HB2 := HB4
  have hl32 := hl34
  have hW2 := hWn
  clear HC4 HN3 HN4 HB4 hl34 hWn
  have hWW : W3 = W3 := rfl
  clear hWW
  by_cases hge : B ≤ A
  ·
   have hc := cmpN_ge hge
   generalize cmpN A B = c at *
   have Hge := Lib.hid hge
   clear hge
   go_wp2_with fail
   have hWe : Below w.heap.size w W3.drew := hW2.drew
   go_region_held3 (fun w' => Below w.heap.size w w' ∧ RB w' (w.heap.size + 2) ∧ w'.cell? ⟨w.heap.size, 0, none⟩ = some (.bool sx) ∧ w'.cell? ⟨w.heap.size, 1, none⟩ = some (.slice a1 (dig b64 x.num.natAbs).length c1) ∧ w'.cell? ⟨w.heap.size, 2, none⟩ = some (.slice a2 (dig b64 (dn x.den)).length c2) ∧ w'.cell? ⟨w.heap.size + 1, 0, none⟩ = some (.bool sy) ∧ w'.cell? ⟨w.heap.size + 1, 1, none⟩ = some (.slice a3 (dig b64 y.num.natAbs).length c3) ∧ w'.cell? ⟨w.heap.size + 1, 2, none⟩ = some (.slice a4 (dig b64 (dn y.den)).length c4) ∧ w'.cell? ⟨w.heap.size + 2, 0, none⟩ = some (cellOf w' ⟨w.heap.size + 2, 0, none⟩) ∧ w'.cell? ⟨w.heap.size + 2, 1, none⟩ = some (cellOf w' ⟨w.heap.size + 2, 1, none⟩) ∧ w'.cell? ⟨w.heap.size + 2, 2, none⟩ = some (cellOf w' ⟨w.heap.size + 2, 2, none⟩) ∧ w'.frozen? ⟨w.heap.size + 2, 0, none⟩ = false ∧ w'.frozen? ⟨w.heap.size + 2, 1, none⟩ = false ∧ w'.frozen? ⟨w.heap.size + 2, 2, none⟩ = false)
    (first | exact hold6 hWe p0 p1 p2 r0 r1 r2 HB2.out | exact hold6_call (Nat.le_refl _) hbE (by assumption) | exact hold6_call (Nat.le_refl _) hbD (by assumption) | exact hold6_store _ _ _ _ _ _ _ (by omega) (by omega) (by omega) (by assumption) _ rfl)
    (first
     | (go_at_call 70; (refine (minus_any A B _ _ _ (HN1.out.below (Below.refl _ _).drew) (HN2.out.below (Below.refl _ _).drew) Hge.out (by have := HA.out; omega)).mono ?_); rintro e wD' ⟨vE, rfl, hvE, hbD⟩)
     | (go_at_call 67; (refine (reduced_any _ (A - B) C _ _ _ hvE (HC3.out.below (ext_trans (show Below W3.heap.size W3 W3.drew from (Below.refl _ _).drew) hbD)) HP.out (by have := HA.out; exact Nat.le_trans (dig_length_mono b64_two (Nat.sub_le _ _)) (by omega)) (by have := HC.out; omega)).mono ?_); rintro e wE ⟨vF, rfl, hvF, hbE⟩; obtain ⟨a5, c5, a6, c6, rfl, n5, n6⟩ := IsRat.opened hvF))
   have hE := ext_trans hbD hbE
   have hRB := RB.keep (a := W3.drew) HB2.out hE hl32
   obtain ⟨g0, g1, g2, f0', f1', f2'⟩ := hRB.cell
   have hx := hWe.trans (hE.mono hWe.size)
   have hBl := hRB.lt
   have He' := He.out sx (A - B) (sg_sub Hs.out Hge.out)
   generalize mkQ sx (A - B) C = q at *
   subst He'
   go_wp2_with fail
   refine bodyPost_ret (v := .agg #[.bool (decide ((x + y).num < 0)), .slice a5 (dig b64 (x + y).num.natAbs).length _, .slice a6 (dig b64 (dn (x + y).den)).length _]) (by simp [results, Tryz.results45, go_sem, g0, g1, g2]; first | done | exact ⟨rfl, rfl⟩ | rfl) rfl ⟨_, rfl, ?_, below_store3 hx (by omega)⟩
   exact IsRat.stored hRB n5 n6 rfl rfl
  ·
   have hc := cmpN_nge hge
   generalize cmpN A B = c at *
   have Hge : Hid (A ≤ B) := Nat.le_of_lt (Nat.lt_of_not_le hge)
   clear hge
   go_wp2_with fail
   have hWe : Below w.heap.size w W3.drew := hW2.drew
   go_region_held3 (fun w' => Below w.heap.size w w' ∧ RB w' (w.heap.size + 2) ∧ w'.cell? ⟨w.heap.size, 0, none⟩ = some (.bool sx) ∧ w'.cell? ⟨w.heap.size, 1, none⟩ = some (.slice a1 (dig b64 x.num.natAbs).length c1) ∧ w'.cell? ⟨w.heap.size, 2, none⟩ = some (.slice a2 (dig b64 (dn x.den)).length c2) ∧ w'.cell? ⟨w.heap.size + 1, 0, none⟩ = some (.bool sy) ∧ w'.cell? ⟨w.heap.size + 1, 1, none⟩ = some (.slice a3 (dig b64 y.num.natAbs).length c3) ∧ w'.cell? ⟨w.heap.size + 1, 2, none⟩ = some (.slice a4 (dig b64 (dn y.den)).length c4) ∧ w'.cell? ⟨w.heap.size + 2, 0, none⟩ = some (cellOf w' ⟨w.heap.size + 2, 0, none⟩) ∧ w'.cell? ⟨w.heap.size + 2, 1, none⟩ = some (cellOf w' ⟨w.heap.size + 2, 1, none⟩) ∧ w'.cell? ⟨w.heap.size + 2, 2, none⟩ = some (cellOf w' ⟨w.heap.size + 2, 2, none⟩) ∧ w'.frozen? ⟨w.heap.size + 2, 0, none⟩ = false ∧ w'.frozen? ⟨w.heap.size + 2, 1, none⟩ = false ∧ w'.frozen? ⟨w.heap.size + 2, 2, none⟩ = false)
    (first | exact hold6 hWe p0 p1 p2 r0 r1 r2 HB2.out | exact hold6_call (Nat.le_refl _) hbE (by assumption) | exact hold6_call (Nat.le_refl _) hbD (by assumption) | exact hold6_store _ _ _ _ _ _ _ (by omega) (by omega) (by omega) (by assumption) _ rfl)
    (first
     | (go_at_call 70; (refine (minus_any B A _ _ _ (HN2.out.below (Below.refl _ _).drew) (HN1.out.below (Below.refl _ _).drew) Hge.out (by have := HBB.out; omega)).mono ?_); rintro e wD' ⟨vE, rfl, hvE, hbD⟩)
     | (go_at_call 67; (refine (reduced_any _ (B - A) C _ _ _ hvE (HC3.out.below (ext_trans (show Below W3.heap.size W3 W3.drew from (Below.refl _ _).drew) hbD)) HP.out (by have := HBB.out; exact Nat.le_trans (dig_length_mono b64_two (Nat.sub_le _ _)) (by omega)) (by have := HC.out; omega)).mono ?_); rintro e wE ⟨vF, rfl, hvF, hbE⟩; obtain ⟨a5, c5, a6, c6, rfl, n5, n6⟩ := IsRat.opened hvF))
   have hE := ext_trans hbD hbE
   have hRB := RB.keep (a := W3.drew) HB2.out hE hl32
   obtain ⟨g0, g1, g2, f0', f1', f2'⟩ := hRB.cell
   have hx := hWe.trans (hE.mono hWe.size)
   have hBl := hRB.lt
   have He' := He.out sy (B - A) (by rw [Int.add_comm]; exact sg_sub (by have := Hs.out; cases sx <;> cases sy <;> simp_all) Hge.out)
   generalize mkQ sy (B - A) C = q at *
   subst He'
   go_wp2_with fail
   refine bodyPost_ret (v := .agg #[.bool (decide ((x + y).num < 0)), .slice a5 (dig b64 (x + y).num.natAbs).length _, .slice a6 (dig b64 (dn (x + y).den)).length _]) (by simp [results, Tryz.results45, go_sem, g0, g1, g2]; first | done | exact ⟨rfl, rfl⟩ | rfl) rfl ⟨_, rfl, ?_, below_store3 hx (by omega)⟩
   exact IsRat.stored hRB n5 n6 rfl rfl

end Go.Proofs.YtofijjomfhmbjaaGreat

namespace Go.Proofs.YtofijjomfhmbjaaGreat
open Go.RowKit

set_option maxRecDepth 100000 in
set_option maxHeartbeats 4000000 in
theorem mulRat_any (x y : Rat) (vx vy : Value) (w : World) (hx : IsRat w vx x) (hy : IsRat w vy y) (hlx : szR x 68719476736) (hly : szR y 68719476736) : Calls Tryz.prog 46 #[vx, vy] w (RetRat (x * y) w) := by
 obtain ⟨a1, c1, a2, c2, rfl, n1, n2⟩ := hx.opened
 obtain ⟨a3, c3, a4, c4, rfl, n3, n4⟩ := hy.opened
 have N1 := Lib.hid n1
 have N2 := Lib.hid n2
 have N3 := Lib.hid n3
 have N4 := Lib.hid n4
 have He := Lib.hid (mkQ_mul x y)
 have HLX := Lib.hid hlx
 have HLY := Lib.hid hly
 clear hx hy n1 n2 n3 n4 hlx hly
 go_enter Tryz.func46, Tryz.ntmps46
 go_wp2_with fail
 generalize hsx : decide (x.num < 0) = sx at *
 generalize hsy : decide (y.num < 0) = sy at *
 clear hsx hsy
 generalize hW0 : ((w.alloc (.cells #[.bool sx, .slice a1 (dig b64 x.num.natAbs).length c1, .slice a2 (dig b64 (dn x.den)).length c2] 54)).alloc (.cells #[.bool sy, .slice a3 (dig b64 y.num.natAbs).length c3, .slice a4 (dig b64 (dn y.den)).length c4] 54)).alloc (.cells #[.bool false, .slice none 0 0, .slice none 0 0] 54) = W at *
 obtain ⟨hal, hB1, hB2, hB3⟩ := boxes3 w _ _ _ _ W hW0.symm
 clear hW0
 have hW : Below w.heap.size w W.drew := hal.drew
 have p0 := blk_cell hB1 0 (.bool sx) rfl
 have p1 := blk_cell hB1 1 (.slice a1 (dig b64 x.num.natAbs).length c1) rfl
 have p2 := blk_cell hB1 2 (.slice a2 (dig b64 (dn x.den)).length c2) rfl
 have r0 := blk_cell hB2 0 (.bool sy) rfl
 have r1 := blk_cell hB2 1 (.slice a3 (dig b64 y.num.natAbs).length c3) rfl
 have r2 := blk_cell hB2 2 (.slice a4 (dig b64 (dn y.den)).length c4) rfl
 have HB : Hid (RB W (w.heap.size + 2)) := ⟨false, none, 0, 0, none, 0, 0, _, hB3⟩
 have hl3 := blk_lt hB3
 clear hB1 hB2 hB3
 go_region_held3 (fun w' => Below w.heap.size w w' ∧ RB w' (w.heap.size + 2) ∧ w'.cell? ⟨w.heap.size, 0, none⟩ = some (.bool sx) ∧ w'.cell? ⟨w.heap.size, 1, none⟩ = some (.slice a1 (dig b64 x.num.natAbs).length c1) ∧ w'.cell? ⟨w.heap.size, 2, none⟩ = some (.slice a2 (dig b64 (dn x.den)).length c2) ∧ w'.cell? ⟨w.heap.size + 1, 0, none⟩ = some (.bool sy) ∧ w'.cell? ⟨w.heap.size + 1, 1, none⟩ = some (.slice a3 (dig b64 y.num.natAbs).length c3) ∧ w'.cell? ⟨w.heap.size + 1, 2, none⟩ = some (.slice a4 (dig b64 (dn y.den)).length c4) ∧ w'.cell? ⟨w.heap.size + 2, 0, none⟩ = some (cellOf w' ⟨w.heap.size + 2, 0, none⟩) ∧ w'.cell? ⟨w.heap.size + 2, 1, none⟩ = some (cellOf w' ⟨w.heap.size + 2, 1, none⟩) ∧ w'.cell? ⟨w.heap.size + 2, 2, none⟩ = some (cellOf w' ⟨w.heap.size + 2, 2, none⟩) ∧ w'.frozen? ⟨w.heap.size + 2, 0, none⟩ = false ∧ w'.frozen? ⟨w.heap.size + 2, 1, none⟩ = false ∧ w'.frozen? ⟨w.heap.size + 2, 2, none⟩ = false)
  (first | exact hold6 hW p0 p1 p2 r0 r1 r2 HB.out | exact hold6_call (Nat.le_refl _) hbE (by assumption) | exact hold6_call (Nat.le_refl _) hbD (by assumption) | exact hold6_call (Nat.le_refl _) hbC (by assumption) | exact hold6_call (Nat.le_refl _) hbB (by assumption) | exact hold6_call (Nat.le_refl _) hbA (by assumption) | exact hold6_store _ _ _ _ _ _ _ (by omega) (by omega) (by omega) (by assumption) _ rfl)
  (first
   | (go_at_call_of 66 (Value.slice a1 (dig b64 x.num.natAbs).length c1); refine (times_any x.num.natAbs y.num.natAbs _ _ _ (N1.out.below (And.left (by assumption))) (N3.out.below (And.left (by assumption))) (by have := HLX.out.1; have := HLY.out.1; omega)).mono ?_; rintro e wA ⟨vA, rfl, hvA, hbA⟩)
   | (go_at_call_of 65 (Value.slice a2 (dig b64 (dn x.den)).length c2); (with_reducible refine (under_any x.den _ _ (N2.out.below (And.left (by assumption))) x.den_pos).mono ?_); rintro e wB ⟨vB, rfl, hvB, hbB⟩)
   | (go_at_call_of 65 (Value.slice a4 (dig b64 (dn y.den)).length c4); (with_reducible refine (under_any y.den _ _ (N4.out.below (And.left (by assumption))) y.den_pos).mono ?_); rintro e wC ⟨vC, rfl, hvC, hbC⟩)
   | (go_at_call 66; refine (times_any x.den y.den _ _ _ (hvB.below hbC) hvC (by have := HLX.out.2; have := HLY.out.2; omega)).mono ?_; rintro e wD ⟨vD, rfl, hvD, hbD⟩)
   | (go_at_call 67; refine (reduced_any _ (x.num.natAbs * y.num.natAbs) (x.den * y.den) _ _ _ (hvA.below (ext_trans hbB (ext_trans hbC hbD))) hvD (Nat.mul_pos x.den_pos y.den_pos) (by have := dig_length_mul b64_two x.num.natAbs y.num.natAbs; have := HLX.out.1; have := HLY.out.1; omega) (by have := dig_length_mul b64_two x.den y.den; have := HLX.out.2; have := HLY.out.2; omega)).mono ?_; rintro e wE ⟨vE, rfl, hvE, hbE⟩; obtain ⟨a5, c5, a6, c6, rfl, n5, n6⟩ := IsRat.opened hvE))
 have hE := ext_trans (ext_trans (ext_trans (ext_trans hbA hbB) hbC) hbD) hbE
 have hRB := RB.keep (a := W.drew) HB.out hE hl3
 obtain ⟨g0, g1, g2, f0', f1', f2'⟩ := hRB.cell
 have hx := hW.trans (hE.mono hW.size)
 have hBl := hRB.lt
 have He' := He.out
 generalize mkQ (!sx == sy) (x.num.natAbs * y.num.natAbs) (x.den * y.den) = q at *
 subst He'
 go_wp2_with fail
 refine bodyPost_ret (v := .agg #[.bool (decide ((x * y).num < 0)), .slice a5 (dig b64 (x * y).num.natAbs).length _, .slice a6 (dig b64 (dn (x * y).den)).length _]) (by simp [results, Tryz.results46, go_sem, g0, g1, g2]; first | done | exact ⟨rfl, rfl⟩ | rfl) rfl ⟨_, rfl, ?_, below_store3 hx (by omega)⟩
 exact IsRat.stored hRB n5 n6 rfl rfl

theorem mkQ_div (x y : Rat) (hy : y.num.natAbs ≠ 0) : mkQ (!(decide (x.num < 0) == decide (y.num < 0))) (x.num.natAbs * y.den) (x.den * y.num.natAbs) = x / y := by
 have hxd := x.den_pos
 have hyd := y.den_pos
 have h := new_plain (x.num * y.den) (x.den * y.num) (by
  refine Int.mul_ne_zero ?_ ?_ <;> omega)
 have e1 : (x.num * (y.den : Int)).natAbs = x.num.natAbs * y.den := by rw [Int.natAbs_mul]; rfl
 have e2 : ((x.den : Int) * y.num).natAbs = x.den * y.num.natAbs := by rw [Int.natAbs_mul]; rfl
 have e3 : decide (x.num * (y.den : Int) < 0) = decide (x.num < 0) := by
  rw [decide_eq_decide]
  constructor
  ·
   intro h
   rcases Int.lt_or_le x.num 0 with h1 | h1
   ·
    exact h1
   ·
    have := Int.mul_nonneg h1 (show (0:Int) ≤ y.den by omega); omega
  ·
   intro h; exact Int.mul_neg_of_neg_of_pos h (by omega)
 have e4 : decide ((x.den : Int) * y.num < 0) = decide (y.num < 0) := by
  rw [decide_eq_decide]
  constructor
  ·
   intro h
   rcases Int.lt_or_le y.num 0 with h1 | h1
   ·
    exact h1
   ·
    have := Int.mul_nonneg (show (0:Int) ≤ x.den by omega) h1; omega
  ·
   intro h; exact Int.mul_neg_of_pos_of_neg (by omega) h
 rw [e1, e2, e3, e4] at h
 rw [show (!(decide (x.num < 0) == decide (y.num < 0))) = (decide (x.num < 0) != decide (y.num < 0)) from rfl, h]
 have hx : x = Rat.divInt x.num x.den := (Rat.num_divInt_den x).symm
 have hy2 : y = Rat.divInt y.num y.den := (Rat.num_divInt_den y).symm
 conv => rhs; rw [hx, hy2]
 rw [← Rat.divInt_eq_div, Rat.div_def, Rat.inv_divInt, Rat.divInt_mul_divInt]

set_option maxRecDepth 100000 in
set_option maxHeartbeats 4000000 in
theorem byRat_any (x y : Rat) (vx vy : Value) (w : World) (hx : IsRat w vx x) (hy : IsRat w vy y) (hlx : szR x 68719476736) (hly : szR y 68719476736) (hy0 : y.num.natAbs ≠ 0) : Calls Tryz.prog 97 #[vx, vy] w (RetRat (x / y) w) := by
 obtain ⟨a1, c1, a2, c2, rfl, n1, n2⟩ := hx.opened
 obtain ⟨a3, c3, a4, c4, rfl, n3, n4⟩ := hy.opened
 have N1 := Lib.hid n1
 have N2 := Lib.hid n2
 have N3 := Lib.hid n3
 have N4 := Lib.hid n4
 have He := Lib.hid (mkQ_div x y hy0)
 have HY0 : Hid (0 < y.num.natAbs) := Nat.pos_of_ne_zero hy0
 clear hy0
 have HLX := Lib.hid hlx
 have HLY := Lib.hid hly
 clear hx hy n1 n2 n3 n4 hlx hly
 go_enter Tryz.func97, Tryz.ntmps97
 go_wp2_with fail
 generalize hsx : decide (x.num < 0) = sx at *
 generalize hsy : decide (y.num < 0) = sy at *
 clear hsx hsy
 generalize hW0 : ((w.alloc (.cells #[.bool sx, .slice a1 (dig b64 x.num.natAbs).length c1, .slice a2 (dig b64 (dn x.den)).length c2] 54)).alloc (.cells #[.bool sy, .slice a3 (dig b64 y.num.natAbs).length c3, .slice a4 (dig b64 (dn y.den)).length c4] 54)).alloc (.cells #[.bool false, .slice none 0 0, .slice none 0 0] 54) = W at *
 obtain ⟨hal, hB1, hB2, hB3⟩ := boxes3 w _ _ _ _ W hW0.symm
 clear hW0
 have hW : Below w.heap.size w W.drew := hal.drew
 have p0 := blk_cell hB1 0 (.bool sx) rfl
 have p1 := blk_cell hB1 1 (.slice a1 (dig b64 x.num.natAbs).length c1) rfl
 have p2 := blk_cell hB1 2 (.slice a2 (dig b64 (dn x.den)).length c2) rfl
 have r0 := blk_cell hB2 0 (.bool sy) rfl
 have r1 := blk_cell hB2 1 (.slice a3 (dig b64 y.num.natAbs).length c3) rfl
 have r2 := blk_cell hB2 2 (.slice a4 (dig b64 (dn y.den)).length c4) rfl
 have HB : Hid (RB W (w.heap.size + 2)) := ⟨false, none, 0, 0, none, 0, 0, _, hB3⟩
 have hl3 := blk_lt hB3
 clear hB1 hB2 hB3
 go_region_held3 (fun w' => Below w.heap.size w w' ∧ RB w' (w.heap.size + 2) ∧ w'.cell? ⟨w.heap.size, 0, none⟩ = some (.bool sx) ∧ w'.cell? ⟨w.heap.size, 1, none⟩ = some (.slice a1 (dig b64 x.num.natAbs).length c1) ∧ w'.cell? ⟨w.heap.size, 2, none⟩ = some (.slice a2 (dig b64 (dn x.den)).length c2) ∧ w'.cell? ⟨w.heap.size + 1, 0, none⟩ = some (.bool sy) ∧ w'.cell? ⟨w.heap.size + 1, 1, none⟩ = some (.slice a3 (dig b64 y.num.natAbs).length c3) ∧ w'.cell? ⟨w.heap.size + 1, 2, none⟩ = some (.slice a4 (dig b64 (dn y.den)).length c4) ∧ w'.cell? ⟨w.heap.size + 2, 0, none⟩ = some (cellOf w' ⟨w.heap.size + 2, 0, none⟩) ∧ w'.cell? ⟨w.heap.size + 2, 1, none⟩ = some (cellOf w' ⟨w.heap.size + 2, 1, none⟩) ∧ w'.cell? ⟨w.heap.size + 2, 2, none⟩ = some (cellOf w' ⟨w.heap.size + 2, 2, none⟩) ∧ w'.frozen? ⟨w.heap.size + 2, 0, none⟩ = false ∧ w'.frozen? ⟨w.heap.size + 2, 1, none⟩ = false ∧ w'.frozen? ⟨w.heap.size + 2, 2, none⟩ = false)
  (first | exact hold6 hW p0 p1 p2 r0 r1 r2 HB.out | exact hold6_call (Nat.le_refl _) hbE (by assumption) | exact hold6_call (Nat.le_refl _) hbD (by assumption) | exact hold6_call (Nat.le_refl _) hbC (by assumption) | exact hold6_call (Nat.le_refl _) hbB (by assumption) | exact hold6_call (Nat.le_refl _) hbA (by assumption) | exact hold6_store _ _ _ _ _ _ _ (by omega) (by omega) (by omega) (by assumption) _ rfl)
  (first
   | (go_at_call_of 65 (Value.slice a4 (dig b64 (dn y.den)).length c4); (with_reducible refine (under_any y.den _ _ (N4.out.below (And.left (by assumption))) y.den_pos).mono ?_); rintro e wA ⟨vA, rfl, hvA, hbA⟩)
   | (go_at_call_of 66 (Value.slice a1 (dig b64 x.num.natAbs).length c1); refine (times_any x.num.natAbs y.den _ _ _ (N1.out.below (And.left (by assumption))) hvA (by have := HLX.out.1; have := HLY.out.2; omega)).mono ?_; rintro e wB ⟨vB, rfl, hvB, hbB⟩)
   | (go_at_call_of 65 (Value.slice a2 (dig b64 (dn x.den)).length c2); (with_reducible refine (under_any x.den _ _ (N2.out.below (And.left (by assumption))) x.den_pos).mono ?_); rintro e wC ⟨vC, rfl, hvC, hbC⟩)
   | (go_at_call 66; refine (times_any x.den y.num.natAbs _ _ _ hvC (N3.out.below (And.left (by assumption))) (by have := HLX.out.2; have := HLY.out.1; omega)).mono ?_; rintro e wD ⟨vD, rfl, hvD, hbD⟩)
   | (go_at_call 67; refine (reduced_any _ (x.num.natAbs * y.den) (x.den * y.num.natAbs) _ _ _ (hvB.below (ext_trans hbC hbD)) hvD (Nat.mul_pos x.den_pos HY0.out) (by have := dig_length_mul b64_two x.num.natAbs y.den; have := HLX.out.1; have := HLY.out.2; omega) (by have := dig_length_mul b64_two x.den y.num.natAbs; have := HLX.out.2; have := HLY.out.1; omega)).mono ?_; rintro e wE ⟨vE, rfl, hvE, hbE⟩; obtain ⟨a5, c5, a6, c6, rfl, n5, n6⟩ := IsRat.opened hvE))
 have hE := ext_trans (ext_trans (ext_trans (ext_trans hbA hbB) hbC) hbD) hbE
 have hRB := RB.keep (a := W.drew) HB.out hE hl3
 obtain ⟨g0, g1, g2, f0', f1', f2'⟩ := hRB.cell
 have hx := hW.trans (hE.mono hW.size)
 have hBl := hRB.lt
 have He' := He.out
 generalize mkQ (!sx == sy) (x.num.natAbs * y.den) (x.den * y.num.natAbs) = q at *
 subst He'
 go_wp2_with fail
 refine bodyPost_ret (v := .agg #[.bool (decide ((x / y).num < 0)), .slice a5 (dig b64 (x / y).num.natAbs).length _, .slice a6 (dig b64 (dn (x / y).den)).length _]) (by simp [results, Tryz.results97, go_sem, g0, g1, g2]; first | done | exact ⟨rfl, rfl⟩ | rfl) rfl ⟨_, rfl, ?_, below_store3 hx (by omega)⟩
 exact IsRat.stored hRB n5 n6 rfl rfl


end Go.Proofs.YtofijjomfhmbjaaGreat

namespace Go.Proofs.YtofijjomfhmbjaaGreat
open Go.RowKit

theorem mkQ_szR_sz (s : Bool) (n d k : Nat) (hd : 0 < d) (h1 : (dig b64 n).length ≤ k) (h2 : (dig b64 d).length ≤ k) : szR (mkQ s n d) k := by
 unfold szR
 rw [mkQ_num s n d hd, mkQ_den s n d hd]
 exact ⟨Nat.le_trans (dig_length_mono b64_two (Nat.div_le_self _ _)) h1, Nat.le_trans (dig_length_mono b64_two (Nat.div_le_self _ _)) h2⟩
theorem szR_mul {x y : Rat} {j k : Nat} (hx : szR x j) (hy : szR y k) : szR (x * y) (j + k) := by
 rw [← mkQ_mul]
 have h1 := dig_length_mul b64_two x.num.natAbs y.num.natAbs
 have h2 := dig_length_mul b64_two x.den y.den
 have := hx.1; have := hx.2; have := hy.1; have := hy.2
 exact mkQ_szR_sz _ _ _ _ (Nat.mul_pos x.den_pos y.den_pos) (by omega) (by omega)
theorem szR_neg {x : Rat} {j : Nat} (hx : szR x j) : szR (-x) j := ⟨by rw [natAbs_neg_num]; exact hx.1, hx.2⟩
theorem szR_mono {x : Rat} {j k : Nat} (h : szR x j) (hjk : j ≤ k) : szR x k := ⟨Nat.le_trans h.1 hjk, Nat.le_trans h.2 hjk⟩
theorem szR_add {x y : Rat} {j k : Nat} (hx : szR x j) (hy : szR y k) : szR (x + y) (j + k + 1) := by
 have hz : ∃ (s : Bool) (n : Nat), sg s n = sg (decide (x.num < 0)) (x.num.natAbs * y.den) + sg (decide (y.num < 0)) (y.num.natAbs * x.den) ∧ n ≤ x.num.natAbs * y.den + y.num.natAbs * x.den := by
  generalize hz : sg (decide (x.num < 0)) (x.num.natAbs * y.den) + sg (decide (y.num < 0)) (y.num.natAbs * x.den) = z
  refine ⟨decide (z < 0), z.natAbs, ?_, ?_⟩
  ·
   unfold sg
   by_cases h : z < 0
   ·
    simp [h]; omega
   ·
    simp [h]; omega
  ·
   have e1 := sg_natAbs (decide (x.num < 0)) (x.num.natAbs * y.den)
   have e2 := sg_natAbs (decide (y.num < 0)) (y.num.natAbs * x.den)
   omega
 obtain ⟨s, n, h, hn⟩ := hz
 rw [← mkQ_add x y s n h]
 have h1 := dig_length_mul b64_two x.num.natAbs y.den
 have h2 := dig_length_mul b64_two y.num.natAbs x.den
 have h3 := dig_length_mul b64_two x.den y.den
 have := hx.1; have := hx.2; have := hy.1; have := hy.2
 have h4 := dig_length_add b64_two (x.num.natAbs * y.den) (y.num.natAbs * x.den) (j + k) (by omega) (by omega)
 exact mkQ_szR_sz _ _ _ _ (Nat.mul_pos x.den_pos y.den_pos) (Nat.le_trans (dig_length_mono b64_two hn) h4) (by omega)
theorem szR_sub {x y : Rat} {j k : Nat} (hx : szR x j) (hy : szR y k) : szR (x - y) (j + k + 1) := by
 rw [Rat.sub_eq_add_neg]
 exact szR_add hx (szR_neg hy)
theorem szR_int {n : Int} {k : Nat} (h : n.natAbs < b64 ^ k) (hk : 1 ≤ k) : szR (n : Rat) k := by
 refine ⟨dig_length_le b64_two k _ (by simpa using h), Nat.le_trans (dig_length_le b64_two 1 _ ?_) hk⟩
 simp
 unfold b64
 omega

end Go.Proofs.YtofijjomfhmbjaaGreat

namespace Go.Proofs.YtofijjomfhmbjaaGreat

abbrev Pt := Int × Int
def crossI (a b c : Pt) : Int := (b.1 - a.1) * (c.2 - a.2) - (b.2 - a.2) * (c.1 - a.1)
def turnI (d p : Pt) : Pt := (d.1 * p.1 + d.2 * p.2, d.1 * p.2 - d.2 * p.1)
def inL (n lo hi : Int) : Bool := decide (lo ≤ n) && decide (n ≤ hi)
def far : Int := 4398046511104
def ptOk (p : Pt) : Bool := inL p.1 (-far) far && inL p.2 (-far) far
def ptAt (l : List Pt) (i : Nat) : Pt := l.getD i (0, 0)
def ptsOk (l : List Pt) : Bool := l.all ptOk
theorem ptsOk_take (l : List Pt) (i : Nat) (hi : i < l.length) : ptsOk (l.take (i + 1)) = (ptsOk (l.take i) && ptOk (ptAt l i)) := by
 unfold ptsOk ptAt
 rw [List.take_add_one, List.all_append]
 simp [hi]
theorem ptsOk_get {l : List Pt} (h : ptsOk l = true) (i : Nat) (hi : i < l.length) : ptOk (ptAt l i) = true := by
 unfold ptsOk at h
 rw [List.all_eq_true] at h
 unfold ptAt
 have e : l.getD i (0, 0) = l[i] := by simp [hi]
 rw [e]
 exact h _ (List.getElem_mem hi)
theorem ptOk_range {p : Pt} (h : ptOk p = true) : (-far ≤ p.1 ∧ p.1 ≤ far) ∧ -far ≤ p.2 ∧ p.2 ≤ far := by
 simpa [ptOk, inL] using h
theorem mul_absI {a b A B : Int} (ha : -A ≤ a ∧ a ≤ A) (hb : -B ≤ b ∧ b ≤ B) : -(A * B) ≤ a * b ∧ a * b ≤ A * B := by
 have hA : 0 ≤ A := by omega
 have h1 : (a * b).natAbs ≤ (A * B).natAbs := by
  rw [Int.natAbs_mul, Int.natAbs_mul]
  exact Nat.mul_le_mul (by omega) (by omega)
 have h2 : 0 ≤ A * B := Int.mul_nonneg hA (by omega)
 omega

def Round3 (l : List Pt) : Prop := ∀ k, k < l.length → ∀ j, j < k → ∀ i, i < j → 0 < crossI (ptAt l i) (ptAt l j) (ptAt l k)
open Classical in
noncomputable def outErr (l : List Pt) : Int := if l.length < 3 ∨ 16 < l.length then 4 else if ptsOk l = false then 1 else if Round3 l then 0 else 7

def edgeI (l : List Pt) (i : Nat) : Int := (ptAt l i).1 * (ptAt l ((i + 1) % l.length)).2 - (ptAt l i).2 * (ptAt l ((i + 1) % l.length)).1
def areaTo (l : List Pt) : Nat → Int
 | 0 => 0
 | i + 1 => areaTo l i + edgeI l i
def areaI (l : List Pt) : Int := areaTo l l.length

end Go.Proofs.YtofijjomfhmbjaaGreat

namespace Go.Proofs.YtofijjomfhmbjaaGreat
open Go.RowKit

set_option maxHeartbeats 2000000 in
theorem negRat_any (x : Rat) (vx : Value) (w : World) (hx : IsRat w vx x) : Calls Tryz.prog 133 #[vx] w (RetRat (-x) w) := by
 obtain ⟨a1, c1, a2, c2, rfl, n1, n2⟩ := hx.opened
 have N1 := Lib.hid n1
 have N2 := Lib.hid n2
 have He := Lib.hid (neg_lt_num x)
 clear hx n1 n2
 go_enter Tryz.func133, Tryz.ntmps133
 go_wp2_with fail
 generalize hneg : decide (x.num < 0) = neg at *
 have hal : Below w.heap.size w ((w.alloc (.cells #[.bool neg, .slice a1 (dig b64 x.num.natAbs).length c1, .slice a2 (dig b64 (dn x.den)).length c2] 54)).alloc (.cells #[.bool false, .slice none 0 0, .slice none 0 0] 54)) :=
  ((Below.refl _ _).alloc (Nat.le_refl _) _).alloc (by simp) _
 have hB1 := (blk_keep (blk_new w #[.bool neg, .slice a1 (dig b64 x.num.natAbs).length c1, .slice a2 (dig b64 (dn x.den)).length c2] 54) ((Below.refl _ _).alloc (Nat.le_refl _) (.cells #[.bool false, .slice none 0 0, .slice none 0 0] 54)) (by simp))
 have hB2 := blk_new (w.alloc (.cells #[.bool neg, .slice a1 (dig b64 x.num.natAbs).length c1, .slice a2 (dig b64 (dn x.den)).length c2] 54)) #[.bool false, .slice none 0 0, .slice none 0 0] 54
 rw [World.size_alloc] at hB2
 generalize ((w.alloc (.cells #[.bool neg, .slice a1 (dig b64 x.num.natAbs).length c1, .slice a2 (dig b64 (dn x.den)).length c2] 54)).alloc (.cells #[.bool false, .slice none 0 0, .slice none 0 0] 54)) = W at *
 have p0 := blk_cell hB1 0 (.bool neg) rfl
 have p1 := blk_cell hB1 1 (.slice a1 (dig b64 x.num.natAbs).length c1) rfl
 have p2 := blk_cell hB1 2 (.slice a2 (dig b64 (dn x.den)).length c2) rfl
 have hl1 := blk_lt hB1
 have hl2 := blk_lt hB2
 have e0 := blk_cell hB2 0 (.bool false) rfl
 have e1 := blk_cell hB2 1 (.slice none 0 0) rfl
 have e2 := blk_cell hB2 2 (.slice none 0 0) rfl
 have f0 := blk_frozen hB2 0
 have f1 := blk_frozen hB2 1
 have f2 := blk_frozen hB2 2
 have HB : Hid (RB W (w.heap.size + 1)) := ⟨false, none, 0, 0, none, 0, 0, _, hB2⟩
 clear hB1 hB2
 have hW : Below w.heap.size w W.drew := hal.drew
 cases neg with
 | true =>
  go_region
  go_wp2_with fail
  refine bodyPost_ret (v := .agg #[.bool false, .slice a1 (dig b64 x.num.natAbs).length _, .slice a2 (dig b64 (dn x.den)).length _]) (by simp [results, Tryz.results133, go_sem, e0, e1, e2]; first | done | exact ⟨rfl, rfl⟩ | rfl) rfl ⟨_, rfl, ?_, below_store3 hW (by omega)⟩
  exact IsRat.stored (w := W.drew) HB.out (N1.out.below hW) (N2.out.below hW) He.out (natAbs_neg_num x)
 | false =>
  by_cases h0 : x.num.natAbs = 0
  ·
   have t0 : Hid (decide (x.num.natAbs = 0) = true) := decide_eq_true h0
   clear h0
   go_region_held3 (fun w' => Below w.heap.size w w' ∧ RB w' (w.heap.size + 1) ∧ w'.cell? ⟨w.heap.size, 0, none⟩ = some (.bool false) ∧ w'.cell? ⟨w.heap.size, 1, none⟩ = some (.slice a1 (dig b64 x.num.natAbs).length c1) ∧ w'.cell? ⟨w.heap.size, 2, none⟩ = some (.slice a2 (dig b64 (dn x.den)).length c2) ∧
     w'.cell? ⟨w.heap.size + 1, 0, none⟩ = some (cellOf w' ⟨w.heap.size + 1, 0, none⟩) ∧ w'.cell? ⟨w.heap.size + 1, 1, none⟩ = some (cellOf w' ⟨w.heap.size + 1, 1, none⟩) ∧ w'.cell? ⟨w.heap.size + 1, 2, none⟩ = some (cellOf w' ⟨w.heap.size + 1, 2, none⟩) ∧
     w'.frozen? ⟨w.heap.size + 1, 0, none⟩ = false ∧ w'.frozen? ⟨w.heap.size + 1, 1, none⟩ = false ∧ w'.frozen? ⟨w.heap.size + 1, 2, none⟩ = false)
    (first | exact hold3 hW p0 p1 p2 HB.out | exact hold3_call (Nat.le_refl _) hb' (by assumption) | exact hold3_store _ _ _ _ _ _ _ (Nat.le_succ _) (Nat.ne_of_lt (Nat.lt_succ_self _)) (by assumption) _ rfl)
    (first | (go_at_call 56; refine (zero_any _ _ x.num.natAbs _ _ _ _ _).mono ?_; rw [t0.out]; rintro e w' ⟨rfl, hb'⟩))
   have hRB := RB.keep (a := W.drew) HB.out hb' hl2
   obtain ⟨c0, c1, c2, f0', f1', f2'⟩ := hRB.cell
   have hx := hW.trans (hb'.mono hW.size)
   have hBl := hRB.lt
   go_wp2_with fail
   refine bodyPost_ret (v := .agg #[.bool false, .slice a1 (dig b64 x.num.natAbs).length _, .slice a2 (dig b64 (dn x.den)).length _]) (by simp [results, Tryz.results133, go_sem, c0, c1, c2]; first | done | exact ⟨rfl, rfl⟩ | rfl) rfl ⟨_, rfl, ?_, below_store3 hx (by omega)⟩
   exact IsRat.stored hRB (N1.out.below hx) (N2.out.below hx) (by rw [He.out, t0.out]; rfl) (natAbs_neg_num x)
  ·
   have t0 : Hid (decide (x.num.natAbs = 0) = false) := decide_eq_false h0
   clear h0
   go_region_held3 (fun w' => Below w.heap.size w w' ∧ RB w' (w.heap.size + 1) ∧ w'.cell? ⟨w.heap.size, 0, none⟩ = some (.bool false) ∧ w'.cell? ⟨w.heap.size, 1, none⟩ = some (.slice a1 (dig b64 x.num.natAbs).length c1) ∧ w'.cell? ⟨w.heap.size, 2, none⟩ = some (.slice a2 (dig b64 (dn x.den)).length c2) ∧
     w'.cell? ⟨w.heap.size + 1, 0, none⟩ = some (cellOf w' ⟨w.heap.size + 1, 0, none⟩) ∧ w'.cell? ⟨w.heap.size + 1, 1, none⟩ = some (cellOf w' ⟨w.heap.size + 1, 1, none⟩) ∧ w'.cell? ⟨w.heap.size + 1, 2, none⟩ = some (cellOf w' ⟨w.heap.size + 1, 2, none⟩) ∧
     w'.frozen? ⟨w.heap.size + 1, 0, none⟩ = false ∧ w'.frozen? ⟨w.heap.size + 1, 1, none⟩ = false ∧ w'.frozen? ⟨w.heap.size + 1, 2, none⟩ = false)
    (first | exact hold3 hW p0 p1 p2 HB.out | exact hold3_call (Nat.le_refl _) hb' (by assumption) | exact hold3_store _ _ _ _ _ _ _ (Nat.le_succ _) (Nat.ne_of_lt (Nat.lt_succ_self _)) (by assumption) _ rfl)
    (first | (go_at_call 56; refine (zero_any _ _ x.num.natAbs _ _ _ _ _).mono ?_; rw [t0.out]; rintro e w' ⟨rfl, hb'⟩))
   have hRB := RB.keep (a := W.drew) HB.out hb' hl2
   obtain ⟨c0, c1, c2, f0', f1', f2'⟩ := hRB.cell
   have hx := hW.trans (hb'.mono hW.size)
   have hBl := hRB.lt
   go_wp2_with fail
   refine bodyPost_ret (v := .agg #[.bool true, .slice a1 (dig b64 x.num.natAbs).length _, .slice a2 (dig b64 (dn x.den)).length _]) (by simp [results, Tryz.results133, go_sem, c0, c1, c2]; first | done | exact ⟨rfl, rfl⟩ | rfl) rfl ⟨_, rfl, ?_, below_store3 hx (by omega)⟩
   exact IsRat.stored hRB (N1.out.below hx) (N2.out.below hx) (by rw [He.out, t0.out]; rfl) (natAbs_neg_num x)

set_option maxRecDepth 100000 in
theorem method_neg (b : Bool) (x y : Option Addr) (i j k l : Nat) (w : World) : (method 283 54 (.agg #[.bool b, .slice x i j, .slice y k l]) "Neg").run Tryz.prog w = .ok (133, .agg #[.bool b, .slice x i j, .slice y k l]) w := by kernel_rfl
set_option maxRecDepth 100000 in
theorem method_add (b : Bool) (x y : Option Addr) (i j k l : Nat) (w : World) : (method 283 54 (.agg #[.bool b, .slice x i j, .slice y k l]) "Add").run Tryz.prog w = .ok (45, .agg #[.bool b, .slice x i j, .slice y k l]) w := by kernel_rfl

set_option maxRecDepth 100000 in
set_option maxHeartbeats 4000000 in
theorem lessRat_any (x y : Rat) (vx vy : Value) (w : World) (hx : IsRat w vx x) (hy : IsRat w vy y) (hlx : szR x 68719476736) (hly : szR y 68719476736) : Calls Tryz.prog 71 #[vx, vy] w (RetRat (x - y) w) := by
 have hy0 := hy
 obtain ⟨a1, c1, a2, c2, rfl, n1, n2⟩ := hx.opened
 obtain ⟨a3, c3, a4, c4, rfl, n3, n4⟩ := hy.opened
 have HX := Lib.hid hx
 have HY := Lib.hid hy
 have HLX := Lib.hid hlx
 have hln : szR (-y) 68719476736 := ⟨by rw [natAbs_neg_num]; exact hly.1, hly.2⟩
 have HLY := Lib.hid hln
 have He : Hid (x + -y = x - y) := (Rat.sub_eq_add_neg x y).symm
 clear hx hy n1 n2 n3 n4 hlx hly hln hy0
 have hmn := method_neg
 have hma := method_add
 go_enter Tryz.func71, Tryz.ntmps71
 go_wp2_with fail
 generalize hsx : decide (x.num < 0) = sx at *
 generalize hsy : decide (y.num < 0) = sy at *
 clear hsx hsy
 generalize hW0 : ((w.alloc (.cells #[.bool sx, .slice a1 (dig b64 x.num.natAbs).length c1, .slice a2 (dig b64 (dn x.den)).length c2] 54)).alloc (.cells #[.bool sy, .slice a3 (dig b64 y.num.natAbs).length c3, .slice a4 (dig b64 (dn y.den)).length c4] 54)).alloc (.cells #[.bool false, .slice none 0 0, .slice none 0 0] 54) = W at *
 obtain ⟨hal, hB1, hB2, hB3⟩ := boxes3 w _ _ _ _ W hW0.symm
 clear hW0
 have hW : Below w.heap.size w W.drew := hal.drew
 have p0 := blk_cell hB1 0 (.bool sx) rfl
 have p1 := blk_cell hB1 1 (.slice a1 (dig b64 x.num.natAbs).length c1) rfl
 have p2 := blk_cell hB1 2 (.slice a2 (dig b64 (dn x.den)).length c2) rfl
 have r0 := blk_cell hB2 0 (.bool sy) rfl
 have r1 := blk_cell hB2 1 (.slice a3 (dig b64 y.num.natAbs).length c3) rfl
 have r2 := blk_cell hB2 2 (.slice a4 (dig b64 (dn y.den)).length c4) rfl
 have HB : Hid (RB W (w.heap.size + 2)) := ⟨false, none, 0, 0, none, 0, 0, _, hB3⟩
 have hl3 := blk_lt hB3
 clear hB1 hB2 hB3
 go_region_held3 (fun w' => Below w.heap.size w w' ∧ RB w' (w.heap.size + 2) ∧ w'.cell? ⟨w.heap.size, 0, none⟩ = some (.bool sx) ∧ w'.cell? ⟨w.heap.size, 1, none⟩ = some (.slice a1 (dig b64 x.num.natAbs).length c1) ∧ w'.cell? ⟨w.heap.size, 2, none⟩ = some (.slice a2 (dig b64 (dn x.den)).length c2) ∧ w'.cell? ⟨w.heap.size + 1, 0, none⟩ = some (.bool sy) ∧ w'.cell? ⟨w.heap.size + 1, 1, none⟩ = some (.slice a3 (dig b64 y.num.natAbs).length c3) ∧ w'.cell? ⟨w.heap.size + 1, 2, none⟩ = some (.slice a4 (dig b64 (dn y.den)).length c4) ∧ w'.cell? ⟨w.heap.size + 2, 0, none⟩ = some (cellOf w' ⟨w.heap.size + 2, 0, none⟩) ∧ w'.cell? ⟨w.heap.size + 2, 1, none⟩ = some (cellOf w' ⟨w.heap.size + 2, 1, none⟩) ∧ w'.cell? ⟨w.heap.size + 2, 2, none⟩ = some (cellOf w' ⟨w.heap.size + 2, 2, none⟩) ∧ w'.frozen? ⟨w.heap.size + 2, 0, none⟩ = false ∧ w'.frozen? ⟨w.heap.size + 2, 1, none⟩ = false ∧ w'.frozen? ⟨w.heap.size + 2, 2, none⟩ = false)
  (first | exact hold6 hW p0 p1 p2 r0 r1 r2 HB.out | exact hold6_call (Nat.le_refl _) hbE (by assumption) | exact hold6_call (Nat.le_refl _) hbD (by assumption) | exact hold6_store _ _ _ _ _ _ _ (by omega) (by omega) (by omega) (by assumption) _ rfl)
  (first
   | (go_at_call 133; refine (negRat_any y _ _ (HY.out.below (And.left (by assumption)))).mono ?_; rintro e wD ⟨vD, rfl, hvD, hbD⟩)
   | (go_at_call 45; refine (addRat_any x (-y) _ _ _ (HX.out.below (And.left (by assumption))) hvD HLX.out HLY.out).mono ?_; rw [He.out]; rintro e wE ⟨vE, rfl, hvE, hbE⟩; obtain ⟨a5, c5, a6, c6, rfl, n5, n6⟩ := IsRat.opened hvE))
 have hE := ext_trans hbD hbE
 have hRB := RB.keep (a := W.drew) HB.out hE hl3
 obtain ⟨g0, g1, g2, f0', f1', f2'⟩ := hRB.cell
 have hx := hW.trans (hE.mono hW.size)
 have hBl := hRB.lt
 go_wp2_with fail
 refine bodyPost_ret (v := .agg #[.bool (decide ((x - y).num < 0)), .slice a5 (dig b64 (x - y).num.natAbs).length _, .slice a6 (dig b64 (dn (x - y).den)).length _]) (by simp [results, Tryz.results71, go_sem, g0, g1, g2]; first | done | exact ⟨rfl, rfl⟩ | rfl) rfl ⟨_, rfl, ?_, below_store3 hx (by omega)⟩
 exact IsRat.stored hRB n5 n6 rfl rfl

set_option maxRecDepth 100000 in
set_option maxHeartbeats 2000000 in
theorem subRat_any (x y : Rat) (vx vy : Value) (w : World) (hx : IsRat w vx x) (hy : IsRat w vy y) (hlx : szR x 68719476736) (hly : szR y 68719476736) : Calls Tryz.prog 47 #[vx, vy] w (RetRat (x - y) w) := by
 obtain ⟨a1, c1, a2, c2, rfl, n1, n2⟩ := hx.opened
 obtain ⟨a3, c3, a4, c4, rfl, n3, n4⟩ := hy.opened
 have HX := Lib.hid hx
 have HY := Lib.hid hy
 have HLX := Lib.hid hlx
 have HLY := Lib.hid hly
 clear hx hy n1 n2 n3 n4 hlx hly
 go_enter Tryz.func47, Tryz.ntmps47
 go_wp2_with fail
 generalize hW0 : ((w.alloc (.cells #[.bool (decide (x.num < 0)), .slice a1 (dig b64 x.num.natAbs).length c1, .slice a2 (dig b64 (dn x.den)).length c2] 54)).alloc (.cells #[.bool (decide (y.num < 0)), .slice a3 (dig b64 y.num.natAbs).length c3, .slice a4 (dig b64 (dn y.den)).length c4] 54)).alloc (.cells #[.bool false, .slice none 0 0, .slice none 0 0] 54) = W at *
 obtain ⟨hal, hB1, hB2, hB3⟩ := boxes3 w _ _ _ _ W hW0.symm
 clear hW0
 have HB : Hid (RB W (w.heap.size + 2)) := ⟨false, none, 0, 0, none, 0, 0, _, hB3⟩
 have hl3 := blk_lt hB3
 clear hB1 hB2 hB3
 refine (lessRat_any x y _ _ _ (HX.out.below hal) (HY.out.below hal) HLX.out HLY.out).mono ?_
 rintro e w3 ⟨v, rfl, hv, hb⟩
 have hRB := HB.out.keep hb hl3
 obtain ⟨a5, c5, a6, c6, rfl, n5, n6⟩ := IsRat.opened hv
 have hx := ext_trans hal hb
 obtain ⟨g0, g1, g2, f0', f1', f2'⟩ := hRB.cell
 have hBl := hRB.lt
 generalize x - y = q at *
 clear hv hb hal
 go_wp2_with fail
 refine bodyPost_ret (v := .agg #[.bool (decide (q.num < 0)), .slice a5 (dig b64 q.num.natAbs).length _, .slice a6 (dig b64 (dn q.den)).length _]) (by simp [results, Tryz.results47, go_sem, g0, g1, g2]; first | done | exact ⟨rfl, rfl⟩ | rfl) rfl ⟨_, rfl, ?_, below_store3 hx (by omega)⟩
 exact IsRat.stored hRB n5 n6 rfl rfl

end Go.Proofs.YtofijjomfhmbjaaGreat

namespace Go.Proofs.YtofijjomfhmbjaaGreat
open Go.RowKit

set_option maxHeartbeats 2000000 in
theorem lwhole_any (n : Int) (w : World) (h1 : -9223372036854775808 ≤ n) (h2 : n ≤ 9223372036854775807) : Calls Tryz.prog 49 #[.int .i64 n] w (RetRat (n : Rat) w) := by
 go_enter Tryz.func49, Tryz.ntmps49
 go_wp2_with fail
 refine (int_any n _ h1 h2).mono ?_
 rintro e w1 ⟨v, rfl, hv, hb⟩
 have hB1 := blk_keep (blk_new w #[.bool false, .slice none 0 0, .slice none 0 0] 54) hb (by simp)
 have hRB : RB w1 w.heap.size := ⟨false, none, 0, 0, none, 0, 0, _, hB1⟩
 obtain ⟨a5, c5, a6, c6, rfl, n5, n6⟩ := IsRat.opened hv
 have hx : Below w.heap.size w w1 := ((Below.refl _ _).alloc (Nat.le_refl _) _).trans (hb.mono (by simp))
 obtain ⟨g0, g1, g2, f0', f1', f2'⟩ := hRB.cell
 have hBl := hRB.lt
 generalize (n : Rat) = q at *
 go_wp2_with fail
 refine bodyPost_ret (v := .agg #[.bool (decide (q.num < 0)), .slice a5 (dig b64 q.num.natAbs).length _, .slice a6 (dig b64 (dn q.den)).length _]) (by simp [results, Tryz.results49, go_sem, g0, g1, g2]; first | done | exact ⟨rfl, rfl⟩ | rfl) rfl ⟨_, rfl, ?_, below_store3 hx (by omega)⟩
 exact IsRat.stored hRB n5 n6 rfl rfl

theorem i64_szR (n : Int) (h1 : -9223372036854775808 ≤ n) (h2 : n ≤ 9223372036854775807) (k : Nat) (hk : 1 ≤ k) : szR (n : Rat) k := szR_mono (szR_int (k := 1) (by rw [Nat.pow_one]; unfold b64; omega) (Nat.le_refl _)) hk
set_option maxHeartbeats 2000000 in
theorem lproduct_any (a b : Int) (w : World) (ha : -9223372036854775808 ≤ a ∧ a ≤ 9223372036854775807) (hb : -9223372036854775808 ≤ b ∧ b ≤ 9223372036854775807) : Calls Tryz.prog 55 #[.int .i64 a, .int .i64 b] w (RetRat ((a * b : Int) : Rat) w) := by
 have Hsa := Lib.hid (i64_szR a ha.1 ha.2 68719476736 (by omega))
 have Hsb := Lib.hid (i64_szR b hb.1 hb.2 68719476736 (by omega))
 go_enter Tryz.func55, Tryz.ntmps55
 go_wp2_with fail
 refine (lwhole_any a _ ha.1 ha.2).mono ?_
 rintro e w1 ⟨va, rfl, hva, hb1⟩
 go_wp2_with fail
 refine (lwhole_any b _ hb.1 hb.2).mono ?_
 rintro e w2 ⟨vb, rfl, hvb, hb2⟩
 go_wp2_with fail
 refine (mulRat_any (a : Rat) (b : Rat) _ _ _ (hva.below hb2) hvb Hsa.out Hsb.out).mono ?_
 rw [← Rat.intCast_mul]
 rintro e w3 ⟨v, rfl, hv, hb3⟩
 have hB1 := blk_keep (blk_keep (blk_keep (blk_new w #[.bool false, .slice none 0 0, .slice none 0 0] 54) hb1 (by simp)) hb2 (Nat.lt_of_lt_of_le (by simp) hb1.size)) hb3 (Nat.lt_of_lt_of_le (by simp) (Nat.le_trans hb1.size hb2.size))
 have hRB : RB w3 w.heap.size := ⟨false, none, 0, 0, none, 0, 0, _, hB1⟩
 obtain ⟨a5, c5, a6, c6, rfl, n5, n6⟩ := IsRat.opened hv
 have hx : Below w.heap.size w w3 := ((Below.refl _ _).alloc (Nat.le_refl _) _).trans ((ext_trans hb1 (ext_trans hb2 hb3)).mono (by simp))
 clear hva hvb hv hb1 hb2 hb3 hB1
 obtain ⟨g0, g1, g2, f0', f1', f2'⟩ := hRB.cell
 have hBl := hRB.lt
 generalize ((a * b : Int) : Rat) = q at *
 go_wp2_with fail
 refine bodyPost_ret (v := .agg #[.bool (decide (q.num < 0)), .slice a5 (dig b64 q.num.natAbs).length _, .slice a6 (dig b64 (dn q.den)).length _]) (by simp [results, Tryz.results55, go_sem, g0, g1, g2]; first | done | exact ⟨rfl, rfl⟩ | rfl) rfl ⟨_, rfl, ?_, below_store3 hx (by omega)⟩
 exact IsRat.stored hRB n5 n6 rfl rfl

set_option maxHeartbeats 1000000 in
theorem within_any (n lo hi : Int) (w : World) : Calls Tryz.prog 30 #[.int .i64 n, .int .i64 lo, .int .i64 hi] w (RetBool (inL n lo hi) w) := by
 by_cases h1 : lo ≤ n
 ·
  by_cases h2 : n ≤ hi
  ·
   have Hr : Hid (inL n lo hi = true) := by show _ = _; simp [inL, h1, h2]
   have t1 : decide (n ≥ lo) = true := decide_eq_true h1
   have t2 : decide (n ≤ hi) = true := decide_eq_true h2
   clear h1 h2
   go_enter Tryz.func30, Tryz.ntmps30
   go_wp2_with fail
   go_ret
   exact ⟨by rw [Hr.out]; rfl, Below.refl _ _⟩
  ·
   have Hr : Hid (inL n lo hi = false) := by show _ = _; simp [inL, h1, h2]
   have t1 : decide (n ≥ lo) = true := decide_eq_true h1
   have t2 : decide (n ≤ hi) = false := decide_eq_false h2
   clear h1 h2
   go_enter Tryz.func30, Tryz.ntmps30
   go_wp2_with fail
   go_ret
   exact ⟨by rw [Hr.out]; rfl, Below.refl _ _⟩
 ·
  have Hr : Hid (inL n lo hi = false) := by show _ = _; simp [inL, h1]
  have t1 : decide (n ≥ lo) = false := decide_eq_false h1
  clear h1
  go_enter Tryz.func30, Tryz.ntmps30
  go_wp2_with fail
  go_ret
  exact ⟨by rw [Hr.out]; rfl, Below.refl _ _⟩

set_option maxRecDepth 100000 in
set_option maxHeartbeats 2000000 in
theorem isRight_any (l : List Pt) (v : Value) (w : World) (h : PairsOf w v l) (hl : l.length ≤ 4611686018427387904) : Calls Tryz.prog 36 #[v] w (RetBool (ptsOk l) w) := by
 obtain ⟨ao, cap, rfl, hE⟩ := h
 have HE := Lib.hid hE
 clear hE
 go_enter Tryz.func36, Tryz.ntmps36
 go_wp2_with fail
 go_loopw [7] (fun iv wr => ∃ (i : Nat), i ≤ l.length ∧ iv = .int .i64 i ∧ ptsOk (l.take i) = true ∧ Below w.heap.size w wr) (fun iv _ => l.length - (intOf iv).toNat)
 case atStart => exact ⟨0, Nat.zero_le _, rfl, rfl, Below.refl _ _⟩
 case round =>
  obtain ⟨i, hi, rfl, hok, hbel⟩ := hrel
  have HOK := Lib.hid hok
  clear hok
  by_cases hlt : i < l.length
  ·
   obtain ⟨b, off, rfl, hbl, hLL⟩ := HE.out (by omega)
   obtain ⟨g0, g1⟩ := (hLL i hlt).below hbel hbl
   have hlt' : (i : Int) < l.length := by omega
   have hge' : (0 : Int) ≤ i := by omega
   have hbl2 : b < wr.heap.size := Nat.lt_of_lt_of_le hbl hbel.size
   have Htk := Lib.hid (ptsOk_take l i hlt)
   have Hnot : Hid (ptOk (ptAt l i) = false → ptsOk l = false) := fun h => by
    cases h2 : ptsOk l with
    | false => rfl
    | true => rw [ptsOk_get h2 i hlt] at h; cases h
   have hpo : ptOk (ptAt l i) = (inL (l.getD i (0, 0)).1 (-4398046511104) 4398046511104 && inL (l.getD i (0, 0)).2 (-4398046511104) 4398046511104) := rfl
   generalize ptOk (ptAt l i) = pk at *
   have Hpo := Lib.hid hpo
   clear hpo hLL
   have hN := blk_new wr #[.int .i64 (l.getD i (0, 0)).1, .int .i64 (l.getD i (0, 0)).2] 45
   have hx := (Below.refl wr.heap.size wr).alloc (Nat.le_refl _) (.cells #[.int .i64 (l.getD i (0, 0)).1, .int .i64 (l.getD i (0, 0)).2] 45)
   generalize (l.getD i (0, 0)).1 = x at *
   generalize (l.getD i (0, 0)).2 = y at *
   go_wp2_with fail
   refine (within_any x _ _ _).mono ?_
   rintro e w2 ⟨rfl, hb2⟩
   have hN2 := blk_keep hN hb2 (blk_lt hN)
   have c1 := blk_cell hN2 1 (.int .i64 y) rfl
   have hx2 := ext_trans (ext_trans hbel hx) hb2
   generalize inL x (-4398046511104) 4398046511104 = p at *
   clear g0 g1 hN hN2 hb2 hx
   cases p with
   | false =>
    have Hf := Lib.hid (Hnot.out (by rw [Hpo.out]; rfl))
    go_wp2_with fail
    go_ret
    exact ⟨by rw [Hf.out]; rfl, hx2⟩
   | true =>
    go_wp2_with fail
    refine (within_any y _ _ _).mono ?_
    rintro e w3 ⟨rfl, hb3⟩
    generalize inL y (-4398046511104) 4398046511104 = q at *
    have hx3 := ext_trans hx2 hb3
    cases q with
    | false =>
     have Hf := Lib.hid (Hnot.out (by rw [Hpo.out]; rfl))
     go_wp2_with fail
     go_ret
     exact ⟨by rw [Hf.out]; rfl, hx3⟩
    | true =>
     have Ht : Hid (ptsOk (l.take (i + 1)) = true) := by show _ = _; rw [Htk.out, HOK.out, Hpo.out]; rfl
     go_wp2_with fail
     exact ⟨⟨i + 1, by omega, by go_num, Ht.out, hx3⟩, meas_up hlt⟩
  ·
   obtain rfl : i = l.length := by omega
   rw [List.take_length] at HOK
   go_wp2_with fail
   go_ret
   exact ⟨by rw [HOK.out]; rfl, hbel⟩

theorem boxesP (w : World) (A1 A2 A3 A4 : Array Value) (T T4 : Nat) (W : World) (hW : W = (((w.alloc (.cells A1 T)).alloc (.cells A2 T)).alloc (.cells A3 T)).alloc (.cells A4 T4)) :
  Below w.heap.size w W ∧ W.heap[w.heap.size]? = some (.cells A1 T (0, 0)) ∧ W.heap[w.heap.size + 1]? = some (.cells A2 T (0, 0)) ∧ W.heap[w.heap.size + 2]? = some (.cells A3 T (0, 0)) ∧ W.heap[w.heap.size + 3]? = some (.cells A4 T4 (0, 0)) := by
 obtain ⟨h0, h1, h2, h3⟩ := boxes3 w A1 A2 A3 T _ rfl
 subst hW
 have hs : (((w.alloc (.cells A1 T)).alloc (.cells A2 T)).alloc (.cells A3 T)).heap.size = w.heap.size + 3 := by simp
 generalize ((w.alloc (.cells A1 T)).alloc (.cells A2 T)).alloc (.cells A3 T) = W3 at *
 refine ⟨h0.alloc h0.size _, ?_, ?_, ?_, ?_⟩
 ·
  rw [heap_alloc_old _ _ (by omega)]; exact h1
 ·
  rw [heap_alloc_old _ _ (by omega)]; exact h2
 ·
  rw [heap_alloc_old _ _ (by omega)]; exact h3
 ·
  rw [← hs]; exact blk_new W3 A4 T4
def HP (n : Nat) (w0 : World) (B1 B2 B3 B : Nat) (v0 v1 v2 v3 v4 v5 : Value) (a : World) : Prop :=
 Below n w0 a ∧ RB a B ∧ a.cell? ⟨B1, 0, none⟩ = some v0 ∧ a.cell? ⟨B1, 1, none⟩ = some v1 ∧ a.cell? ⟨B2, 0, none⟩ = some v2 ∧ a.cell? ⟨B2, 1, none⟩ = some v3 ∧ a.cell? ⟨B3, 0, none⟩ = some v4 ∧ a.cell? ⟨B3, 1, none⟩ = some v5 ∧
  a.cell? ⟨B, 0, none⟩ = some (cellOf a ⟨B, 0, none⟩) ∧ a.cell? ⟨B, 1, none⟩ = some (cellOf a ⟨B, 1, none⟩) ∧ a.cell? ⟨B, 2, none⟩ = some (cellOf a ⟨B, 2, none⟩) ∧ a.frozen? ⟨B, 0, none⟩ = false ∧ a.frozen? ⟨B, 1, none⟩ = false ∧ a.frozen? ⟨B, 2, none⟩ = false
theorem holdP {n : Nat} {w0 a : World} {B1 B2 B3 B : Nat} {v0 v1 v2 v3 v4 v5 : Value} (h0 : Below n w0 a) (h1 : a.cell? ⟨B1, 0, none⟩ = some v0) (h2 : a.cell? ⟨B1, 1, none⟩ = some v1) (h3 : a.cell? ⟨B2, 0, none⟩ = some v2)
  (h4 : a.cell? ⟨B2, 1, none⟩ = some v3) (h5 : a.cell? ⟨B3, 0, none⟩ = some v4) (h6 : a.cell? ⟨B3, 1, none⟩ = some v5) (hB : RB a B) : HP n w0 B1 B2 B3 B v0 v1 v2 v3 v4 v5 a := ⟨h0, hB, h1, h2, h3, h4, h5, h6, hB.cell⟩
theorem holdP_call {n : Nat} {w0 a b : World} {B1 B2 B3 B : Nat} {v0 v1 v2 v3 v4 v5 : Value} (hn : n ≤ w0.heap.size) (hb : Below a.heap.size a b) (h : HP n w0 B1 B2 B3 B v0 v1 v2 v3 v4 v5 a) : HP n w0 B1 B2 B3 B v0 v1 v2 v3 v4 v5 b := by
 obtain ⟨h0, hB, h1, h2, h3, h4, h5, h6, _⟩ := h
 have e : ∀ B1 j v, a.cell? ⟨B1, j, none⟩ = some v → b.cell? ⟨B1, j, none⟩ = some v := fun B1 j v h => (hb.cell (p := ⟨B1, j, none⟩) (World.block_lt_of_cell? (h := h))).trans h
 have hs := h0.size
 exact holdP (h0.trans (hb.mono (by omega))) (e _ _ _ h1) (e _ _ _ h2) (e _ _ _ h3) (e _ _ _ h4) (e _ _ _ h5) (e _ _ _ h6) (hB.keep hb hB.lt)
theorem holdP_store {n : Nat} {w0 a : World} {B1 B2 B3 B : Nat} {v0 v1 v2 v3 v4 v5 : Value} (neg : Bool) (x1 y1 : Option Addr) (i1 j1 k1 l1 : Nat) (hn : n ≤ B) (hne : B1 ≠ B) (hne2 : B2 ≠ B) (hne3 : B3 ≠ B)
  (h : HP n w0 B1 B2 B3 B v0 v1 v2 v3 v4 v5 a) (b : World) (hb : b = ((a.setCell ⟨B, 0, none⟩ (.bool neg)).setCell ⟨B, 1, none⟩ (.slice x1 i1 j1)).setCell ⟨B, 2, none⟩ (.slice y1 k1 l1)) : HP n w0 B1 B2 B3 B v0 v1 v2 v3 v4 v5 b := by
 obtain ⟨h0, hB, h1, h2, h3, h4, h5, h6, _⟩ := h
 subst hb
 have e : ∀ B1 j v, B1 ≠ B → a.cell? ⟨B1, j, none⟩ = some v → (((a.setCell ⟨B, 0, none⟩ (.bool neg)).setCell ⟨B, 1, none⟩ (.slice x1 i1 j1)).setCell ⟨B, 2, none⟩ (.slice y1 k1 l1)).cell? ⟨B1, j, none⟩ = some v := fun B1 j v hne h => by
  rw [World.cell?_setCell_other, World.cell?_setCell_other, World.cell?_setCell_other, h]
  all_goals intro e; cases e; exact hne rfl
 exact holdP (below_store3 h0 hn) (e _ _ _ hne h1) (e _ _ _ hne h2) (e _ _ _ hne2 h3) (e _ _ _ hne2 h4) (e _ _ _ hne3 h5) (e _ _ _ hne3 h6) (hB.store ..)
theorem sub_far {a b : Int} (ha : -far ≤ a ∧ a ≤ far) (hb : -far ≤ b ∧ b ≤ far) : IntKind.i64.wrap (a - b) = a - b ∧ (-9223372036854775808 ≤ a - b ∧ a - b ≤ 9223372036854775807) ∧ (-8796093022208 ≤ a - b ∧ a - b ≤ 8796093022208) := by
 unfold far at *
 exact ⟨IntWalk.i64_in _ (by omega), by omega, by omega⟩
theorem prod_szR {a b : Int} (ha : -8796093022208 ≤ a ∧ a ≤ 8796093022208) (hb : -8796093022208 ≤ b ∧ b ≤ 8796093022208) : szR ((a * b : Int) : Rat) 68719476736 := by
 have := mul_absI ha hb
 refine szR_mono (szR_int (k := 2) ?_ (by omega)) (by omega)
 have e : b64 ^ 2 = 340282366920938463463374607431768211456 := by unfold b64; omega
 rw [e]
 omega

set_option maxRecDepth 100000 in
set_option maxHeartbeats 4000000 in
theorem cross_any (a b c : Pt) (w : World) (ha : ptOk a = true) (hb : ptOk b = true) (hc : ptOk c = true) : Calls Tryz.prog 37 #[.agg #[.int .i64 a.1, .int .i64 a.2], .agg #[.int .i64 b.1, .int .i64 b.2], .agg #[.int .i64 c.1, .int .i64 c.2]] w (RetRat ((crossI a b c : Int) : Rat) w) := by
 have ra := ptOk_range ha
 have rb := ptOk_range hb
 have rc := ptOk_range hc
 obtain ⟨e1, r1, s1⟩ := sub_far rb.1 ra.1
 obtain ⟨d1, hd1⟩ : ∃ d, d = b.1 - a.1 := ⟨_, rfl⟩
 rw [← hd1] at r1 s1
 replace e1 : IntKind.i64.wrap (b.1 - a.1) = d1 := by rw [hd1]; exact e1
 obtain ⟨e2, r2, s2⟩ := sub_far rc.2 ra.2
 obtain ⟨d2, hd2⟩ : ∃ d, d = c.2 - a.2 := ⟨_, rfl⟩
 rw [← hd2] at r2 s2
 replace e2 : IntKind.i64.wrap (c.2 - a.2) = d2 := by rw [hd2]; exact e2
 obtain ⟨e3, r3, s3⟩ := sub_far rb.2 ra.2
 obtain ⟨d3, hd3⟩ : ∃ d, d = b.2 - a.2 := ⟨_, rfl⟩
 rw [← hd3] at r3 s3
 replace e3 : IntKind.i64.wrap (b.2 - a.2) = d3 := by rw [hd3]; exact e3
 obtain ⟨e4, r4, s4⟩ := sub_far rc.1 ra.1
 obtain ⟨d4, hd4⟩ : ∃ d, d = c.1 - a.1 := ⟨_, rfl⟩
 rw [← hd4] at r4 s4
 replace e4 : IntKind.i64.wrap (c.1 - a.1) = d4 := by rw [hd4]; exact e4
 have Hs1 := Lib.hid (prod_szR s1 s2)
 have Hs2 := Lib.hid (prod_szR s3 s4)
 have He : Hid ((((d1 * d2 : Int) : Rat)) - (((d3 * d4 : Int) : Rat)) = ((crossI a b c : Int) : Rat)) := by
  show _ = _
  rw [← Rat.intCast_sub, hd1, hd2, hd3, hd4]
  rfl
 have R1 := Lib.hid r1
 have R2 := Lib.hid r2
 have R3 := Lib.hid r3
 have R4 := Lib.hid r4
 generalize hI : ((crossI a b c : Int) : Rat) = Q at *
 clear ha hb hc ra rb rc r1 s1 hd1 r2 s2 hd2 r3 s3 hd3 r4 s4 hd4 hI
 generalize a.1 = ax at *
 generalize a.2 = ay at *
 generalize b.1 = bx at *
 generalize b.2 = by' at *
 generalize c.1 = cx at *
 generalize c.2 = cy at *
 go_enter Tryz.func37, Tryz.ntmps37
 go_wp2_with fail
 generalize hW0 : (((w.alloc (.cells #[.int .i64 ax, .int .i64 ay] 45)).alloc (.cells #[.int .i64 bx, .int .i64 by'] 45)).alloc (.cells #[.int .i64 cx, .int .i64 cy] 45)).alloc (.cells #[.bool false, .slice none 0 0, .slice none 0 0] 54) = W at *
 obtain ⟨hal, hB1, hB2, hB3, hB4⟩ := boxesP w _ _ _ _ _ _ W hW0.symm
 clear hW0
 have hW : Below w.heap.size w W.drew := hal.drew
 have p0 := blk_cell hB1 0 (.int .i64 ax) rfl
 have p1 := blk_cell hB1 1 (.int .i64 ay) rfl
 have p2 := blk_cell hB2 0 (.int .i64 bx) rfl
 have p3 := blk_cell hB2 1 (.int .i64 by') rfl
 have p4 := blk_cell hB3 0 (.int .i64 cx) rfl
 have p5 := blk_cell hB3 1 (.int .i64 cy) rfl
 have HB : Hid (RB W (w.heap.size + 3)) := ⟨false, none, 0, 0, none, 0, 0, _, hB4⟩
 have hl3 := blk_lt hB4
 clear hB1 hB2 hB3 hB4
 go_region_held3 (fun w' => Below w.heap.size w w' ∧ RB w' (w.heap.size + 3) ∧ w'.cell? ⟨w.heap.size, 0, none⟩ = some (.int .i64 ax) ∧ w'.cell? ⟨w.heap.size, 1, none⟩ = some (.int .i64 ay) ∧ w'.cell? ⟨w.heap.size + 1, 0, none⟩ = some (.int .i64 bx) ∧ w'.cell? ⟨w.heap.size + 1, 1, none⟩ = some (.int .i64 by') ∧ w'.cell? ⟨w.heap.size + 2, 0, none⟩ = some (.int .i64 cx) ∧ w'.cell? ⟨w.heap.size + 2, 1, none⟩ = some (.int .i64 cy) ∧ w'.cell? ⟨w.heap.size + 3, 0, none⟩ = some (cellOf w' ⟨w.heap.size + 3, 0, none⟩) ∧ w'.cell? ⟨w.heap.size + 3, 1, none⟩ = some (cellOf w' ⟨w.heap.size + 3, 1, none⟩) ∧ w'.cell? ⟨w.heap.size + 3, 2, none⟩ = some (cellOf w' ⟨w.heap.size + 3, 2, none⟩) ∧ w'.frozen? ⟨w.heap.size + 3, 0, none⟩ = false ∧ w'.frozen? ⟨w.heap.size + 3, 1, none⟩ = false ∧ w'.frozen? ⟨w.heap.size + 3, 2, none⟩ = false)
  (first | exact holdP hW p0 p1 p2 p3 p4 p5 HB.out | exact holdP_call (Nat.le_refl _) hbC (by assumption) | exact holdP_call (Nat.le_refl _) hbB (by assumption) | exact holdP_call (Nat.le_refl _) hbA (by assumption) | exact holdP_store _ _ _ _ _ _ _ (by omega) (by omega) (by omega) (by omega) (by assumption) _ rfl)
  (first
   | (go_at_call_of 55 (Value.int .i64 d1); refine (lproduct_any d1 d2 _ R1.out R2.out).mono ?_; rintro e wA ⟨vA, rfl, hvA, hbA⟩)
   | (go_at_call_of 55 (Value.int .i64 d3); refine (lproduct_any d3 d4 _ R3.out R4.out).mono ?_; rintro e wB ⟨vB, rfl, hvB, hbB⟩)
   | (go_at_call 47; refine (subRat_any _ _ _ _ _ (hvA.below hbB) hvB Hs1.out Hs2.out).mono ?_; rw [He.out]; rintro e wC ⟨vC, rfl, hvC, hbC⟩; obtain ⟨a5, c5, a6, c6, rfl, n5, n6⟩ := IsRat.opened hvC))
 have hE := ext_trans (ext_trans hbA hbB) hbC
 have hRB := RB.keep (a := W.drew) HB.out hE hl3
 have hx := hW.trans (hE.mono hW.size)
 obtain ⟨g0, g1, g2, f0', f1', f2'⟩ := hRB.cell
 have hBl := hRB.lt
 go_wp2_with fail
 refine bodyPost_ret (v := .agg #[.bool (decide (Q.num < 0)), .slice a5 (dig b64 Q.num.natAbs).length _, .slice a6 (dig b64 (dn Q.den)).length _]) (by simp [results, Tryz.results37, go_sem, g0, g1, g2]; first | done | exact ⟨rfl, rfl⟩ | rfl) rfl ⟨_, rfl, ?_, below_store3 hx (by omega)⟩
 exact IsRat.stored hRB n5 n6 rfl rfl

end Go.Proofs.YtofijjomfhmbjaaGreat

namespace Go.Proofs.YtofijjomfhmbjaaGreat
open Go.RowKit

structure KeepCells (B : Nat) (W W' : World) : Prop where
 size : W.heap.size ≤ W'.heap.size
 same : ∀ (k : Nat) (o : Obj), k ≠ B → W.heap[k]? = some o → o.isCells = true → W'.heap[k]? = some o
def KpU (n B : Nat) (W W' : World) : Prop := Below n W W' ∧ KeepCells B W W'
theorem KpU.trans {n B : Nat} {X Y Z : World} (h : KpU n B X Y) (k : KpU n B Y Z) : KpU n B X Z :=
 ⟨h.1.trans k.1, Nat.le_trans h.2.size k.2.size, fun i o hB hi ho => k.2.same i o hB (h.2.same i o hB hi ho) ho⟩
theorem KpU.boxed {n B : Nat} {X Y : World} (h : KpU n B X Y) {b : Nat} {t : TypeId} {v : Value} (hb : Boxed X b t v) (hne : b ≠ B) : Boxed Y b t v := h.2.same b _ hne hb rfl
end Go.Proofs.YtofijjomfhmbjaaGreat

namespace Go.Proofs.YtofijjomfhmbjaaGreat
open Go.RowKit Go.Shelf

attribute [local go_sem] Oper.semAt_some

theorem below_join {w a b : World} (h : Below w.heap.size w a) (k : Below a.heap.size a b) : Below w.heap.size w b := ext_trans h k
end Go.Proofs.YtofijjomfhmbjaaGreat

namespace Go.Proofs.YtofijjomfhmbjaaGreat
open Go.RowKit Go.Shelf

attribute [local go_sem] Oper.semAt_some

theorem KeepCells.alloc (B : Nat) (W : World) (o : Obj) : KeepCells B W (W.alloc o) :=
 ⟨by simp, fun k o2 _ hk _ => (Below.heap_alloc W o k (Array.getElem?_eq_some_iff.1 hk).1).trans hk⟩
theorem KeepCells.set (B : Nat) (W : World) (v : Value) : KeepCells B W (W.setCell ⟨B, 0, none⟩ v) :=
 ⟨by simp, fun k o2 hB hk _ => (Below.heap_setCell W _ v k hB).trans hk⟩
theorem KeepCells.drewN (B : Nat) (W : World) (n : Nat) : KeepCells B W (W.drewN n) := ⟨Nat.le_refl _, fun k o2 _ hk _ => hk⟩
theorem KeepCells.setN (B : Nat) (W : World) (n : Nat) (v : Value) : KeepCells B W ((W.drewN n).setCell ⟨B, 0, none⟩ v) := ⟨(KeepCells.set B (W.drewN n) v).size, fun k o2 hB hk ho => (KeepCells.set B (W.drewN n) v).same k o2 hB hk ho⟩

end Go.Proofs.YtofijjomfhmbjaaGreat

namespace Go.Proofs.YtofijjomfhmbjaaGreat
open Go.RowKit

def esA : List (Rat × Int) := [(((250 : Int) : Rat), 1), (((290 : Int) : Rat), 10)]
end Go.Proofs.YtofijjomfhmbjaaGreat

namespace Go.Proofs.YtofijjomfhmbjaaGreat
open Go.RowKit

def rdCells : List (Int × Nat) → List Value
 | [] => []
 | r :: l => .int .i64 r.1 :: .float .f32 r.2 :: rdCells l
theorem rdCells_get (ls : List (Int × Nat)) : ∀ i, i < ls.length → (rdCells ls)[i * 2]? = some (.int .i64 (ls.getD i (0, 0)).1) ∧ (rdCells ls)[i * 2 + 1]? = some (.float .f32 (ls.getD i (0, 0)).2) := by
 induction ls with
 | nil => intro i hi; simp at hi
 | cons r l ih =>
  intro i hi
  cases i with
  | zero => simp [rdCells]
  | succ i =>
   have := ih i (by simpa using hi)
   simpa [rdCells, Nat.succ_mul] using this
theorem LogOf.ofRow {w : World} {base : Nat} {e : TypeId} {v : Value} {ls : List (Int × Nat)} (h : LRow w base e 2 v ls.length (rdCells ls)) : LogOf w v ls := by
 rcases Nat.eq_zero_or_pos ls.length with h0 | hp
 ·
  rcases h.1.2 with ⟨rfl, _⟩ | ⟨g, cap, cur, rfl, _⟩
  ·
   exact ⟨none, 0, by rw [h0], fun h => absurd h (by omega)⟩
  ·
   exact ⟨_, _, rfl, fun h => absurd h (by omega)⟩
 ·
  obtain ⟨g, cap, rfl⟩ := ownsRow_some h.1 hp
  have hc : ∀ j u, (rdCells ls)[j]? = some u → w.cell? ((⟨g, 0, none⟩ : Addr).add j) = some u := h.1.cells (g := g) rfl
  have hlt : g < w.heap.size := (h.lt rfl).1
  refine ⟨_, _, rfl, fun _ => ⟨g, 0, rfl, hlt, fun i hi => ?_⟩⟩
  obtain ⟨h0, h1⟩ := rdCells_get ls i hi
  have ea : ∀ j, (⟨g, 0, none⟩ : Addr).add j = ⟨g, 0 + j, none⟩ := fun j => by unfold Addr.add; split <;> simp_all
  refine ⟨?_, ?_⟩
  ·
   rw [← ea]; exact hc _ _ h0
  ·
   rw [show 0 + i * 2 + 1 = 0 + (i * 2 + 1) by omega, ← ea]; exact hc _ _ h1
theorem cell_new2 (w : World) (a b : Value) (t : TypeId) : ∀ j u, [a, b][j]? = some u → (w.alloc (.cells #[a, b] t)).cell? ((⟨w.heap.size, 0, none⟩ : Addr).add j) = some u := by
 intro j u hj
 match j, hj with
 | 0, hj => simp at hj; subst hj; simp [Addr.add]
 | 1, hj => simp at hj; subst hj; simp [Addr.add]
 | j + 2, hj => simp at hj
end Go.Proofs.YtofijjomfhmbjaaGreat

namespace Go.Proofs.YtofijjomfhmbjaaGreat
open Go.RowKit

def pairCells : List (Int × Int) → List Value
 | [] => []
 | r :: l => .int .i64 r.1 :: .int .i64 r.2 :: pairCells l
theorem pairCells_append (a b : List (Int × Int)) : pairCells (a ++ b) = pairCells a ++ pairCells b := by
 induction a with
 | nil => rfl
 | cons r a ih => simp [pairCells, ih]
theorem pairCells_take (ls : List (Int × Int)) (i : Nat) (hi : i < ls.length) : pairCells (ls.take (i + 1)) = pairCells (ls.take i) ++ [.int .i64 (ls.getD i (0, 0)).1, .int .i64 (ls.getD i (0, 0)).2] := by
 rw [List.take_add_one, pairCells_append]
 simp [hi, pairCells]
theorem pairCells_get (ls : List (Int × Int)) : ∀ i, i < ls.length → (pairCells ls)[i * 2]? = some (.int .i64 (ls.getD i (0, 0)).1) ∧ (pairCells ls)[i * 2 + 1]? = some (.int .i64 (ls.getD i (0, 0)).2) := by
 induction ls with
 | nil => intro i hi; simp at hi
 | cons r l ih =>
  intro i hi
  cases i with
  | zero => simp [pairCells]
  | succ i =>
   have := ih i (by simpa using hi)
   simpa [pairCells, Nat.succ_mul] using this
theorem PairsOf.ofRow {w : World} {base : Nat} {e : TypeId} {v : Value} {ls : List (Int × Int)} (h : LRow w base e 2 v ls.length (pairCells ls)) : PairsOf w v ls := by
 rcases Nat.eq_zero_or_pos ls.length with h0 | hp
 ·
  rcases h.1.2 with ⟨rfl, _⟩ | ⟨g, cap, cur, rfl, _⟩
  ·
   exact ⟨none, 0, by rw [h0], fun h => absurd h (by omega)⟩
  ·
   exact ⟨_, _, rfl, fun h => absurd h (by omega)⟩
 ·
  obtain ⟨g, cap, rfl⟩ := ownsRow_some h.1 hp
  have hc : ∀ j u, (pairCells ls)[j]? = some u → w.cell? ((⟨g, 0, none⟩ : Addr).add j) = some u := h.1.cells (g := g) rfl
  have hlt : g < w.heap.size := (h.lt rfl).1
  refine ⟨_, _, rfl, fun _ => ⟨g, 0, rfl, hlt, fun i hi => ?_⟩⟩
  obtain ⟨h0, h1⟩ := pairCells_get ls i hi
  have ea : ∀ j, (⟨g, 0, none⟩ : Addr).add j = ⟨g, 0 + j, none⟩ := fun j => by unfold Addr.add; split <;> simp_all
  refine ⟨?_, ?_⟩
  ·
   rw [← ea]; exact hc _ _ h0
  ·
   rw [show 0 + i * 2 + 1 = 0 + (i * 2 + 1) by omega, ← ea]; exact hc _ _ h1
theorem zd2 : ∀ u ∈ (Value.agg #[.int .i64 0, .int .i64 0]).cells.toList, noDig u := by
 intro u hu
 simp [Value.cells] at hu
 rw [hu]
 exact noDig_i64 _
theorem nd2 (a b : Int) : ∀ u ∈ [Value.int .i64 a, Value.int .i64 b], noDig u := by
 intro u hu
 simp at hu
 rcases hu with rfl | rfl <;> exact noDig_i64 _
theorem one2 (a b : Int) : ∀ u ∈ [Value.int .i64 a, Value.int .i64 b], u.oneCell' = true := by simp [Value.oneCell']
end Go.Proofs.YtofijjomfhmbjaaGreat

namespace Go.Proofs.YtofijjomfhmbjaaGreat
open Go.RowKit

theorem PairsOf.nil (w : World) : PairsOf w (.slice none 0 0) [] := ⟨none, 0, rfl, fun h => absurd h (by simp)⟩

end Go.Proofs.YtofijjomfhmbjaaGreat

namespace Go.Proofs.YtofijjomfhmbjaaGreat
open Go.RowKit

structure GoodPcs (l : List (Int × Int)) (w : Int) : Prop where
 pcs : Pieces l w
 big : ∀ i, i < l.length → (gP l i).1 ≤ 1000 ∧ (gP l i).2 ≤ 1000
 len : l.length ≤ 10
 w1 : w ≤ 1000
theorem GoodPcs.at {l : List (Int × Int)} {w : Int} (h : GoodPcs l w) {i : Nat} (hi : i < l.length) : (1 ≤ (l.getD i (0, 0)).1 ∧ (l.getD i (0, 0)).1 ≤ 1000) ∧ 1 ≤ (l.getD i (0, 0)).2 ∧ (l.getD i (0, 0)).2 ≤ w := by
 have a := h.pcs.2 i hi
 have b := h.big i hi
 unfold gP at a b
 omega
theorem inL_yes {n lo hi : Int} (h1 : lo ≤ n) (h2 : n ≤ hi) : inL n lo hi = true := by simp [inL, h1, h2]

theorem run_max_ints3 {P : Program} (w : World) (ts : Array TypeId) (t : TypeId) (k k' k'' : IntKind) (x y z : Int) :
  (Builtin.max_ ts t #[.int k x, .int k' y, .int k'' z]).run P w = .ok (.int k (max (max x y) z)) w := by
 have e : ∀ x y : Int, (if y > x then y else x) = max x y := fun x y => by
  rw [Int.max_def]
  split <;> split <;> omega
 simp [Builtin.max_, Builtin.max2, e]
def RetTwoN (a b : Int) (w : World) (e : Ending) (w' : World) : Prop := e = .returned (.tuple #[.int .i64 a, .int .i64 b]) ∧ Below w.heap.size w w'
end Go.Proofs.YtofijjomfhmbjaaGreat

namespace Go.Proofs.YtofijjomfhmbjaaGreat
open Go.RowKit

def ordL (f : Nat → Nat) (n : Nat) : List Nat := (List.range n).map f
theorem ordL_length (f : Nat → Nat) (n : Nat) : (ordL f n).length = n := by simp [ordL]
theorem ordL_get (f : Nat → Nat) {n j : Nat} (hj : j < n) : (ordL f n).getD j 0 = f j := by simp [ordL, List.getD, hj]
theorem ordL_sw (f : Nat → Nat) {n j : Nat} (hj0 : 0 < j) (hj : j < n) : ((ordL f n).set j (f (j - 1))).set (j - 1) (f j) = ordL (swO f j) n := by
 refine List.ext_getElem (by simp [ordL]) fun k h1 h2 => ?_
 have hk : k < n := by simpa [ordL] using h2
 simp only [ordL, List.getElem_set, List.getElem_map, List.getElem_range]
 rcases swO_ways f hj0 k with ⟨c, e⟩ | ⟨c, e⟩ | ⟨c, d, e⟩
 ·
  rw [e, if_neg (by omega), if_pos (by omega)]
 ·
  rw [e, if_pos (by omega)]
 ·
  rw [e, if_neg (by omega), if_neg (by omega)]
theorem ordL_id (n : Nat) : ordL (fun j => j) n = List.range n := by simp [ordL]

theorem pairCells_len2 (ps : List (Int × Int)) : (pairCells ps).length = ps.length * 2 := by
 induction ps with
 | nil => rfl
 | cons p ps ih => simp only [pairCells, List.length_cons, ih]; omega
theorem pairCells_setA (ps : List (Int × Int)) (x : Int) : ∀ k, k < ps.length → (pairCells ps).set (k * 2) (.int .i64 x) = pairCells (ps.set k (x, (ps.getD k (0, 0)).2)) := by
 induction ps with
 | nil => intro k hk; simp at hk
 | cons p ps ih =>
  intro k hk
  cases k with
  | zero => simp [pairCells]
  | succ k =>
   have := ih k (by simpa using hk)
   rw [show (k + 1) * 2 = k * 2 + 2 by omega]
   simp only [pairCells, List.set_cons_succ, List.getD_cons_succ, this]
theorem pairCells_setB (ps : List (Int × Int)) (y : Int) : ∀ k, k < ps.length → (pairCells ps).set (k * 2 + 1) (.int .i64 y) = pairCells (ps.set k ((ps.getD k (0, 0)).1, y)) := by
 induction ps with
 | nil => intro k hk; simp at hk
 | cons p ps ih =>
  intro k hk
  cases k with
  | zero => simp [pairCells]
  | succ k =>
   have := ih k (by simpa using hk)
   rw [show (k + 1) * 2 + 1 = (k * 2 + 1) + 2 by omega]
   simp only [pairCells, List.set_cons_succ, List.getD_cons_succ, this]
theorem pairCells_set12 (ps : List (Int × Int)) (x y : Int) (k : Nat) (hk : k < ps.length) : ((pairCells ps).set (k * 2) (.int .i64 x)).set (k * 2 + 1) (.int .i64 y) = pairCells (ps.set k (x, y)) := by
 rw [pairCells_setA ps x k hk, pairCells_setB _ y k (by simpa using hk)]
 simp [List.getD, hk]

theorem heap_setN {w : World} {g : Nat} {e : TypeId} {cur : Array Value} (hh : w.heap[g]? = some (.cells cur e (0, 0))) (j : Nat) (v : Value) : (w.setCell ⟨g, j, none⟩ v).heap[g]? = some (.cells (cur.setIfInBounds j v) e (0, 0)) := by
 have hlt := (Array.getElem?_eq_some_iff.1 hh).1
 show (w.heap.modify g _)[g]? = _
 rw [Array.getElem?_modify, if_pos rfl, hh]
 rfl
theorem LRow.setN {w : World} {base : Nat} {e : TypeId} {size g n cap : Nat} {xs : List Value} (h : LRow w base e size (.slice (some ⟨g, 0, none⟩) n cap) n xs) (j : Nat) {v : Value} (hv : noDig v) :
  LRow (w.setCell ⟨g, j, none⟩ v) base e size (.slice (some ⟨g, 0, none⟩) n cap) n (xs.set j v) := by
 obtain ⟨⟨hl, h1⟩, hd⟩ := h
 rcases h1 with ⟨h1, _⟩ | ⟨g', cap', cur, hq, hb, hh, h2, h3, h4, h5⟩
 ·
  cases h1
 ·
  injection hq with hq1 hq2 hq3
  injection hq1 with hq1
  injection hq1 with hq1
  subst hq1
  subst hq3
  have hh' := heap_setN hh j v
  refine ⟨⟨by simpa using hl, .inr ⟨g, cap, _, rfl, hb, hh', h2, h3, by simpa using h4, ?_⟩⟩, fun g' hg' => ?_⟩
  ·
   rw [Array.toList_setIfInBounds, List.take_set, h5]
  ·
   simp [Value.ownBlock] at hg'
   subst hg'
   refine NoDig.of_block hh' fun u hu => ?_
   rw [Array.toList_setIfInBounds] at hu
   rcases List.mem_or_eq_of_mem_set hu with hu | rfl
   ·
    obtain ⟨k, hk⟩ := List.mem_iff_getElem?.1 hu
    refine hd g rfl k u ?_
    rw [cell_of_row w g k cur e (0, 0) hh]
    simpa using hk
   ·
    exact hv
theorem LRow.cellP {w : World} {base : Nat} {e : TypeId} {g cap : Nat} {ps : List (Int × Int)} {n : Nat} (h : LRow w base e 2 (.slice (some ⟨g, 0, none⟩) n cap) n (pairCells ps)) (hn : ps.length = n) {i : Nat} (hi : i < n) : PairAt w g (0 + i * 2) (ps.getD i (0, 0)) := by
 subst hn
 obtain ⟨ao, c, hv, hp⟩ := PairsOf.ofRow h
 obtain ⟨b, off, hb, _, hp⟩ := hp (by omega)
 simp only [Value.slice.injEq] at hv
 obtain ⟨rfl, _, rfl⟩ := hv
 simp only [Option.some.injEq, Addr.mk.injEq] at hb
 obtain ⟨rfl, rfl, _⟩ := hb
 exact hp i hi
theorem LRow.frozenP {w : World} {base : Nat} {e : TypeId} {size g n cap : Nat} {xs : List Value} (h : LRow w base e size (.slice (some ⟨g, 0, none⟩) n cap) n xs) (j : Nat) : w.frozen? ⟨g, j, none⟩ = false := by
 rcases h.1.2 with ⟨h1, _⟩ | ⟨g', cap', cur, hq, hb, hh, _⟩
 ·
  cases h1
 ·
  injection hq with hq1 hq2 hq3
  injection hq1 with hq1
  injection hq1 with hq1
  subst hq1
  exact frozen_of_row w g j _ e hh
theorem LRow.madeP {w : World} {base : Nat} {e : TypeId} {g n : Nat} (h : w.ownsRow base e 2 (.slice (some ⟨g, 0, none⟩) n n) n (madeCells #[Value.int .i64 0, Value.int .i64 0] (n * 2)).toList) : LRow w base e 2 (.slice (some ⟨g, 0, none⟩) n n) n (pairCells (List.replicate n (0, 0))) := by
 have e1 : ∀ n : Nat, pairCells (List.replicate n (0, 0)) = List.replicate (n * 2) (Value.int .i64 0) := fun n => by
  induction n with
  | zero => rfl
  | succ n ih => rw [List.replicate_succ, show (n + 1) * 2 = n * 2 + 1 + 1 by omega, List.replicate_succ, List.replicate_succ, ← ih]; rfl
 have e2 : (madeCells #[Value.int .i64 0, Value.int .i64 0] (n * 2)).toList = List.replicate (n * 2) (Value.int .i64 0) := by
  refine List.ext_getElem (by simp [madeCells]) fun k h1 h2 => ?_
  have : k % 2 = 0 ∨ k % 2 = 1 := by omega
  rcases this with c | c <;> simp [madeCells, c]
 rw [e2] at h
 rw [e1]
 refine ⟨h, fun g' hg' => ?_⟩
 rcases h.2 with ⟨h1, _⟩ | ⟨g1, cap', cur, hq, hb, hh, h2, h3, h4, h5⟩
 ·
  cases h1
 ·
  injection hq with hq1 hq2 hq3
  injection hq1 with hq1
  injection hq1 with hq1
  subst hq1
  subst hq3
  simp [Value.ownBlock] at hg'
  subst hg'
  refine NoDig.of_block hh fun u hu => ?_
  have e3 : cur.toList = List.replicate (n * 2) (Value.int .i64 0) := by
   rw [← h5, List.take_of_length_le (by simp; omega)]
  rw [e3] at hu
  rw [List.eq_of_mem_replicate hu]
  exact noDig_i64 0

end Go.Proofs.YtofijjomfhmbjaaGreat

namespace Go.Proofs.YtofijjomfhmbjaaGreat
open Go.RowKit

def swp2 (f : Nat → Nat) (p q : Nat) : Nat → Nat := fun k => if k = q then f p else if k = p then f q else f k
theorem ordL_swp (f : Nat → Nat) {n p q : Nat} (hp : p < n) (hq : q < n) : ((ordL f n).set p (f q)).set q (f p) = ordL (swp2 f p q) n := by
 refine List.ext_getElem (by simp [ordL]) fun k h1 h2 => ?_
 have hk : k < n := by simpa [ordL] using h2
 simp only [ordL, List.getElem_set, List.getElem_map, List.getElem_range, swp2]
 repeat' split
 all_goals first | rfl | omega
theorem swN_swp (f : Nat → Nat) {a b n : Nat} (h : a + n < b) : swp2 (swN f a b n) (a + n) (b + n) = swN f a b (n + 1) := by
 funext k
 rw [swN_step f h k]
 unfold swp2
 have e1 : swN f a b n (a + n) = f (a + n) := by unfold swN; rw [if_neg (by omega), if_neg (by omega)]
 have e2 : swN f a b n (b + n) = f (b + n) := by unfold swN; rw [if_neg (by omega), if_neg (by omega)]
 rw [e1, e2]
 repeat' split
 all_goals first | rfl | omega
def RetPerm (f : Nat → Nat) (N g : Nat) (w : World) (e : Ending) (w' : World) : Prop := e = .returned (.tuple #[]) ∧ Own w' g .i64 3 (ordL f N) ∧ Below g w w'

set_option maxRecDepth 100000 in
set_option maxHeartbeats 8000000 in
theorem swapRange_any (N a b n : Nat) (f : Nat → Nat) (g cap : Nat) (F : Value) (w : World) (hab : a + n ≤ b) (hb : b + n ≤ N) (hN : N ≤ 24) (hO : Own w g .i64 3 (ordL f N)) :
  Calls Tryz.prog 108 #[.slice (some ⟨g, 0, none⟩) N cap, .int .i64 a, .int .i64 b, .int .i64 n, F] w (RetPerm (swN f a b n) N g w) := by
 go_enter Tryz.func108, Tryz.ntmps108
 go_wp2_with fail
 go_loopw [10] (fun iv wr => ∃ i : Nat, i ≤ n ∧ iv = .int .i64 i ∧ Own wr g .i64 3 (ordL (swN f a b i) N) ∧ Below g w wr)
  (fun iv _ => n - (intOf iv).toNat)
 case atStart => exact ⟨0, Nat.zero_le _, rfl, by rw [swN_zero]; exact hO, Below.refl _ _⟩
 case round =>
  clear hO
  obtain ⟨i, hi, rfl, hO, hbel⟩ := hrel
  by_cases hlt : i < n
  ·
   have hlt' : (i : Int) < n := by omega
   have hp : a + i < N := by omega
   have hq : b + i < N := by omega
   have c1 := hO.cell (a + i) (by rw [ordL_length]; exact hp)
   have c2 := hO.cell (b + i) (by rw [ordL_length]; exact hq)
   rw [ordL_get _ hp] at c1
   rw [ordL_get _ hq] at c2
   have f1 := hO.frozen (a + i)
   have f2 := hO.frozen (b + i)
   have hgl := hO.lt
   have hw1 : IntKind.i64.wrap ((a : Int) + i) = ((a + i : Nat) : Int) := by rw [IntWalk.i64_in _ (by omega)]; omega
   have hw2 : IntKind.i64.wrap ((b : Int) + i) = ((b + i : Nat) : Int) := by rw [IntWalk.i64_in _ (by omega)]; omega
   have HSW : Hid (((ordL (swN f a b i) N).set (a + i) (swN f a b i (b + i))).set (b + i) (swN f a b i (a + i)) = ordL (swN f a b (i + 1)) N) := by
    show _ = _
    rw [ordL_swp _ hp hq, swN_swp f (by omega)]
   have HO := Lib.hid hO
   have HBL := Lib.hid hbel
   have hpN : ((a + i : Nat) : Int) < N := by omega
   have hqN : ((b + i : Nat) : Int) < N := by omega
   have hp0 : (0 : Int) ≤ ((a + i : Nat) : Int) := by omega
   have hq0 : (0 : Int) ≤ ((b + i : Nat) : Int) := by omega
   generalize swN f a b i (a + i) = u at *
   generalize swN f a b i (b + i) = v at *
   generalize hpe : a + i = p at *
   generalize hqe : b + i = q at *
   go_wp2_with fail
   go_region
   go_wp2_with fail
   exact ⟨⟨i + 1, by omega, by go_num, by rw [← HSW.out]; exact ((HO.out.store p v).store q u).drew, ((HBL.out.setCell (p := ⟨g, p, none⟩) (Nat.le_refl _) _).setCell (p := ⟨g, q, none⟩) (Nat.le_refl _) _).drew⟩, meas_up hlt⟩
  ·
   obtain rfl : i = n := by omega
   go_wp2_with fail
   go_end0
   exact ⟨rfl, hO, hbel⟩

set_option maxRecDepth 100000 in
set_option maxHeartbeats 8000000 in
theorem rotate_any (N a m b : Nat) (f : Nat → Nat) (g cap : Nat) (F : Value) (w : World) (ham : a < m) (hmb : m < b) (hb : b ≤ N) (hN : N ≤ 24) (hO : Own w g .i64 3 (ordL f N)) :
  Calls Tryz.prog 89 #[.slice (some ⟨g, 0, none⟩) N cap, .int .i64 a, .int .i64 m, .int .i64 b, F] w (RetPerm (rotF f a m b) N g w) := by
 have hwi : IntKind.i64.wrap ((m : Int) - a) = ((m - a : Nat) : Int) := by rw [IntWalk.i64_in _ (by omega)]; omega
 have hwj : IntKind.i64.wrap ((b : Int) - m) = ((b - m : Nat) : Int) := by rw [IntWalk.i64_in _ (by omega)]; omega
 have h0 : Hid (rotF f (m - (m - a)) m (m + (b - m)) = rotF f a m b) := by
  show _ = _
  rw [show m - (m - a) = a by omega, show m + (b - m) = b by omega]
 have hi0 : 0 < m - a := by omega
 have hj0 : 0 < b - m := by omega
 have hi1 : m - a ≤ m := by omega
 have hj1 : m + (b - m) ≤ N := by omega
 generalize m - a = i0 at *
 generalize b - m = j0 at *
 go_enter Tryz.func89, Tryz.ntmps89
 go_wp2_with fail
 go_loopw [10, 11] (fun iv jv wr => ∃ (i j : Nat) (h : Nat → Nat), 0 < i ∧ 0 < j ∧ i ≤ m ∧ m + j ≤ N ∧ iv = .int .i64 i ∧ jv = .int .i64 j ∧ Hid (rotF h (m - i) m (m + j) = rotF f a m b) ∧ Own wr g .i64 3 (ordL h N) ∧ Below g w wr)
  (fun iv jv _ => (intOf iv).toNat + (intOf jv).toNat)
 case atStart => exact ⟨i0, j0, f, hi0, hj0, hi1, hj1, rfl, rfl, h0, hO, Below.refl _ _⟩
 case round =>
  clear hO h0 hwi hwj hi0 hj0 hi1 hj1
  obtain ⟨i, j, h, hi, hj, him, hjN, rfl, rfl, HR, hO, hbel⟩ := hrel
  have hw1 : IntKind.i64.wrap ((m : Int) - i) = ((m - i : Nat) : Int) := by rw [IntWalk.i64_in _ (by omega)]; omega
  by_cases c1 : i = j
  ·
   subst c1
   have HE := Lib.hid ((rot_eq h him).trans HR.out)
   have t1 : ((i : Int) != (i : Int)) = false := by simp
   go_wp2_with fail
   refine (swapRange_any N (m - i) m i h g cap F _ (by omega) (by omega) hN hO).mono ?_
   rintro e w1 ⟨rfl, hO1, hb1⟩
   rw [HE.out] at hO1
   go_wp2_with fail
   go_end0
   exact ⟨rfl, hO1, hbel.trans hb1⟩
  ·
   have t1 : ((i : Int) != (j : Int)) = true := by simp; omega
   by_cases c2 : j < i
   ·
    have t2 : decide ((i : Int) > j) = true := decide_eq_true (by omega)
    have HE : Hid (rotF (swN h (m - i) m j) (m - (i - j)) m (m + j) = rotF f a m b) := (rot_gt h him c2).trans HR.out
    have hw2 : IntKind.i64.wrap ((i : Int) - j) = ((i - j : Nat) : Int) := by rw [IntWalk.i64_in _ (by omega)]; omega
    clear HR
    go_wp2_with fail
    refine (swapRange_any N (m - i) m j h g cap F _ (by omega) (by omega) hN hO).mono ?_
    rintro e w1 ⟨rfl, hO1, hb1⟩
    go_wp2_with fail
    exact ⟨⟨i - j, j, swN h (m - i) m j, by omega, hj, by omega, hjN, rfl, rfl, HE, hO1, hbel.trans hb1⟩, by simp [intOf]; omega⟩
   ·
    have t2 : decide ((i : Int) > j) = false := decide_eq_false (by omega)
    have HE : Hid (rotF (swN h (m - i) (m + j - i) i) (m - i) m (m + (j - i)) = rotF f a m b) := (rot_lt h him (by omega)).trans HR.out
    have hw2 : IntKind.i64.wrap ((j : Int) - i) = ((j - i : Nat) : Int) := by rw [IntWalk.i64_in _ (by omega)]; omega
    have hw3 : IntKind.i64.wrap ((m : Int) + j) = ((m + j : Nat) : Int) := by rw [IntWalk.i64_in _ (by omega)]; omega
    have hw4 : IntKind.i64.wrap (((m + j : Nat) : Int) - i) = ((m + j - i : Nat) : Int) := by rw [IntWalk.i64_in _ (by omega)]; omega
    have hw5 : IntKind.i64.wrap ((m : Int) + j - i) = ((m + j - i : Nat) : Int) := by rw [IntWalk.i64_in _ (by omega)]; omega
    clear HR
    go_wp2_with fail
    refine (swapRange_any N (m - i) (m + j - i) i h g cap F _ (by omega) (by omega) hN hO).mono ?_
    rintro e w1 ⟨rfl, hO1, hb1⟩
    go_wp2_with fail
    exact ⟨⟨i, j - i, swN h (m - i) (m + j - i) i, hi, by omega, him, by omega, rfl, rfl, HE, hO1, hbel.trans hb1⟩, by simp [intOf]; omega⟩

end Go.Proofs.YtofijjomfhmbjaaGreat
