/- Part h of the lemmas and walks. -/
import Derived.Deep.Upon
import Derived.Laws.OwnMore
import Derived.Test.YtdjdnfjgklaneaaGa
import Derived.Test.YtdjdnfjgklaneaaGb
import Derived.Test.YtdjdnfjgklaneaaGc
import Derived.Test.YtdjdnfjgklaneaaGd
import Derived.Test.YtdjdnfjgklaneaaGe
import Derived.Test.YtdjdnfjgklaneaaGf
import Derived.Test.YtdjdnfjgklaneaaGg

/- append ONTO A ROW OF THE CALL'S OWN, of a slice that may be empty. -/
namespace Go.Proofs.Ytdjdnfjgklaneaa
open Go.RowKit

theorem LRow.capOk {w : World} {base : Nat} {e : TypeId} {size : Nat} {v : Value} {n : Nat} {xs : List Value} (h : LRow w base e size v n xs) : ∃ ao cap, v = .slice ao n cap ∧ n ≤ cap ∧ cap ≤ maxLen := by
  rcases h.1.2 with ⟨rfl, rfl⟩ | ⟨g, cap, cur, rfl, _, _, h1, h2, _⟩
  · exact ⟨none, 0, rfl, Nat.le_refl _, by unfold maxLen; omega⟩
  · exact ⟨_, _, rfl, h1, h2⟩
theorem grown_refl (w : World) (row : Option Nat) : w.grownBy w row := ⟨rfl, rfl, rfl, Nat.le_refl _, fun _ _ _ => rfl⟩
/-- An empty slice that the call itself has just made, without digits. -/
theorem LRow.lit {w : World} {base : Nat} {e : TypeId} {size : Nat} (hb : base ≤ w.heap.size) (cs : Array Value) (n : Nat) (hm : n ≤ maxLen) (hs : cs.size = n * size) (hd : ∀ u ∈ cs.toList, noDig u) :
    LRow (w.alloc (.cells cs e)) base e size (.slice (some ⟨w.heap.size, 0, none⟩) n n) n cs.toList := by
  refine ⟨⟨by simpa using hs, .inr ⟨w.heap.size, n, cs, rfl, hb, heap_alloc_new w _, Nat.le_refl _, hm, hs, List.take_of_length_le (by rw [Array.length_toList, hs]; exact Nat.le_refl _)⟩⟩, fun g hg => ?_⟩
  obtain rfl : w.heap.size = g := by simpa [Value.ownBlock] using hg
  exact NoDig.of_block (heap_alloc_new w _) hd

theorem run_append_lrow0 {P : Program} (w : World) (t ty : TypeId) (base : Nat) (e : TypeId) (i : TypeInfo) (z : Value) (size bytes : Nat) (ht : P.underlying t = some (.slice e)) (hi : P.info? e = some i) (hz : i.zero = some z)
    (hsize : i.size = size) (hby : i.bytes = bytes) (hzs : z.cells.size = size) (hsz : 0 < size) (hzd : ∀ u ∈ z.cells.toList, noDig u)
    (v : Value) (n : Nat) (xs : List Value) (hown : LRow w base e size v n xs)
    (ao : Option Addr) (m c : Nat) (news : List Value) (hl : news.length = m * size) (hnews : 0 < m → ∃ ad, ao = some ad ∧ ∀ j u, news[j]? = some u → w.cell? (ad.add j) = some u) (h1 : ∀ u ∈ news, u.oneCell' = true) (hnd : ∀ u ∈ news, noDig u)
    (h63 : n + m ≤ maxLen) (hbytes : (n + m) * bytes ≤ 140737488355328) (hbase : base ≤ w.heap.size) :
    ∃ v' w', (Builtin.append_ #[t, t] ty #[v, .slice ao m c]).run P w = .ok v' w' ∧
      LRow w' base e size v' (n + m) (xs ++ news) ∧ w.grownBy w' v.ownBlock ∧ (∀ g, v'.ownBlock = some g → v.ownBlock = some g ∨ g = w.heap.size) := by
  rcases Nat.eq_zero_or_pos m with h0 | hp
  · subst h0
    obtain rfl : news = [] := List.eq_nil_of_length_eq_zero (by omega)
    obtain ⟨ao', cap, rfl, hc1, hc2⟩ := hown.capOk
    have hs : Src P i.size t (.slice ao 0 c) 0 [] w := by
      cases ao with
      | none => exact Src.ofNil w ht c
      | some a => exact Src.ofSlice w ht a 0 c [] (by simp) (fun j u h => by simp at h) (fun u h => by simp at h)
    exact ⟨_, w, run_append_nothing w t t ty e i ht hi ao' n cap hc1 _ hs, by rw [List.append_nil]; exact hown, grown_refl _ _, fun g h => .inl h⟩
  · obtain ⟨ad, rfl, hn⟩ := hnews hp
    obtain ⟨g, cap, w', hr, h2, h3, h4⟩ := run_append_lrow (P := P) w t ty base e i z size bytes ht hi hz hsize hby hzs hsz hzd v n xs hown ad m c news hl hn h1 hnd hp h63 hbytes hbase
    exact ⟨_, w', hr, h2, h3, fun g' hg' => by
      obtain rfl : g = g' := by simpa [Value.ownBlock] using hg'
      exact h4⟩

/-- At a plain region's list. -/
theorem wpList_append_lrow0 {P : Program} (w : World) {ops : Array Oper} {rest : List Oper} {o : Oper} {a : Act} {Q : Exit → Act → World → Prop} (hgd : o.guard = none) (s x : Operand) (t : TypeId)
    (ho : o.op = .call { callee := .builtin .append, args := #[s, x], argTypes := #[t, t] })
    (base : Nat) (e : TypeId) (i : TypeInfo) (z : Value) (size bytes : Nat) (ht : P.underlying t = some (.slice e)) (hi : P.info? e = some i) (hz : i.zero = some z)
    (hsize : i.size = size) (hby : i.bytes = bytes) (hzs : z.cells.size = size) (hsz : 0 < size) (hzd : ∀ u ∈ z.cells.toList, noDig u)
    (v : Value) (n : Nat) (xs : List Value) (hs : a.eval s = v) (hown : LRow w base e size v n xs)
    (ao : Option Addr) (m c : Nat) (news : List Value) (hx : a.eval x = .slice ao m c) (hl : news.length = m * size) (hnews : 0 < m → ∃ ad, ao = some ad ∧ ∀ j u, news[j]? = some u → w.cell? (ad.add j) = some u) (h1 : ∀ u ∈ news, u.oneCell' = true) (hnd : ∀ u ∈ news, noDig u)
    (h63 : n + m ≤ maxLen) (hbytes : (n + m) * bytes ≤ 140737488355328) (hbase : base ≤ w.heap.size)
    (h : ∀ v' w', LRow w' base e size v' (n + m) (xs ++ news) → w.grownBy w' v.ownBlock → (∀ g, v'.ownBlock = some g → v.ownBlock = some g ∨ g = w.heap.size) → wpList P ops Q rest (a.put o.dst v') w') : wpList P ops Q (o :: rest) a w :=
  wpList_plain hgd fun _ hK => by
    obtain ⟨v', w', hr, h2, h3, h4⟩ := run_append_lrow0 (P := P) w t o.type base e i z size bytes ht hi hz hsize hby hzs hsz hzd v n xs hown ao m c news hl hnews h1 hnd h63 hbytes hbase
    unfold Oper.wp execOp
    simp only [ho, resolve, invoke, builtin, Sem.run_bind, Sem.run_pure, Result.andThen_ok, List.map_toArray, List.map_cons, List.map_nil, hs, hx, hr]
    exact hK _ _ (h v' w' h2 h3 h4)

end Go.Proofs.Ytdjdnfjgklaneaa

/- ARGUMENTS OF FLAT TYPES (structs and arrays of numbers, floats, Booleans, strings), opened all alike. -/
namespace Go.Proofs.Ytdjdnfjgklaneaa
open Go.ChangeShapes Go.WideShapes Go.ChangeAt Go.RowKit

inductive Leaf where
  | int (k : IntKind) | float (k : FloatKind) | bool | string
def leafOk : Leaf → Value → Prop
  | .int k, v => ∃ n, v = .int k n ∧ (Lit.int k n).wf = true
  | .float k, v => ∃ n, v = .float k n ∧ (Lit.float k n).wf = true
  | .bool, v => ∃ b, v = .bool b
  | .string, v => ∃ s : ByteArray, v = .string s ∧ s.size ≤ maxLen
def allLeaf : List Leaf → List Value → Prop
  | [], [] => True
  | l :: ls, v :: vs => leafOk l v ∧ allLeaf ls vs
  | _, _ => False
theorem allLeaf_append : ∀ {ls : List Leaf} {vs : List Value} {ls' : List Leaf} {vs' : List Value}, allLeaf ls vs → allLeaf ls' vs' → allLeaf (ls ++ ls') (vs ++ vs')
  | [], [], _, _, _, h => h
  | _ :: _, _ :: _, _, _, ⟨h1, h2⟩, h => ⟨h1, allLeaf_append h2 h⟩
theorem allLeaf_length : ∀ {ls : List Leaf} {vs : List Value}, allLeaf ls vs → vs.length = ls.length
  | [], [], _ => rfl
  | _ :: _, _ :: _, ⟨_, h⟩ => by simp [allLeaf_length h]

section
variable (P : Program)
def flatFs (fl : TypeId → Option (List Leaf)) : List Field → Nat → Option (List Leaf)
  | [], _ => some []
  | f :: fs, o => if f.offset = o then (fl f.type).bind fun l => if P.cellsOf f.type = l.length then (flatFs fl fs (o + l.length)).map (l ++ ·) else none else none
def flatN (l : List Leaf) : Nat → List Leaf
  | 0 => []
  | n + 1 => flatN l n ++ l
/-- The leaves of a flat type. -/
def flat : Nat → TypeId → Option (List Leaf)
  | 0, _ => none
  | n + 1, t => match P.underlying t with
    | some .bool => some [.bool]
    | some (.int k) => some [.int k]
    | some (.float k) => some [.float k]
    | some .string => some [.string]
    | some (.struct fs) => (flatFs P (flat n) fs.toList 0).bind fun l => if P.cellsOf t = l.length then some l else none
    | some (.array m e) => (flat n e).bind fun l => if P.cellsOf e = l.length ∧ P.cellsOf t = m * l.length then some (flatN l m) else none
    | _ => none
end
theorem flatN_length (l : List Leaf) (n : Nat) : (flatN l n).length = n * l.length := by
  induction n with
  | zero => simp [flatN]
  | succ n ih => simp [flatN, ih, Nat.succ_mul]

section
variable {H : Type} {enc : TypeId × Value → H} {P : Program} {w : World}
theorem flatFs_law (fl : TypeId → Option (List Leaf)) (n : Nat) (cs : List Value) (ih : ∀ t l cs y, fl t = some l → DataW.trod enc P w 0 (fun _ => true) true n t cs = some y → allLeaf l cs) :
    ∀ (fs : List Field) (o : Nat) (ls : List Leaf), flatFs P fl fs o = some ls → (∀ f ∈ fs, ∃ y, DataW.trod enc P w 0 (fun _ => true) true n f.type ((cs.drop f.offset).take (P.cellsOf f.type)) = some y) →
      allLeaf ls ((cs.drop o).take ls.length)
  | [], o, ls, h, _ => by
    simp [flatFs] at h
    subst h
    simp [allLeaf]
  | f :: fs, o, ls, h, hf => by
    unfold flatFs at h
    split at h
    · rename_i ho
      subst ho
      rw [Option.bind_eq_some_iff] at h
      obtain ⟨l, h1, h2⟩ := h
      split at h2
      · rename_i hc
        rw [Option.map_eq_some_iff] at h2
        obtain ⟨l2, h3, rfl⟩ := h2
        obtain ⟨y, hy⟩ := hf f (by simp)
        have a1 := ih _ _ _ _ h1 hy
        rw [hc] at a1
        have a2 := flatFs_law fl n cs ih fs _ _ h3 (fun g hg => hf g (by simp [hg]))
        rw [List.length_append, List.take_add, List.drop_drop]
        exact allLeaf_append a1 a2
      · cases h2
    · cases h
theorem trod_array {t e : TypeId} {fuel m : Nat} {cs : List Value} {x : DataW H × List MemPlace} (ht : P.underlying t = some (.array m e)) (h : DataW.trod enc P w 0 (fun _ => true) true fuel t cs = some x) :
    ∃ n, fuel = n + 1 ∧ cs.length = P.cellsOf t ∧ ∀ i, i < m → ∃ y, DataW.trod enc P w 0 (fun _ => true) true n e ((cs.drop (i * P.cellsOf e)).take (P.cellsOf e)) = some y := by
  cases fuel with
  | zero => simp [DataW.trod] at h
  | succ n =>
    unfold DataW.trod at h
    rw [ht] at h
    split at h <;> simp_all
    obtain ⟨hl, xs, hp, hd⟩ := h
    intro i hi
    have hlen := mapM_some_length hp
    have := mapM_some_get hp i i (by simp [hi])
    rw [this]
    simp at hlen
    exact ⟨xs[i].1, xs[i].2, by simp [hlen, hi]⟩
theorem flat_law : ∀ (k : Nat) (t : TypeId) (ls : List Leaf) (n : Nat) (cs : List Value) (y : DataW H × List MemPlace), flat P k t = some ls → DataW.trod enc P w 0 (fun _ => true) true n t cs = some y → allLeaf ls cs := by
  intro k
  induction k with
  | zero => intro t ls n cs y h; simp [flat] at h
  | succ k ih =>
    intro t ls n cs y h ht
    unfold flat at h
    split at h
    · rename_i hu
      obtain ⟨b, rfl, _⟩ := DataW.trod_bool hu ht
      obtain rfl : [Leaf.bool] = ls := by simpa using h
      exact ⟨⟨b, rfl⟩, trivial⟩
    · rename_i kk hu
      obtain ⟨b, rfl, _, hw⟩ := DataW.trod_int hu ht
      obtain rfl : [Leaf.int kk] = ls := by simpa using h
      exact ⟨⟨b, rfl, hw⟩, trivial⟩
    · rename_i kk hu
      obtain ⟨b, rfl, _, hw⟩ := trod_float hu ht
      obtain rfl : [Leaf.float kk] = ls := by simpa using h
      exact ⟨⟨b, rfl, hw⟩, trivial⟩
    · rename_i hu
      obtain ⟨s, rfl, _, hw⟩ := DataW.trod_string hu ht
      obtain rfl : [Leaf.string] = ls := by simpa using h
      exact ⟨⟨s, rfl, hw⟩, trivial⟩
    · rename_i fs hu
      rw [Option.bind_eq_some_iff] at h
      obtain ⟨l, h1, h2⟩ := h
      split at h2
      · rename_i hc
        obtain rfl : l = ls := by simpa using h2
        obtain ⟨xs, m, _, _, hcl, hxl, hf⟩ := DataW.trod_struct hu ht
        have := flatFs_law (enc := enc) (w := w) (flat P k) m cs (fun t l cs y a b => ih t l m cs y a b) fs.toList 0 l h1 (fun f hf' => by
          obtain ⟨i, hi, rfl⟩ := List.getElem_of_mem hf'
          simp at hi
          have e := hf i fs[i] (by simp [hi])
          exact ⟨xs[i], by simp at e ⊢; rw [e]; simp [hxl, hi]⟩)
        rw [List.drop_zero, List.take_of_length_le (by rw [hcl, hc]; exact Nat.le_refl _)] at this
        exact this
      · cases h2
    · rename_i m e hu
      rw [Option.bind_eq_some_iff] at h
      obtain ⟨l, h1, h2⟩ := h
      split at h2
      · rename_i hc
        obtain ⟨hc1, hc2⟩ := hc
        obtain rfl : flatN l m = ls := by simpa using h2
        obtain ⟨n', _, hcl, hE⟩ := trod_array hu ht
        have key : ∀ j, j ≤ m → allLeaf (flatN l j) (cs.take (j * l.length)) := by
          intro j hj
          induction j with
          | zero => simp [flatN, allLeaf]
          | succ j ihj =>
            obtain ⟨y, hy⟩ := hE j (by omega)
            have a1 := ih _ _ _ _ _ h1 hy
            rw [hc1] at a1
            rw [Nat.succ_mul, List.take_add]
            exact allLeaf_append (ihj (by omega)) a1
        have := key m (Nat.le_refl _)
        rw [List.take_of_length_le (by rw [hcl, hc2]; exact Nat.le_refl _)] at this
        exact this
      · cases h2
    · cases h

/-- An argument that is a slice of flat elements. -/
theorem open_flats {r : Reach} {b0 : Nat} {t e : TypeId} {k : Nat} {ls : List Leaf} {v : Value} {d : DataW H} {p : List MemPlace} (ht : P.underlying t = some (.slice e)) (hk : P.cellsOf e = k) (hk0 : 0 < k) (hfl : flat P 8 e = some ls)
    (hv : Value.okWide P w r b0 t v) (h : DataW.Trod enc P w 0 (fun _ => true) true t v d p) :
    ∃ ao len cap, v = .slice ao len cap ∧ len ≤ cap ∧ cap ≤ maxLen ∧ (0 < len → ∃ b off, ao = some ⟨b, off, none⟩ ∧ b < w.heap.size ∧ ∀ i, i < len → ∃ cs : List Value, cs.length = k ∧ allLeaf ls cs ∧ ∀ j, j < k → w.cell? ⟨b, off + i * k + j, none⟩ = cs[j]?) :=
  open_rows ht hk hk0 (allLeaf ls) (fun n cs y hy => flat_law 8 e ls n cs y hfl hy) hv h
/-- An argument that is a struct or an array of flat parts. -/
theorem open_flat {t : TypeId} {ls : List Leaf} {v : Value} {d : DataW H} {p : List MemPlace} (hfl : flat P 8 t = some ls) (h : DataW.Trod enc P w 0 (fun _ => true) true t v d p) : allLeaf ls v.cells.toList := by
  obtain ⟨fuel, hf⟩ := h
  exact flat_law 8 t ls fuel _ _ hfl hf
end

end Go.Proofs.Ytdjdnfjgklaneaa

/- GRAHAM: plain laws on plans: the greedy plan is accepted, no accepted plan is shorter than the bound, its jobs show it. -/
namespace Go.Proofs.Ytdjdnfjgklaneaa

/-- Finite sums. -/
def sumN (f : Nat → Int) : Nat → Int
  | 0 => 0
  | k + 1 => sumN f k + f k
theorem sumN_zero (f : Nat → Int) (n : Nat) (h : ∀ i, i < n → f i = 0) : sumN f n = 0 := by
  induction n with
  | zero => rfl
  | succ n ih => simp only [sumN]; rw [ih (fun i hi => h i (by omega)), h n (by omega)]; rfl
theorem sumN_add (f g : Nat → Int) (n : Nat) : sumN (fun i => f i + g i) n = sumN f n + sumN g n := by
  induction n with
  | zero => rfl
  | succ n ih => simp only [sumN]; rw [ih]; omega
theorem sumN_le (f g : Nat → Int) (n : Nat) (h : ∀ i, i < n → f i ≤ g i) : sumN f n ≤ sumN g n := by
  induction n with
  | zero => exact Int.le_refl _
  | succ n ih => have := ih (fun i hi => h i (by omega)); have := h n (by omega); simp only [sumN]; omega
theorem sumN_congr (f g : Nat → Int) (n : Nat) (h : ∀ i, i < n → f i = g i) : sumN f n = sumN g n :=
  Int.le_antisymm (sumN_le f g n fun i hi => by rw [h i hi]; exact Int.le_refl _) (sumN_le g f n fun i hi => by rw [h i hi]; exact Int.le_refl _)
theorem sumN_const (c : Int) (n : Nat) : sumN (fun _ => c) n = n * c := by
  induction n with
  | zero => simp [sumN]
  | succ n ih => simp only [sumN]; rw [ih]; rw [show ((n + 1 : Nat) : Int) = n + 1 by omega, Int.add_mul]; omega
theorem sumN_swap (f : Nat → Nat → Int) (m n : Nat) : sumN (fun i => sumN (fun t => f i t) n) m = sumN (fun t => sumN (fun i => f i t) m) n := by
  induction m with
  | zero => simp only [sumN]; exact (sumN_zero _ _ fun _ _ => rfl).symm
  | succ m ih => simp only [sumN]; rw [ih, ← sumN_add]
/-- At most one of them is 1. -/
theorem sumN_one (f : Nat → Bool) (n : Nat) (h : ∀ i j, i < n → j < i → f i = true → f j = true → False) : sumN (fun i => if f i = true then 1 else 0) n ≤ 1 := by
  have key : ∀ k, k ≤ n → sumN (fun i => if f i = true then 1 else 0) k ≤ 1 ∧ ((∀ j, j < k → f j = false) → sumN (fun i => if f i = true then 1 else 0) k = 0) := by
    intro k hk
    induction k with
    | zero => simp [sumN]
    | succ k ih =>
      obtain ⟨h1, h2⟩ := ih (by omega)
      simp only [sumN]
      by_cases hf : f k = true
      · have h0 := h2 (fun j hj => by
          cases hj2 : f j
          · rfl
          · exact absurd (h k j (by omega) hj hf hj2) id)
        rw [h0, if_pos hf]
        exact ⟨by omega, fun h3 => by rw [h3 k (by omega)] at hf; cases hf⟩
      · rw [if_neg hf]
        exact ⟨by omega, fun h3 => by rw [h2 (fun j hj => h3 j (by omega))]; rfl⟩
  exact (key n (Nat.le_refl _)).1
/-- The time from a on to b, counted. -/
theorem sumN_span (a b : Int) (n : Nat) (h0 : 0 ≤ a) (h1 : a ≤ b) (h2 : b ≤ n) : sumN (fun t => if a ≤ (t : Int) ∧ (t : Int) < b then 1 else 0) n = b - a := by
  have key : ∀ k : Nat, k ≤ n → sumN (fun t => if a ≤ (t : Int) ∧ (t : Int) < b then 1 else 0) k = max 0 (min (k : Int) b - a) := by
    intro k hk
    induction k with
    | zero => simp only [sumN]; omega
    | succ k ih =>
      simp only [sumN]
      rw [ih (by omega)]
      split <;> omega
  rw [key n (Nat.le_refl _)]
  omega

theorem endTo_ge (js ls : List (Int × Int)) (n : Nat) : ∀ i, i < n → (ls.getD i (0, 0)).2 + (js.getD i (0, 0)).2 ≤ endTo js ls n := by
  induction n with
  | zero => intro i hi; omega
  | succ n ih =>
    intro i hi
    simp only [endTo]
    rcases Nat.lt_or_ge i n with h | h
    · have := ih i h; omega
    · obtain rfl : i = n := by omega
      omega
theorem endTo_nonneg (js ls : List (Int × Int)) (n : Nat) : 0 ≤ endTo js ls n := by
  induction n with
  | zero => exact Int.le_refl _
  | succ n ih => simp only [endTo]; omega
theorem endTo_le (js ls : List (Int × Int)) (n : Nat) (L : Int) (h0 : 0 ≤ L) (h : ∀ i, i < n → (ls.getD i (0, 0)).2 + (js.getD i (0, 0)).2 ≤ L) : endTo js ls n ≤ L := by
  induction n with
  | zero => exact h0
  | succ n ih => have := ih (fun i hi => h i (by omega)); have := h n (by omega); simp only [endTo]; omega

/-- What an accepted plan is. -/
structure GoodPlan (js : List (Int × Int)) (n : Int) (ls : List (Int × Int)) : Prop where
  jobs : GoodJobs js n
  len : ls.length = js.length
  oven : ∀ i, i < js.length → 0 ≤ (ls.getD i (0, 0)).1 ∧ (ls.getD i (0, 0)).1 < n
  start : ∀ i, i < js.length → (js.getD i (0, 0)).1 ≤ (ls.getD i (0, 0)).2 ∧ (ls.getD i (0, 0)).2 ≤ 1073741824
  apart : ∀ i k, i < js.length → k < i → hitAt js ls i k = false
theorem hitTo_false {js ls : List (Int × Int)} {i n : Nat} (h : hitTo js ls i n = false) : ∀ k, k < n → hitAt js ls i k = false := by
  induction n with
  | zero => intro k hk; omega
  | succ n ih =>
    intro k hk
    simp only [hitTo, Bool.or_eq_false_iff] at h
    rcases Nat.lt_or_ge k n with h1 | h1
    · exact ih h.1 k h1
    · obtain rfl : k = n := by omega
      exact h.2
theorem hitTo_of {js ls : List (Int × Int)} {i n : Nat} (h : ∀ k, k < n → hitAt js ls i k = false) : hitTo js ls i n = false := by
  induction n with
  | zero => rfl
  | succ n ih => simp only [hitTo]; rw [ih (fun k hk => h k (by omega)), h n (by omega)]; rfl
theorem goodPlan_of {js : List (Int × Int)} {n : Int} {ls : List (Int × Int)} (h : planErr js n ls = 0) : GoodPlan js n ls := by
  unfold planErr at h
  split at h
  · omega
  · rename_i h1
    split at h
    · omega
    · rename_i h2
      have hl : ls.length = js.length := by omega
      have hj : jobsErr js n = 0 := by omega
      have ha := firstErr_all h
      have hs : ∀ i, i < js.length → ((0 ≤ (ls.getD i (0, 0)).1 ∧ (ls.getD i (0, 0)).1 < n) ∧ ((js.getD i (0, 0)).1 ≤ (ls.getD i (0, 0)).2 ∧ (ls.getD i (0, 0)).2 ≤ 1073741824)) ∧ hitTo js ls i i = false := by
        intro i hi
        have h3 := ha i (by omega)
        unfold slotErr at h3
        split at h3
        · omega
        · rename_i h4
          split at h3
          · omega
          · rename_i h5
            split at h3
            · omega
            · rename_i h6
              have ht : timeB (ls.getD i (0, 0)).2 = true := by
                cases h7 : timeB (ls.getD i (0, 0)).2
                · exact absurd (.inr (.inr h7)) h4
                · rfl
              have := timeB_spec ht
              have h8 : 0 ≤ (ls.getD i (0, 0)).1 ∧ (ls.getD i (0, 0)).1 < n := by
                constructor
                · rcases Int.lt_or_le (ls.getD i (0, 0)).1 0 with h9 | h9
                  · exact absurd (.inl h9) h4
                  · exact h9
                · rcases Int.lt_or_le (ls.getD i (0, 0)).1 n with h9 | h9
                  · exact h9
                  · exact absurd (.inr (.inl h9)) h4
              exact ⟨⟨h8, by omega, by omega⟩, by simpa using h6⟩
      exact ⟨jobs_ok hj, hl, fun i hi => (hs i hi).1.1, fun i hi => (hs i hi).1.2, fun i k hi hk => hitTo_false (hs i hi).2 k hk⟩
theorem planErr_of {js : List (Int × Int)} {n : Int} {ls : List (Int × Int)} (h0 : jobsErr js n = 0) (hl : ls.length = js.length)
    (oven : ∀ i, i < js.length → 0 ≤ (ls.getD i (0, 0)).1 ∧ (ls.getD i (0, 0)).1 < n)
    (start : ∀ i, i < js.length → 0 ≤ (ls.getD i (0, 0)).2 ∧ (js.getD i (0, 0)).1 ≤ (ls.getD i (0, 0)).2 ∧ (ls.getD i (0, 0)).2 ≤ 1073741824)
    (apart : ∀ i k, i < js.length → k < i → hitAt js ls i k = false) : planErr js n ls = 0 := by
  unfold planErr
  rw [if_neg (by omega), if_neg (by omega)]
  have key : ∀ k, k ≤ js.length → firstErr (slotErr js n ls) k = 0 := by
    intro k hk
    induction k with
    | zero => rfl
    | succ k ih =>
      rw [firstErr_step (ih (by omega))]
      unfold slotErr
      have ho := oven k (by omega)
      have hs := start k (by omega)
      have ht : timeB (ls.getD k (0, 0)).2 = true := by unfold timeB; rw [decide_eq_true hs.1, decide_eq_true hs.2.2]; rfl
      rw [if_neg (by rw [ht]; intro h; rcases h with h | h | h; · omega
                     · omega
                     · cases h), if_neg (by omega), hitTo_of (fun j hj => apart k j (by omega) hj)]
      rfl
  rw [hl]
  exact key _ (Nat.le_refl _)

/-- Job i of those that are not ready ahead of r is done at minute t in oven o. -/
def doneAt (js ls : List (Int × Int)) (r : Int) (o i t : Nat) : Bool :=
  decide ((ls.getD i (0, 0)).1 = o) && decide (r ≤ (js.getD i (0, 0)).1) && decide ((ls.getD i (0, 0)).2 ≤ t) && decide ((t : Int) < (ls.getD i (0, 0)).2 + (js.getD i (0, 0)).2)
theorem doneAt_one {js ls : List (Int × Int)} {n : Int} (hp : GoodPlan js n ls) (r : Int) (o t : Nat) : sumN (fun i => if doneAt js ls r o i t = true then 1 else 0) js.length ≤ 1 := by
  refine sumN_one (fun i => doneAt js ls r o i t) _ fun i j hi hj h1 h2 => ?_
  have h3 := hp.apart i j hi hj
  simp only [doneAt, Bool.and_eq_true, decide_eq_true_eq] at h1 h2
  have : hitAt js ls i j = true := by
    simp only [hitAt, hitB, Bool.and_eq_true, decide_eq_true_eq]
    omega
  rw [this] at h3
  cases h3
theorem sumFrom_sumN (js : List (Int × Int)) (r : Int) (k : Nat) : sumFrom js r k = sumN (fun i => if r ≤ (js.getD i (0, 0)).1 then (js.getD i (0, 0)).2 else 0) k := by
  induction k with
  | zero => rfl
  | succ k ih =>
    simp only [sumFrom, sumN]
    split <;> omega
theorem sumN_pick (x : Int) (c : Int) (n : Nat) (h0 : 0 ≤ x) (h1 : x < n) : sumN (fun o => if x = (o : Int) then c else 0) n = c := by
  have key : ∀ k : Nat, k ≤ n → sumN (fun o => if x = (o : Int) then c else 0) k = if x < k then c else 0 := by
    intro k hk
    induction k with
    | zero => simp only [sumN]; rw [if_neg (by omega)]
    | succ k ih =>
      simp only [sumN]
      rw [ih (by omega)]
      by_cases h2 : x < (k : Int)
      · rw [if_pos h2, if_neg (by omega), if_pos (by omega)]; omega
      · by_cases h3 : x = (k : Int)
        · rw [if_neg h2, if_pos h3, if_pos (by omega)]; omega
        · rw [if_neg h2, if_neg h3, if_neg (by omega)]; rfl
  rw [key n (Nat.le_refl _), if_pos h1]
/-- What is not ready ahead of r fits between r and the end. -/
theorem sum_fits {js ls : List (Int × Int)} {n : Nat} (hp : GoodPlan js n ls) (r : Int) (h0 : 0 ≤ r) (hr : r ≤ endTo js ls js.length) : sumFrom js r js.length ≤ n * (endTo js ls js.length - r) := by
  have hL := endTo_nonneg js ls js.length
  have hge := endTo_ge js ls js.length
  generalize endTo js ls js.length = L at *
  obtain ⟨T, rfl⟩ : ∃ T : Nat, L = T := ⟨L.toNat, by omega⟩
  have e1 : sumFrom js r js.length = sumN (fun i => sumN (fun t => sumN (fun o => if doneAt js ls r o i t = true then 1 else 0) n) T) js.length := by
    rw [sumFrom_sumN]
    refine sumN_congr _ _ _ fun i hi => ?_
    have hj := hp.jobs.job i hi
    have hs := hp.start i hi
    have ho := hp.oven i hi
    have hg := hge i hi
    have e2 : ∀ t : Nat, sumN (fun o => if doneAt js ls r o i t = true then 1 else 0) n = if r ≤ (js.getD i (0, 0)).1 ∧ ((ls.getD i (0, 0)).2 ≤ (t : Int) ∧ (t : Int) < (ls.getD i (0, 0)).2 + (js.getD i (0, 0)).2) then 1 else 0 := by
      intro t
      by_cases hc : r ≤ (js.getD i (0, 0)).1 ∧ ((ls.getD i (0, 0)).2 ≤ (t : Int) ∧ (t : Int) < (ls.getD i (0, 0)).2 + (js.getD i (0, 0)).2)
      · rw [if_pos hc]
        rw [sumN_congr _ (fun o => if (ls.getD i (0, 0)).1 = (o : Int) then 1 else 0) n (fun o _ => by
          by_cases h1 : (ls.getD i (0, 0)).1 = (o : Int)
          · rw [if_pos h1, if_pos (by simp only [doneAt, Bool.and_eq_true, decide_eq_true_eq]; omega)]
          · rw [if_neg h1, if_neg (by simp only [doneAt, Bool.and_eq_true, decide_eq_true_eq]; omega)])]
        exact sumN_pick _ _ _ ho.1 ho.2
      · rw [if_neg hc]
        refine sumN_zero _ _ fun o _ => ?_
        rw [if_neg (by simp only [doneAt, Bool.and_eq_true, decide_eq_true_eq]; omega)]
    rw [sumN_congr _ _ T (fun t _ => e2 t)]
    by_cases hc : r ≤ (js.getD i (0, 0)).1
    · rw [if_pos hc]
      rw [sumN_congr _ (fun t => if (ls.getD i (0, 0)).2 ≤ (t : Int) ∧ (t : Int) < (ls.getD i (0, 0)).2 + (js.getD i (0, 0)).2 then 1 else 0) T (fun t _ => by
        by_cases h1 : (ls.getD i (0, 0)).2 ≤ (t : Int) ∧ (t : Int) < (ls.getD i (0, 0)).2 + (js.getD i (0, 0)).2
        · rw [if_pos h1, if_pos ⟨hc, h1⟩]
        · rw [if_neg h1, if_neg (fun h => h1 h.2)])]
      rw [sumN_span _ _ _ (by omega) (by omega) (by omega)]
      omega
    · rw [if_neg hc]
      exact (sumN_zero _ _ fun t _ => if_neg fun h => hc h.1).symm
  rw [e1, sumN_swap]
  have e3 : ∀ t, t < T → sumN (fun i => sumN (fun o => if doneAt js ls r o i t = true then 1 else 0) n) js.length ≤ if r ≤ (t : Int) ∧ (t : Int) < (T : Int) then (n : Int) else 0 := by
    intro t ht
    rw [sumN_swap]
    by_cases hc : r ≤ (t : Int)
    · rw [if_pos ⟨hc, by omega⟩]
      refine Int.le_trans (sumN_le _ (fun _ => 1) n fun o _ => doneAt_one hp r o t) ?_
      rw [sumN_const]; omega
    · rw [if_neg (fun h => hc h.1), sumN_zero]
      · exact Int.le_refl _
      · intro o _
        refine sumN_zero _ _ fun i hi => ?_
        have hs := hp.start i hi
        rw [if_neg (by simp only [doneAt, Bool.and_eq_true, decide_eq_true_eq]; omega)]
  refine Int.le_trans (sumN_le _ _ T e3) ?_
  have e4 := sumN_span r T T h0 hr (Int.le_refl _)
  have e5 : ∀ k : Nat, sumN (fun t => if r ≤ (t : Int) ∧ (t : Int) < (T : Int) then (n : Int) else 0) k = n * sumN (fun t => if r ≤ (t : Int) ∧ (t : Int) < (T : Int) then 1 else 0) k := by
    intro k
    induction k with
    | zero => simp [sumN]
    | succ k ih =>
      simp only [sumN]
      rw [ih, Int.mul_add]
      split <;> omega
  rw [e5, e4]
  exact Int.le_refl _
/-- The bound by the jobs from r on. -/
theorem timeFrom_fits {js ls : List (Int × Int)} {n : Int} (hp : GoodPlan js n ls) (i : Nat) (hi : i < js.length) : timeFrom js n (js.getD i (0, 0)).1 ≤ endTo js ls js.length := by
  have h1 := hp.jobs.o1
  have hj := hp.jobs.job i hi
  have hs := hp.start i hi
  have hg := endTo_ge js ls js.length i hi
  obtain ⟨m, rfl⟩ : ∃ m : Nat, n = m := ⟨n.toNat, by omega⟩
  have hf := sum_fits hp (js.getD i (0, 0)).1 hj.1 (by omega)
  generalize (js.getD i (0, 0)).1 = r at *
  unfold timeFrom
  generalize sumFrom js r js.length = s at *
  generalize endTo js ls js.length = L at *
  have hm : (0 : Int) < m := by omega
  have : (s + m - 1) / (m : Int) < L - r + 1 := by
    rw [Int.ediv_lt_iff_lt_mul hm, Int.add_mul, Int.mul_comm]
    omega
  omega
theorem bestTo_fits {js ls : List (Int × Int)} {n : Int} (hp : GoodPlan js n ls) (k : Nat) (hk : k ≤ js.length) : (bestTo js n k).1 ≤ endTo js ls js.length := by
  induction k with
  | zero => have := endTo_nonneg js ls js.length; simp only [bestTo]; omega
  | succ k ih =>
    simp only [bestTo]
    split
    · exact timeFrom_fits hp k (by omega)
    · exact ih (by omega)
theorem topTo_fits {js ls : List (Int × Int)} {n : Int} (hp : GoodPlan js n ls) (k : Nat) (hk : k ≤ js.length) : (topTo js n k).1 ≤ endTo js ls js.length := by
  induction k with
  | zero => exact bestTo_fits hp _ (Nat.le_refl _)
  | succ k ih =>
    simp only [topTo]
    split
    · have := hp.start k (by omega)
      have := endTo_ge js ls js.length k (by omega)
      dsimp only
      omega
    · exact ih (by omega)
/-- No accepted plan is shorter than the bound. -/
theorem bound_fits {js ls : List (Int × Int)} {n : Int} (h : planErr js n ls = 0) : boundN js n ≤ endTo js ls ls.length := by
  have hp := goodPlan_of h
  have h1 := topTo_fits hp _ (Nat.le_refl _)
  have h2 := endTo_nonneg js ls js.length
  rw [hp.len]
  unfold boundN
  split
  · omega
  · exact h2

/-! ### The greedy plan -/
theorem getD_set' (l : List Nat) (b x k : Nat) : (l.set b x).getD k 0 = if k = b ∧ b < l.length then x else l.getD k 0 := by
  simp only [List.getD, List.getElem?_set]
  by_cases h : b = k
  · subst h
    by_cases h2 : b < l.length
    · simp [h2]
    · simp [h2]
  · have h2 : ¬ k = b := fun e => h e.symm
    simp [h, h2]
theorem planTo_get (js : List (Int × Int)) (n : Nat) (m i : Nat) (hi : i < m) : (planTo js n m).getD i (0, 0) = (((bestIx (freeTo js n i) n : Nat) : Int), ((max ((freeTo js n i).getD (bestIx (freeTo js n i) n) 0) (js.getD i (0, 0)).1.toNat : Nat) : Int)) := by
  induction m with
  | zero => omega
  | succ m ih =>
    have hl := planTo_length js n m
    simp only [planTo]
    rcases Nat.lt_or_ge i m with h | h
    · rw [← ih h]
      simp [List.getD, List.getElem?_append_left (by omega : i < (planTo js n m).length)]
    · obtain rfl : i = m := by omega
      simp [List.getD, List.getElem?_append_right (by omega : (planTo js n i).length ≤ i), hl]
/-- Each oven is free behind the end of each of its jobs. -/
theorem free_behind {js : List (Int × Int)} (n : Nat) (hn : 0 < n) (m i : Nat) (him : i < m) :
    max ((freeTo js n i).getD (bestIx (freeTo js n i) n) 0) (js.getD i (0, 0)).1.toNat + (js.getD i (0, 0)).2.toNat ≤ (freeTo js n m).getD (bestIx (freeTo js n i) n) 0 := by
  induction m with
  | zero => omega
  | succ m ih =>
    have hl := freeTo_length js n m
    have hb := bestIx_le (freeTo js n m) n n (Nat.le_refl _) hn
    simp only [freeTo]
    rw [getD_set']
    rcases Nat.lt_or_ge i m with h | h
    · have := ih h
      split
      · rename_i h2
        rw [h2.1] at this ⊢
        generalize (freeTo js n m).getD (bestIx (freeTo js n m) n) 0 = A at *
        generalize (js.getD i (0, 0)).1.toNat = B at *
        generalize (js.getD m (0, 0)).1.toNat = C at *
        omega
      · exact this
    · obtain rfl : i = m := by omega
      rw [if_pos ⟨rfl, by omega⟩]
      exact Nat.le_refl _
theorem greedy_good {js : List (Int × Int)} {n : Int} (h : jobsErr js n = 0) : planErr js n (greedyL js n) = 0 := by
  have hg := jobs_ok h
  have h1 := hg.o1
  have hlen := hg.len
  obtain ⟨m, rfl⟩ : ∃ m : Nat, n = m := ⟨n.toNat, by omega⟩
  have hm : 0 < m := by omega
  have e : greedyL js m = planTo js m js.length := by unfold greedyL; rw [if_pos h, Int.toNat_natCast]
  rw [e]
  refine planErr_of h (planTo_length _ _ _) (fun i hi => ?_) (fun i hi => ?_) (fun i k hi hk => ?_)
  · rw [planTo_get _ _ _ _ hi]
    have := bestIx_le (freeTo js m i) m m (Nat.le_refl _) hm
    dsimp only
    omega
  · rw [planTo_get _ _ _ _ hi]
    have h3 := hg.job i hi
    have h4 := freeTo_le hg m i (by omega) (bestIx (freeTo js m i) m)
    dsimp only
    have : 2000000 * i ≤ 2000000 * 64 := Nat.mul_le_mul_left _ (by omega)
    omega
  · have e1 := planTo_get js m js.length i hi
    have e2 := planTo_get js m js.length k (by omega)
    unfold hitAt
    rw [e1, e2]
    unfold hitB
    dsimp only
    have h5 := free_behind (js := js) m hm i k hk
    have h6 := hg.job i hi
    have h7 := hg.job k (by omega)
    by_cases hc : bestIx (freeTo js m i) m = bestIx (freeTo js m k) m
    · rw [hc]
      rw [hc] at e1
      generalize bestIx (freeTo js m k) m = b at *
      have : decide (((max ((freeTo js m i).getD b 0) (js.getD i (0, 0)).1.toNat : Nat) : Int) < ((max ((freeTo js m k).getD b 0) (js.getD k (0, 0)).1.toNat : Nat) : Int) + (js.getD k (0, 0)).2) = false := decide_eq_false (by omega)
      rw [this]
      simp
    · have : decide (((bestIx (freeTo js m i) m : Nat) : Int) = ((bestIx (freeTo js m k) m : Nat) : Int)) = false := decide_eq_false (by omega)
      rw [this]
      simp
/-- The sum of a list's first k. -/
def sumL (l : List Nat) : Nat → Nat
  | 0 => 0
  | k + 1 => sumL l k + l.getD k 0
theorem sumL_set (l : List Nat) (b x : Nat) (k : Nat) (hb : b < l.length) : (b < k → sumL (l.set b x) k + l.getD b 0 = sumL l k + x) ∧ (k ≤ b → sumL (l.set b x) k = sumL l k) := by
  induction k with
  | zero => exact ⟨fun h => by omega, fun _ => rfl⟩
  | succ k ih =>
    simp only [sumL]
    rw [getD_set']
    constructor
    · intro h
      rcases Nat.lt_or_ge b k with h1 | h1
      · have := ih.1 h1
        rw [if_neg (by omega)]
        omega
      · have := ih.2 h1
        obtain rfl : b = k := by omega
        rw [if_pos ⟨rfl, hb⟩]
        omega
    · intro h
      have := ih.2 (by omega)
      rw [if_neg (by omega)]
      omega
theorem bestIx_min (fr : List Nat) (k : Nat) : ∀ j, j < k → fr.getD (bestIx fr k) 0 ≤ fr.getD j 0 := by
  induction k with
  | zero => intro j hj; omega
  | succ k ih =>
    intro j hj
    unfold bestIx
    rcases Nat.lt_or_ge j k with h | h
    · have := ih j h
      split <;> omega
    · obtain rfl : j = k := by omega
      split <;> omega
theorem sumL_min (fr : List Nat) (x : Nat) (k : Nat) (h : ∀ j, j < k → x ≤ fr.getD j 0) : k * x ≤ sumL fr k := by
  induction k with
  | zero => simp [sumL]
  | succ k ih =>
    have := ih (fun j hj => h j (by omega))
    have := h k (by omega)
    simp only [sumL]
    rw [Nat.succ_mul]
    omega
/-- The sum, and the greatest one, of the minutes of the first k. -/
def minSum (js : List (Int × Int)) : Nat → Int
  | 0 => 0
  | k + 1 => minSum js k + (js.getD k (0, 0)).2
def minMost (js : List (Int × Int)) : Nat → Int
  | 0 => 0
  | k + 1 => max (minMost js k) (js.getD k (0, 0)).2
theorem minMost_ge (js : List (Int × Int)) (k : Nat) : 0 ≤ minMost js k ∧ ∀ i, i < k → (js.getD i (0, 0)).2 ≤ minMost js k := by
  induction k with
  | zero => exact ⟨Int.le_refl _, fun i hi => by omega⟩
  | succ k ih =>
    simp only [minMost]
    refine ⟨by omega, fun i hi => ?_⟩
    rcases Nat.lt_or_ge i k with h | h
    · have := ih.2 i h; omega
    · obtain rfl : i = k := by omega
      omega
theorem minSum_mono {js : List (Int × Int)} {n : Int} (hg : GoodJobs js n) (i m : Nat) (him : i ≤ m) (hm : m ≤ js.length) : minSum js i ≤ minSum js m := by
  induction m with
  | zero => obtain rfl : i = 0 := by omega
            exact Int.le_refl _
  | succ m ih =>
    rcases Nat.lt_or_ge i (m + 1) with h | h
    · have := ih (by omega) (by omega)
      have := hg.job m (by omega)
      simp only [minSum]
      omega
    · obtain rfl : i = m + 1 := by omega
      exact Int.le_refl _
theorem free_sum {js : List (Int × Int)} {n : Int} (hg : GoodJobs js n) (h0 : ∀ i, i < js.length → (js.getD i (0, 0)).1 = 0) (m : Nat) (hm : 0 < m) (i : Nat) (hi : i ≤ js.length) : (sumL (freeTo js m i) m : Int) = minSum js i := by
  induction i with
  | zero =>
    have : ∀ k, sumL (List.replicate m 0) k = 0 := by
      intro k
      induction k with
      | zero => rfl
      | succ k ih =>
        simp only [sumL]
        rw [ih]
        simp only [List.getD, List.getElem?_replicate]
        split <;> simp
    simp only [freeTo, minSum]
    rw [this]
    rfl
  | succ i ih =>
    have h1 := ih (by omega)
    have hl := freeTo_length js m i
    have hb := bestIx_le (freeTo js m i) m m (Nat.le_refl _) hm
    have hj := hg.job i (by omega)
    have h2 := (sumL_set (freeTo js m i) (bestIx (freeTo js m i) m) (max ((freeTo js m i).getD (bestIx (freeTo js m i) m) 0) (js.getD i (0, 0)).1.toNat + (js.getD i (0, 0)).2.toNat) m (by omega)).1 hb
    have h3 := h0 i (by omega)
    simp only [freeTo, minSum]
    rw [h3] at h2 ⊢
    generalize (freeTo js m i).getD (bestIx (freeTo js m i) m) 0 = f at *
    omega
/-- Graham's bound. -/
theorem graham {js : List (Int × Int)} {n : Int} (h : jobsErr js n = 0) (h0 : ∀ i, i < js.length → (js.getD i (0, 0)).1 = 0) :
    n * endTo js (greedyL js n) (greedyL js n).length ≤ minSum js js.length + (n - 1) * minMost js js.length := by
  have hg := jobs_ok h
  have h1 := hg.o1
  obtain ⟨m, rfl⟩ : ∃ m : Nat, n = m := ⟨n.toNat, by omega⟩
  have hm : 0 < m := by omega
  have e : greedyL js m = planTo js m js.length := by unfold greedyL; rw [if_pos h, Int.toNat_natCast]
  rw [e, planTo_length]
  obtain ⟨hM0, hM⟩ := minMost_ge js js.length
  have hS0 := minSum_mono hg 0 js.length (by omega) (Nat.le_refl _)
  have hS00 : minSum js 0 = 0 := rfl
  have hnn : 0 ≤ ((m : Int) - 1) * minMost js js.length := Int.mul_nonneg (by omega) hM0
  have key : ∀ i, i < js.length → (m : Int) * (((planTo js m js.length).getD i (0, 0)).2 + (js.getD i (0, 0)).2) ≤ minSum js js.length + (m - 1) * minMost js js.length := by
    intro i hi
    rw [planTo_get _ _ _ _ hi, h0 i hi]
    have h2 := free_sum hg h0 m hm i (by omega)
    have h3 := sumL_min (freeTo js m i) _ m (bestIx_min (freeTo js m i) m)
    have h4 := minSum_mono hg (i + 1) js.length (by omega) (Nat.le_refl _)
    have h5 := hM i hi
    have h6 : minSum js (i + 1) = minSum js i + (js.getD i (0, 0)).2 := rfl
    have hj := hg.job i hi
    generalize (freeTo js m i).getD (bestIx (freeTo js m i) m) 0 = f at *
    generalize (js.getD i (0, 0)).2 = q at *
    dsimp only
    have h7 : (m : Int) * f ≤ minSum js i := by rw [← h2]; exact_mod_cast h3
    have h8 : ((m : Int) - 1) * q ≤ (m - 1) * minMost js js.length := Int.mul_le_mul_of_nonneg_left h5 (by omega)
    have h9 : ((max f (Int.toNat 0) : Nat) : Int) = f := by simp
    rw [h9, Int.mul_add]
    generalize hX : ((m : Int) - 1) * minMost js js.length = X at *
    rw [Int.sub_mul] at h8
    omega
  have hL := endTo_le js (planTo js m js.length) js.length ((minSum js js.length + (m - 1) * minMost js js.length) / m) (Int.ediv_nonneg (by omega) (by omega)) (fun i hi => by
    rw [Int.le_ediv_iff_mul_le (by omega), Int.mul_comm]
    exact key i hi)
  have := Int.mul_le_mul_of_nonneg_left hL (show (0 : Int) ≤ m by omega)
  have h10 := Int.mul_ediv_self_le (x := minSum js js.length + (m - 1) * minMost js js.length) (k := (m : Int)) (by omega)
  omega
/-! ### The jobs that show the bound -/
theorem bestTo_is {js : List (Int × Int)} {n : Int} (hg : GoodJobs js n) (k : Nat) (hk : k ≤ js.length) (h0 : 0 < k) : ∃ i, i < k ∧ (bestTo js n k).2 = (js.getD i (0, 0)).1 ∧ (bestTo js n k).1 = timeFrom js n (js.getD i (0, 0)).1 := by
  induction k with
  | zero => omega
  | succ k ih =>
    have hj := hg.job k (by omega)
    have ht := timeFrom_range hg hj.1 hj.2.1
    simp only [bestTo]
    split
    · exact ⟨k, by omega, rfl, rfl⟩
    · rename_i h
      rcases Nat.eq_zero_or_pos k with h1 | h1
      · subst h1
        exact absurd (.inl (by simp only [bestTo]; omega)) h
      · obtain ⟨i, hi, h2⟩ := ih (by omega) h1
        exact ⟨i, by omega, h2⟩
/-- Ascending, and of jobs that there are. -/
def Shows (l : List Nat) (n : Nat) : Prop := ∀ i, i < l.length → l.getD i 0 < n ∧ (0 < i → l.getD (i - 1) 0 < l.getD i 0)
theorem idxFrom_shows (js : List (Int × Int)) (r : Int) (k : Nat) : Shows (idxFrom js r k) k := by
  induction k with
  | zero => intro i hi; simp [idxFrom] at hi
  | succ k ih =>
    unfold idxFrom
    split
    · intro i hi
      simp at hi
      have hget : ∀ j, (idxFrom js r k ++ [k]).getD j 0 = if j < (idxFrom js r k).length then (idxFrom js r k).getD j 0 else if j = (idxFrom js r k).length then k else 0 := by
        intro j
        simp only [List.getD, List.getElem?_append]
        split
        · rfl
        · by_cases h : j = (idxFrom js r k).length
          · simp [h]
          · have : j - (idxFrom js r k).length ≠ 0 := by omega
            rw [if_neg h]
            obtain ⟨m, hm⟩ : ∃ m, j - (idxFrom js r k).length = m + 1 := ⟨j - (idxFrom js r k).length - 1, by omega⟩
            rw [hm]
            rfl
      rw [hget, hget]
      rcases Nat.lt_or_ge i (idxFrom js r k).length with h | h
      · have := ih i h
        rw [if_pos h, if_pos (by omega)]
        exact ⟨by omega, this.2⟩
      · have : i = (idxFrom js r k).length := by omega
        rw [if_neg (by omega), if_pos this]
        refine ⟨by omega, fun h0 => ?_⟩
        rw [if_pos (by omega)]
        exact (ih (i - 1) (by omega)).1
    · intro i hi
      have := ih i hi
      exact ⟨by omega, this.2⟩
/-- The least time at which one of the first i shown is ready, and the sum of their minutes. -/
def leastTo (js : List (Int × Int)) (l : List Nat) : Nat → Int
  | 0 => 0
  | i + 1 => if i = 0 ∨ (js.getD (l.getD i 0) (0, 0)).1 < leastTo js l i then (js.getD (l.getD i 0) (0, 0)).1 else leastTo js l i
def minutesTo (js : List (Int × Int)) (l : List Nat) : Nat → Int
  | 0 => 0
  | i + 1 => minutesTo js l i + (js.getD (l.getD i 0) (0, 0)).2
theorem leastTo_ge (js : List (Int × Int)) (l : List Nat) (r : Int) (k : Nat) (h0 : 0 < k) (h : ∀ i, i < k → r ≤ (js.getD (l.getD i 0) (0, 0)).1) : r ≤ leastTo js l k := by
  induction k with
  | zero => omega
  | succ k ih =>
    simp only [leastTo]
    have hk := h k (by omega)
    split
    · exact hk
    · rename_i h1
      exact ih (by omega) (fun i hi => h i (by omega))
theorem minutesTo_app (js : List (Int × Int)) (l : List Nat) (x : Nat) (k : Nat) (hk : k ≤ l.length) : minutesTo js (l ++ [x]) k = minutesTo js l k := by
  induction k with
  | zero => rfl
  | succ k ih =>
    simp only [minutesTo]
    rw [ih (by omega)]
    have : (l ++ [x]).getD k 0 = l.getD k 0 := by simp [List.getD, List.getElem?_append_left (by omega : k < l.length)]
    rw [this]
theorem minutesTo_idx (js : List (Int × Int)) (r : Int) (k : Nat) : minutesTo js (idxFrom js r k) (idxFrom js r k).length = sumFrom js r k := by
  induction k with
  | zero => rfl
  | succ k ih =>
    unfold idxFrom sumFrom
    split
    · rw [List.length_append]
      show minutesTo js _ ((idxFrom js r k).length + 1) = _
      simp only [minutesTo]
      rw [minutesTo_app _ _ _ _ (Nat.le_refl _), ih]
      have : (idxFrom js r k ++ [k]).getD (idxFrom js r k).length 0 = k := by simp [List.getD]
      rw [this]
    · exact ih
theorem idxFrom_ready (js : List (Int × Int)) (r : Int) (k : Nat) : ∀ i, i < (idxFrom js r k).length → r ≤ (js.getD ((idxFrom js r k).getD i 0) (0, 0)).1 := by
  induction k with
  | zero => intro i hi; simp [idxFrom] at hi
  | succ k ih =>
    unfold idxFrom
    split
    · rename_i h
      intro i hi
      simp at hi
      rcases Nat.lt_or_ge i (idxFrom js r k).length with h1 | h1
      · have : (idxFrom js r k ++ [k]).getD i 0 = (idxFrom js r k).getD i 0 := by simp [List.getD, List.getElem?_append_left h1]
        rw [this]
        exact ih i h1
      · have e : i = (idxFrom js r k).length := by omega
        have : (idxFrom js r k ++ [k]).getD i 0 = k := by subst e; simp [List.getD]
        rw [this]
        exact h
    · exact ih
theorem idxFrom_pos (js : List (Int × Int)) (r : Int) (k i : Nat) (hi : i < k) (h : r ≤ (js.getD i (0, 0)).1) : 0 < (idxFrom js r k).length := by
  induction k with
  | zero => omega
  | succ k ih =>
    unfold idxFrom
    split
    · simp
    · rename_i h1
      rcases Nat.lt_or_ge i k with h2 | h2
      · exact ih h2
      · obtain rfl : i = k := by omega
        exact absurd h h1
/-- The job that stands alone. -/
theorem topTo_is (js : List (Int × Int)) (n : Int) (k : Nat) : ((topTo js n k).2 = none ∧ (topTo js n k).1 = (bestTo js n js.length).1) ∨ ∃ i, i < k ∧ (topTo js n k).2 = some i ∧ (topTo js n k).1 = (js.getD i (0, 0)).1 + (js.getD i (0, 0)).2 := by
  induction k with
  | zero => exact .inl ⟨rfl, rfl⟩
  | succ k ih =>
    simp only [topTo]
    split
    · exact .inr ⟨k, by omega, rfl, rfl⟩
    · rcases ih with h | ⟨i, hi, h⟩
      · exact .inl h
      · exact .inr ⟨i, by omega, h⟩
/-- The jobs show the bound. -/
theorem bound_shown {js : List (Int × Int)} {n : Int} (h : jobsErr js n = 0) : Shows (boundL js n) js.length ∧ (boundN js n ≤ leastTo js (boundL js n) (boundL js n).length + (minutesTo js (boundL js n) (boundL js n).length + n - 1) / n ∨ (boundL js n).length = 1 ∧ leastTo js (boundL js n) (boundL js n).length + minutesTo js (boundL js n) (boundL js n).length = boundN js n) := by
  have hg := jobs_ok h
  have h1 := hg.o1
  have eN : boundN js n = max (topTo js n js.length).1 0 := by unfold boundN; rw [if_pos h]
  have eL : boundL js n = shownBy js n (topTo js n js.length).2 := by unfold boundL; rw [if_pos h]
  rw [eN, eL]
  rcases topTo_is js n js.length with ⟨e1, e2⟩ | ⟨i, hi, e1, e2⟩
  · rw [e1, e2]
    unfold shownBy proofTo
    dsimp only
    rcases Nat.eq_zero_or_pos js.length with h0 | h0
    · rw [if_pos h0]
      refine ⟨fun i hi => by simp at hi, .inl ?_⟩
      rw [h0]
      simp only [bestTo, List.length_nil, leastTo, minutesTo]
      have := Int.ediv_nonneg (show 0 ≤ 0 + n - 1 by omega) (show 0 ≤ n by omega)
      omega
    · rw [if_neg (by omega)]
      obtain ⟨i, hi, e3, e4⟩ := bestTo_is hg js.length (Nat.le_refl _) h0
      have hj := hg.job i hi
      have ht := timeFrom_range hg hj.1 hj.2.1
      rw [e3, e4]
      refine ⟨idxFrom_shows _ _ _, .inl ?_⟩
      have h2 := leastTo_ge js (idxFrom js (js.getD i (0, 0)).1 js.length) (js.getD i (0, 0)).1 _ (idxFrom_pos js _ js.length i hi (Int.le_refl _)) (idxFrom_ready js _ _)
      rw [minutesTo_idx]
      unfold timeFrom at *
      omega
  · rw [e1, e2]
    unfold shownBy
    dsimp only
    have hj := hg.job i hi
    refine ⟨fun k hk => ?_, .inr ⟨rfl, ?_⟩⟩
    · have : k = 0 := by simp at hk; exact hk
      subst this
      exact ⟨hi, fun h => by omega⟩
    · show leastTo js [i] 1 + minutesTo js [i] 1 = _
      have e3 : leastTo js [i] 1 = (js.getD i (0, 0)).1 := by unfold leastTo; rw [if_pos (.inl rfl)]; rfl
      have e4 : minutesTo js [i] 1 = (js.getD i (0, 0)).2 := by unfold minutesTo minutesTo; simp only [List.getD_cons_zero]; omega
      rw [e3, e4]
      omega

end Go.Proofs.Ytdjdnfjgklaneaa

/- THE WALK OF store.Greedy, with the plan's capacity told. -/
namespace Go.Proofs.Ytdjdnfjgklaneaa
open Go.RowKit

theorem capOk_row {w : World} {base : Nat} {e : TypeId} {size : Nat} {v : Value} {n : Nat} {xs : List Value} (h : LRow w base e size v n xs) : CapOk v := by
  rcases h.1.2 with ⟨rfl, rfl⟩ | ⟨g, cap, cur, rfl, _, _, h1, h2, _⟩
  · exact ⟨_, _, _, rfl, Nat.le_refl _, by unfold maxLen; omega⟩
  · exact ⟨_, _, _, rfl, h1, h2⟩
/-- What Greedy hands back, its capacity too. -/
def RetPlanC (l : List (Int × Int)) (err : Int) (w : World) (e : Ending) (w' : World) : Prop :=
  ∃ v, e = .returned (.tuple #[v, .int .i64 err]) ∧ PairsOf w' v l ∧ CapOk v ∧ Below w.heap.size w w'

set_option maxRecDepth 100000 in
set_option maxHeartbeats 8000000 in
theorem greedyC_any (js : List (Int × Int)) (ovens : Int) (vj : Value) (w : World) (hj : PairsOf w vj js) :
    Calls Try.prog 24 #[vj, .int .i64 ovens] w (RetPlanC (greedyL js ovens) (jobsErr js ovens) w) := by
  have HJ := Lib.hid hj
  obtain ⟨ao, cap, rfl, hE⟩ := hj
  have HE := Lib.hid hE
  clear hE
  by_cases h0 : jobsErr js ovens = 0
  · have t0 : (jobsErr js ovens != 0) = false := by simp [h0]
    have HG := Lib.hid (jobs_ok h0)
    have Hl0 : Hid (greedyL js ovens = planTo js ovens.toNat js.length) := by show _ = _; unfold greedyL; rw [if_pos h0]
    have hlen := HG.out.len
    have ho1 := HG.out.o1
    have ho8 := HG.out.o8
    have H0 := Lib.hid h0
    clear h0
    obtain ⟨n, rfl⟩ : ∃ n : Nat, ovens = n := ⟨ovens.toNat, by omega⟩
    have Hl : Hid (greedyL js n = planTo js n js.length) := by show _ = _; rw [Hl0.out, Int.toNat_natCast]
    have hn1 : 0 < n := by omega
    have hn8 : n ≤ 8 := by omega
    obtain ⟨iI, hiI, hzI0, hzI1, hzI2⟩ := info_parts info_int
    obtain ⟨i0, hi0, hz0, hz1, hz2⟩ := info_parts info_slot
    have hzd := zd2
    clear Hl0 ho1 ho8
    go_enter Try.func24, Try.ntmps24
    go_wp2_with fail
    refine (checkJobs_any js n _ _ HJ.out).mono ?_
    rintro e w1 ⟨rfl, hb1⟩
    generalize jobsErr js n = je at *
    go_wp2_with (at_make; refine wpList_make_full _ rfl _ _ 73 rfl w1.heap.size 3 iI (.int .i64 0) 1 Try.underlying73 hiI hzI0 hzI1 _ _ _ _ n rfl rfl (by omega) (by omega) (by rw [hzI2]; omega) (by unfold maxLen; omega) (by omega) ?_)
    intro w2 hown2 hgr2
    have ho2 := Own.of_made hown2
    have hx2 : Below w.heap.size w w2 := hb1.grown hgr2 hb1.size (by simp)
    have hgl : w.heap.size ≤ w1.heap.size := hb1.size
    clear hown2 hgr2 hb1
    generalize w1.heap.size = g at *
    go_wp2_with fail
    go_loopw [8, 25] (fun ov iv wr => ∃ (i : Nat), i ≤ js.length ∧ iv = .int .i64 i ∧ LRow wr w.heap.size 79 2 ov i (pairCells (planTo js n i)) ∧ Own wr g .i64 3 (freeTo js n i) ∧ Below w.heap.size w wr)
      (fun _ iv _ => js.length - (intOf iv).toNat)
    case atStart => exact ⟨0, Nat.zero_le _, rfl, LRow.nil _ _ _ _, ho2, hx2⟩
    case round =>
      clear ho2 hx2
      obtain ⟨i, hi, rfl, hL, hO, hbel⟩ := hrel
      by_cases hlt : i < js.length
      · obtain ⟨b, off, rfl, hbl, hEE⟩ := HE.out (by omega)
        obtain ⟨g0, g1⟩ := (hEE i hlt).below hbel hbl
        have hlt' : (i : Int) < js.length := by omega
        have hge' : (0 : Int) ≤ i := by omega
        have hbl2 : b < wr.heap.size := Nat.lt_of_lt_of_le hbl hbel.size
        have hjob := HG.out.job i hlt
        have hfl := freeTo_length js n i
        have hle := freeTo_le HG.out n i hi (bestIx (freeTo js n i) n)
        have Hf1 : Hid (freeTo js n (i + 1) = (freeTo js n i).set (bestIx (freeTo js n i) n) (max ((freeTo js n i).getD (bestIx (freeTo js n i) n) 0) (js.getD i (0, 0)).1.toNat + (js.getD i (0, 0)).2.toNat)) := rfl
        have Hp1 : Hid (planTo js n (i + 1) = planTo js n i ++ [(((bestIx (freeTo js n i) n : Nat) : Int), ((max ((freeTo js n i).getD (bestIx (freeTo js n i) n) 0) (js.getD i (0, 0)).1.toNat : Nat) : Int))]) := rfl
        clear hEE
        generalize (js.getD i (0, 0)).1 = r at *
        generalize (js.getD i (0, 0)).2 = m at *
        obtain ⟨rn, rfl⟩ : ∃ rn : Nat, r = rn := ⟨r.toNat, by omega⟩
        obtain ⟨mn, rfl⟩ : ∃ mn : Nat, m = mn := ⟨m.toNat, by omega⟩
        simp only [Int.toNat_natCast] at Hf1 Hp1
        have hplen := planTo_length js n i
        generalize planTo js n i = pl at *
        generalize freeTo js n i = fr at *
        have hN := blk_new wr #[.int .i64 (rn : Int), .int .i64 (mn : Int)] 106
        have hal := (Below.refl wr.heap.size wr).alloc (Nat.le_refl _) (.cells #[.int .i64 (rn : Int), .int .i64 (mn : Int)] 106)
        have hO1 : Own (wr.alloc (.cells #[.int .i64 (rn : Int), .int .i64 (mn : Int)] 106)) g .i64 3 fr := hO.alloc _
        have hgw := hO.lt
        have HFL := Lib.hid hfl
        clear hfl
        go_wp2_with fail
        go_loop [11, 31] (fun bv kv => ∃ (k : Nat), k ≤ n ∧ kv = .int .i64 k ∧ bv = .int .i64 ((bestIx fr k : Nat) : Int)) (fun _ kv => n - (intOf kv).toNat)
        case atStart => exact ⟨0, Nat.zero_le _, rfl, rfl⟩
        case round =>
          obtain ⟨k, hk, rfl, rfl⟩ := hrel
          by_cases hkl : k < n
          · have hkl' : (k : Int) < n := by omega
            have hkg' : (0 : Int) ≤ k := by omega
            have hb0 := bestIx_le fr k n hk hn1
            have hb0' : ((bestIx fr k : Nat) : Int) < n := by omega
            have d1 := hO1.cell k (by rw [HFL.out]; exact hkl)
            have d2 := hO1.cell (bestIx fr k) (by rw [HFL.out]; exact hb0)
            have Hb1 : Hid (bestIx fr (k + 1) = if fr.getD k 0 < fr.getD (bestIx fr k) 0 then k else bestIx fr k) := rfl
            generalize bestIx fr k = b0 at *
            generalize fr.getD k 0 = x at *
            generalize fr.getD b0 0 = y at *
            by_cases hc : x < y
            · have tc : decide (x < y) = true := decide_eq_true hc
              have hB := Hb1.out
              rw [if_pos hc] at hB
              have HB := Lib.hid hB
              clear hB Hb1 hc
              go_wp2_with fail
              exact ⟨⟨k + 1, by omega, by go_num, by rw [HB.out]⟩, meas_up hkl⟩
            · have tc : decide (x < y) = false := decide_eq_false hc
              have hB := Hb1.out
              rw [if_neg hc] at hB
              have HB := Lib.hid hB
              clear hB Hb1 hc
              go_wp2_with fail
              exact ⟨⟨k + 1, by omega, by go_num, by rw [HB.out]⟩, meas_up hkl⟩
          · obtain rfl : k = n := by omega
            have hb0 := bestIx_le fr k k hk hn1
            have hb0' : ((bestIx fr k : Nat) : Int) < k := by omega
            have d2 := hO1.cell (bestIx fr k) (by rw [HFL.out]; exact hb0)
            have s0 := blk_cell hN 0 (.int .i64 (rn : Int)) rfl
            have s1 := blk_cell hN 1 (.int .i64 (mn : Int)) rfl
            generalize bestIx fr k = b0 at *
            generalize hy : fr.getD b0 0 = y at *
            have hmx : max (y : Int) (rn : Int) = ((max y rn : Nat) : Int) := by omega
            have Hmx : Hid (max y rn ≤ 2000000 * i + 1000000) := by show _ ≤ _; omega
            go_wp2_with fail
            go_region
            have hNd : (wr.alloc (.cells #[.int .i64 (rn : Int), .int .i64 (mn : Int)] 106)).drew.heap[wr.heap.size]? = some (.cells #[.int .i64 (rn : Int), .int .i64 (mn : Int)] 106 (0, 0)) := hN
            have hald := hal.drew
            have hLd := hL.below hald
            have hOd : Own (wr.alloc (.cells #[.int .i64 (rn : Int), .int .i64 (mn : Int)] 106)).drew g .i64 3 fr := hO1
            have hsz : (wr.alloc (.cells #[.int .i64 (rn : Int), .int .i64 (mn : Int)] 106)).drew.heap.size = wr.heap.size + 1 := World.size_alloc _ _
            have HLlt := Lib.hid (fun q (hq : u8.ownBlock = some q) => (hL.lt hq).1)
            clear hN hal hL hO hO1 s0 s1 d2
            generalize (wr.alloc (.cells #[.int .i64 (rn : Int), .int .i64 (mn : Int)] 106)).drew = W3 at *
            have hx4 := (Below.refl W3.heap.size W3).alloc (Nat.le_refl _) (.cells #[.int .i64 (b0 : Int), .int .i64 ((max y rn : Nat) : Int)] 79)
            have HL4 := Lib.hid (hLd.below hx4)
            have hO4 := hOd.alloc (.cells #[.int .i64 (b0 : Int), .int .i64 ((max y rn : Nat) : Int)] 79)
            have hN4 := blk_keep hNd hx4 (blk_lt hNd)
            have HSZ := Lib.hid hsz
            have hbW : w.heap.size ≤ W3.heap.size := by have := hbel.size; omega
            clear hsz
            go_wp2_with (at_builtin; refine wpList_append_lrow _ rfl (.tmp 51) (.tmp 55) 65 rfl w.heap.size 79 i0 _ 2 16 Try.underlying65 hi0 hz0 hz1 hz2 rfl (by decide) hzd _ _ _ rfl HL4.out ⟨W3.heap.size, 0, none⟩ 1 1 [.int .i64 (b0 : Int), .int .i64 ((max y rn : Nat) : Int)] rfl rfl (cell_new2 _ _ _ _) (one2 _ _) (nd2 _ _) (by omega) (by unfold maxLen; omega) (by omega) (by simp; omega) ?_)
            intro gs caps w5 hL5 hgr hat
            have hneg : some g ≠ u8.ownBlock := HL4.out.not_own hO4 (by decide)
            have hO5 := hO4.grown hgr hneg
            have hN5 : w5.heap[wr.heap.size]? = some (.cells #[.int .i64 (rn : Int), .int .i64 (mn : Int)] 106 (0, 0)) := by
              rw [hgr.block _ (blk_lt hN4) (fun e => Nat.lt_irrefl _ (HLlt.out _ e.symm))]
              exact hN4
            have q1 := blk_cell hN5 1 (.int .i64 (mn : Int)) rfl
            have c5 := hO5.cell b0 (by rw [HFL.out]; exact hb0)
            have f5 := hO5.frozen b0
            have hx5 : Below w.heap.size w w5 := (hbel.trans ((hald.trans (hx4.mono (by rw [HSZ.out]; omega))).mono hbel.size)).grown hgr (by simp; omega) (ownBlock_base HL4.out.1)
            have hws : IntKind.i64.wrap (((max y rn : Nat) : Int) + (mn : Int)) = ((max y rn + mn : Nat) : Int) := by rw [Int.natCast_add]; exact IntWalk.i64_in _ (by have := Hmx.out; omega)
            have HL5 := Lib.hid hL5
            have HO5 := Lib.hid hO5
            have HF1 := Lib.hid Hf1.out
            clear hO4 hN4 hN5 hgr hx4 hLd hOd hNd hL5 hO5
            go_wp2_with fail
            rw [← Int.natCast_add]
            have hne2 : some g ≠ (Value.slice (some ⟨gs, 0, none⟩) (i + 1) caps).ownBlock := HL5.out.not_own HO5.out (by decide)
            exact ⟨⟨i + 1, by omega, by go_num, by
              rw [Hp1.out, pairCells_append]
              exact HL5.out.keep (fun g' hg' => heap_setCell_other _ _ _ _ (fun e => hne2 (by rw [hg', e]))), by
              rw [Hf1.out]
              exact HO5.out.store b0 _, hx5.setCell (p := ⟨g, b0, none⟩) hgl _⟩, meas_up hlt⟩
      · obtain rfl : i = js.length := by omega
        have HP := Lib.hid (PairsOf.ofRow (by rw [planTo_length]; exact hL))
        have HCP := Lib.hid (capOk_row hL)
        clear hL hO
        go_wp2_with fail
        go_ret2
        exact ⟨_, by rw [H0.out]; rfl, by rw [Hl.out]; exact HP.out, HCP.out, hbel⟩
  · have t0 : (jobsErr js ovens != 0) = true := by simp [h0]
    have Hl : Hid (greedyL js ovens = []) := by show _ = _; unfold greedyL; rw [if_neg h0]
    clear h0
    go_enter Try.func24, Try.ntmps24
    go_wp2_with fail
    refine (checkJobs_any js ovens _ _ HJ.out).mono ?_
    rintro e w1 ⟨rfl, hb1⟩
    generalize jobsErr js ovens = je at *
    go_wp2_with fail
    go_ret2
    exact ⟨.slice none 0 0, rfl, by rw [Hl.out]; exact PairsOf.nil _, ⟨_, _, _, rfl, Nat.le_refl _, by unfold maxLen; omega⟩, hb1⟩

end Go.Proofs.Ytdjdnfjgklaneaa

/- AIRS AND THE SPANS IN WHICH WORK IS RIGHT: plain. -/
namespace Go.Proofs.Ytdjdnfjgklaneaa
open Go.RowKit

/-- Three cells read as an air. -/
def AirAt (w : World) (b o : Nat) (t : Int × Int × Nat) : Prop := w.cell? ⟨b, o, none⟩ = some (.int .i64 t.1) ∧ w.cell? ⟨b, o + 1, none⟩ = some (.int .i64 t.2.1) ∧ w.cell? ⟨b, o + 2, none⟩ = some (.float .f32 t.2.2)
def AirsOf (w : World) (v : Value) (ts : List (Int × Int × Nat)) : Prop :=
  ∃ ao cap, v = .slice ao ts.length cap ∧ (0 < ts.length → ∃ b off, ao = some ⟨b, off, none⟩ ∧ b < w.heap.size ∧ ∀ i, i < ts.length → AirAt w b (off + i * 3) (ts.getD i (0, 0, 0)))
theorem AirAt.below {w w' : World} {b o : Nat} {r : Int × Int × Nat} (h : AirAt w b o r) (hb : Below w.heap.size w w') (hl : b < w.heap.size) : AirAt w' b o r :=
  ⟨(hb.cell (p := ⟨b, o, none⟩) hl).trans h.1, (hb.cell (p := ⟨b, o + 1, none⟩) hl).trans h.2.1, (hb.cell (p := ⟨b, o + 2, none⟩) hl).trans h.2.2⟩
theorem AirsOf.below {w w' : World} {v : Value} {ps : List (Int × Int × Nat)} (h : AirsOf w v ps) (hb : Below w.heap.size w w') : AirsOf w' v ps := by
  obtain ⟨ao, cap, rfl, h⟩ := h
  refine ⟨ao, cap, rfl, fun hl => ?_⟩
  obtain ⟨b, off, rfl, hlt, h⟩ := h hl
  exact ⟨b, off, rfl, Nat.lt_of_lt_of_le hlt hb.size, fun i hi => (h i hi).below hb hlt⟩

/-- The error of air i. -/
def airErr (xs : List (Int × Int × Nat)) (i : Nat) : Int :=
  if timeB (xs.getD i (0, 0, 0)).1 = false ∨ (xs.getD i (0, 0, 0)).2.1 < 0 ∨ tempOk (xs.getD i (0, 0, 0)).2.2 = false then 1
  else if 0 < i ∧ (xs.getD i (0, 0, 0)).1 ≤ (xs.getD (i - 1) (0, 0, 0)).1 then 7 else 0
def workErr (xs : List (Int × Int × Nat)) (gap : Int) (x y : Rat) : Int :=
  if 256 < xs.length then 4 else if gapB gap = false then 1 else if 0 < cmpR x y then 7 else firstErr (airErr xs) xs.length
def rightP (t : Int × Int × Nat) (dust : Int) (x y : Rat) : Bool := decide (t.2.1 ≤ dust) && (decide (cmpR x (tempQ t.2.2) ≤ 0) && decide (cmpR (tempQ t.2.2) y ≤ 0))
def rightAt (xs : List (Int × Int × Nat)) (dust : Int) (x y : Rat) (i : Nat) : Bool := rightP (xs.getD i (0, 0, 0)) dust x y
def joinB (xs : List (Int × Int × Nat)) (dust gap : Int) (x y : Rat) (i : Nat) : Bool :=
  rightAt xs dust x y (i - 1) && (rightAt xs dust x y i && decide ((xs.getD i (0, 0, 0)).1 - (xs.getD (i - 1) (0, 0, 0)).1 ≤ gap))
def addSpan (l : List (Int × Int)) (a b : Int) : List (Int × Int) :=
  if 0 < l.length ∧ (l.getD (l.length - 1) (0, 0)).2 = a then l.set (l.length - 1) ((l.getD (l.length - 1) (0, 0)).1, b) else l ++ [(a, b)]
/-- The spans of the first i airs. -/
def workTo (xs : List (Int × Int × Nat)) (dust gap : Int) (x y : Rat) : Nat → List (Int × Int)
  | 0 => []
  | i + 1 => if i = 0 then [] else if joinB xs dust gap x y i = true then addSpan (workTo xs dust gap x y i) (xs.getD (i - 1) (0, 0, 0)).1 (xs.getD i (0, 0, 0)).1 else workTo xs dust gap x y i
def workL (xs : List (Int × Int × Nat)) (dust gap : Int) (x y : Rat) : List (Int × Int) := if workErr xs gap x y = 0 then workTo xs dust gap x y xs.length else []

theorem addSpan_length (l : List (Int × Int)) (a b : Int) : (addSpan l a b).length ≤ l.length + 1 := by
  unfold addSpan
  split
  · simp
  · simp
theorem workTo_length (xs : List (Int × Int × Nat)) (dust gap : Int) (x y : Rat) (i : Nat) : (workTo xs dust gap x y i).length ≤ i := by
  induction i with
  | zero => simp [workTo]
  | succ i ih =>
    unfold workTo
    split
    · simp
    · split
      · have := addSpan_length (workTo xs dust gap x y i) (xs.getD (i - 1) (0, 0, 0)).1 (xs.getD i (0, 0, 0)).1
        omega
      · omega
theorem workTo_skip {xs : List (Int × Int × Nat)} {dust gap : Int} {x y : Rat} {i : Nat} (hi : 1 ≤ i) (h : joinB xs dust gap x y i = false) : workTo xs dust gap x y (i + 1) = workTo xs dust gap x y i := by
  rw [workTo, if_neg (by omega), if_neg (by rw [h]; decide)]
theorem workTo_join {xs : List (Int × Int × Nat)} {dust gap : Int} {x y : Rat} {i : Nat} (hi : 1 ≤ i) (h : joinB xs dust gap x y i = true) : workTo xs dust gap x y (i + 1) = addSpan (workTo xs dust gap x y i) (xs.getD (i - 1) (0, 0, 0)).1 (xs.getD i (0, 0, 0)).1 := by
  rw [workTo, if_neg (by omega), if_pos h]
theorem addSpan_new {l : List (Int × Int)} {a b : Int} (h : ¬ (0 < l.length ∧ (l.getD (l.length - 1) (0, 0)).2 = a)) : addSpan l a b = l ++ [(a, b)] := by
  unfold addSpan; rw [if_neg h]
theorem addSpan_ext {l : List (Int × Int)} {a b : Int} (h : 0 < l.length) (h2 : (l.getD (l.length - 1) (0, 0)).2 = a) : addSpan l a b = l.set (l.length - 1) ((l.getD (l.length - 1) (0, 0)).1, b) := by
  unfold addSpan; rw [if_pos ⟨h, h2⟩]
theorem pairCells_length (l : List (Int × Int)) : (pairCells l).length = l.length * 2 := by
  induction l with
  | nil => rfl
  | cons r l ih => simp [pairCells, ih]; omega
theorem pairCells_set (l : List (Int × Int)) : ∀ (j : Nat) (b : Int), j < l.length → (pairCells l).set (j * 2 + 1) (.int .i64 b) = pairCells (l.set j ((l.getD j (0, 0)).1, b)) := by
  induction l with
  | nil => intro j b hj; simp at hj
  | cons r l ih =>
    intro j b hj
    cases j with
    | zero => simp [pairCells]
    | succ j =>
      have := ih j b (by simpa using hj)
      rw [show (j + 1) * 2 + 1 = (j * 2 + 1) + 2 by omega]
      simpa [pairCells] using this

/-- A store into a row without digits. -/
theorem LRow.stored {w : World} {base : Nat} {e : TypeId} {size g n cap : Nat} {xs : List Value} (h : LRow w base e size (.slice (some ⟨g, 0, none⟩) n cap) n xs) (j : Nat) (u : Value) (hu : noDig u) :
    LRow (w.setCell ⟨g, j, none⟩ u) base e size (.slice (some ⟨g, 0, none⟩) n cap) n (xs.set j u) ∧ w.grownBy (w.setCell ⟨g, j, none⟩ u) (some g) := by
  obtain ⟨h1, h2⟩ := h.1.stored j u
  refine ⟨⟨h1, fun g' hg' k v hv => ?_⟩, h2⟩
  obtain rfl : g = g' := by simpa [Value.ownBlock] using hg'
  by_cases hk : k = j
  · subst hk
    rcases h1.2 with ⟨h', _⟩ | ⟨g', cap', cur, h', hb, hg, _⟩
    · simp at h'
    · simp only [Value.slice.injEq, Option.some.injEq, Addr.mk.injEq, and_true, true_and] at h'
      obtain ⟨rfl, rfl⟩ := h'
      rcases h.1.2 with ⟨h', _⟩ | ⟨g', cap', cur', h', hb', hg', _⟩
      · simp at h'
      · simp only [Value.slice.injEq, Option.some.injEq, Addr.mk.injEq, and_true, true_and] at h'
        obtain ⟨rfl, rfl⟩ := h'
        have e1 := heap_setCell_same w g k cur' e u hg'
        rw [cell_of_row _ g k _ e (0, 0) e1] at hv
        by_cases hl : k < cur'.size
        · simp [hl] at hv
          subst hv
          exact hu
        · simp [hl] at hv
  · refine h.2 g rfl k v ?_
    rcases h.1.2 with ⟨h', _⟩ | ⟨g', cap', cur', h', hb', hg', _⟩
    · simp at h'
    · simp only [Value.slice.injEq, Option.some.injEq, Addr.mk.injEq, and_true, true_and] at h'
      obtain ⟨rfl, rfl⟩ := h'
      have e1 := heap_setCell_same w g j cur' e u hg'
      rw [cell_of_row _ g k _ e (0, 0) e1] at hv
      rw [cell_of_row _ g k _ e (0, 0) hg', ← hv]
      rw [Array.getElem?_setIfInBounds, if_neg (fun h => hk h.symm)]

/-- What was right of the first n airs, as cells. -/
def rights (xs : List (Int × Int × Nat)) (dust : Int) (x y : Rat) (n : Nat) : List Value := (List.range n).map fun j => .bool (rightAt xs dust x y j)
theorem rights_succ (xs : List (Int × Int × Nat)) (dust : Int) (x y : Rat) (n : Nat) : rights xs dust x y (n + 1) = rights xs dust x y n ++ [.bool (rightAt xs dust x y n)] := by
  unfold rights
  rw [List.range_succ, List.map_append]
  rfl
theorem rights_get (xs : List (Int × Int × Nat)) (dust : Int) (x y : Rat) (n j : Nat) (hj : j < n) : (rights xs dust x y n)[j]? = some (.bool (rightAt xs dust x y j)) := by
  unfold rights
  simp [hj]
def BoolsOf (w : World) (v : Value) (n : Nat) (f : Nat → Bool) : Prop :=
  ∃ ao cap, v = .slice ao n cap ∧ (0 < n → ∃ g, ao = some ⟨g, 0, none⟩ ∧ g < w.heap.size ∧ ∀ j, j < n → w.cell? ⟨g, j, none⟩ = some (.bool (f j)))
theorem BoolsOf.ofRow {w : World} {base : Nat} {e : TypeId} {v : Value} {n : Nat} {xs : List (Int × Int × Nat)} {dust : Int} {x y : Rat} (h : LRow w base e 1 v n (rights xs dust x y n)) : BoolsOf w v n (rightAt xs dust x y) := by
  rcases Nat.eq_zero_or_pos n with h0 | hp
  · rcases h.1.2 with ⟨rfl, _⟩ | ⟨g, cap, cur, rfl, _⟩
    · exact ⟨none, 0, by rw [h0], fun h => absurd h (by omega)⟩
    · exact ⟨_, _, rfl, fun h => absurd h (by omega)⟩
  · obtain ⟨g, cap, rfl⟩ := ownsRow_some h.1 hp
    have hc : ∀ j u, (rights xs dust x y n)[j]? = some u → w.cell? ((⟨g, 0, none⟩ : Addr).add j) = some u := h.1.cells (g := g) rfl
    have hlt : g < w.heap.size := (h.lt rfl).1
    refine ⟨_, _, rfl, fun _ => ⟨g, rfl, hlt, fun j hj => ?_⟩⟩
    have ea : (⟨g, 0, none⟩ : Addr).add j = ⟨g, j, none⟩ := by unfold Addr.add; split <;> simp_all
    rw [← ea]
    exact hc j _ (rights_get xs dust x y n j hj)
theorem nd1b (b : Bool) : ∀ u ∈ [Value.bool b], noDig u := by
  intro u hu
  simp at hu
  rw [hu]
  exact noDig_bool _
theorem one1b (b : Bool) : ∀ u ∈ [Value.bool b], u.oneCell' = true := by simp [Value.oneCell']
theorem zd1b : ∀ u ∈ (Value.bool false).cells.toList, noDig u := by
  intro u hu
  simp [Value.cells] at hu
  rw [hu]
  exact noDig_bool _
theorem cell_new1b (w : World) (a : Value) (t : TypeId) : ∀ j u, [a][j]? = some u → (w.alloc (.cells #[a] t)).cell? ((⟨w.heap.size, 0, none⟩ : Addr).add j) = some u := by
  intro j u hj
  match j, hj with
  | 0, hj => simp at hj; subst hj; simp [Addr.add]
  | j + 1, hj => simp at hj
theorem info_bool : (Try.prog.info? 4).map (fun i => (i.zero, i.size, i.bytes)) = some (some (.bool false), 1, 1) := by kernel_rfl
theorem info_span : (Try.prog.info? 112).map (fun i => (i.zero, i.size, i.bytes)) = some (some (.agg #[.int .i64 0, .int .i64 0]), 2, 16) := by kernel_rfl

/-- What stands behind a good end. -/
theorem work_ok {xs : List (Int × Int × Nat)} {n : Nat} (h : firstErr (airErr xs) n = 0) : ∀ i, i < n → 0 ≤ (xs.getD i (0, 0, 0)).1 ∧ (xs.getD i (0, 0, 0)).1 ≤ 1073741824 := by
  intro i hi
  have h1 := firstErr_all h i hi
  unfold airErr at h1
  split at h1
  · omega
  · rename_i h2
    refine timeB_spec ?_
    cases h3 : timeB (xs.getD i (0, 0, 0)).1
    · exact absurd (.inl h3) h2
    · rfl

/-- Two cells stay. -/
theorem two_alloc {A B : Addr} {u v : Value} {a : World} (o : Obj) (h : a.cell? A = some u ∧ a.cell? B = some v) : (a.alloc o).cell? A = some u ∧ (a.alloc o).cell? B = some v :=
  ⟨(((Below.refl a.heap.size a).alloc (Nat.le_refl _) o).cell (World.block_lt_of_cell? (h := h.1))).trans h.1, (((Below.refl a.heap.size a).alloc (Nat.le_refl _) o).cell (World.block_lt_of_cell? (h := h.2))).trans h.2⟩
theorem two_grown {A B : Addr} {u v : Value} {a b : World} {row : Option Nat} (hg : a.grownBy b row) (hA : some A.block ≠ row) (hB : some B.block ≠ row) (h : a.cell? A = some u ∧ a.cell? B = some v) : b.cell? A = some u ∧ b.cell? B = some v :=
  ⟨(World.cell?_of_block (hg.block _ (World.block_lt_of_cell? (h := h.1)) hA)).trans h.1, (World.cell?_of_block (hg.block _ (World.block_lt_of_cell? (h := h.2)) hB)).trans h.2⟩
theorem LRow.form {w : World} {base : Nat} {e : TypeId} {size : Nat} {v : Value} {n : Nat} {xs : List Value} (h : LRow w base e size v n xs) : ∃ ao cap, v = .slice ao n cap := by
  rcases h.1.2 with ⟨rfl, rfl⟩ | ⟨g, cap, cur, rfl, _⟩
  · exact ⟨none, 0, rfl⟩
  · exact ⟨_, _, rfl⟩
theorem LRow.at {w : World} {base : Nat} {e : TypeId} {size g n cap : Nat} {xs : List Value} (h : LRow w base e size (.slice (some ⟨g, 0, none⟩) n cap) n xs) {j : Nat} {u : Value} (hj : xs[j]? = some u) : w.cell? ⟨g, j, none⟩ = some u := by
  have hc : ∀ j u, xs[j]? = some u → w.cell? ((⟨g, 0, none⟩ : Addr).add j) = some u := h.1.cells (g := g) rfl
  have ea : (⟨g, 0, none⟩ : Addr).add j = ⟨g, j, none⟩ := by unfold Addr.add; split <;> simp_all
  rw [← ea]
  exact hc j u hj

/-- Eleven cells stay. -/
theorem keep11 {a b : World} {A0 A1 A2 A3 A4 A5 A6 A7 A8 A9 A10 : Addr} {v0 v1 v2 v3 v4 v5 v6 v7 v8 v9 v10 : Value} (hb : Below a.heap.size a b) (h : a.cell? A0 = some v0 ∧ a.cell? A1 = some v1 ∧ a.cell? A2 = some v2 ∧ a.cell? A3 = some v3 ∧ a.cell? A4 = some v4 ∧ a.cell? A5 = some v5 ∧ a.cell? A6 = some v6 ∧ a.cell? A7 = some v7 ∧ a.cell? A8 = some v8 ∧ a.cell? A9 = some v9 ∧ a.cell? A10 = some v10) : b.cell? A0 = some v0 ∧ b.cell? A1 = some v1 ∧ b.cell? A2 = some v2 ∧ b.cell? A3 = some v3 ∧ b.cell? A4 = some v4 ∧ b.cell? A5 = some v5 ∧ b.cell? A6 = some v6 ∧ b.cell? A7 = some v7 ∧ b.cell? A8 = some v8 ∧ b.cell? A9 = some v9 ∧ b.cell? A10 = some v10 :=
  ⟨(hb.cell (World.block_lt_of_cell? (h := h.1))).trans h.1, (hb.cell (World.block_lt_of_cell? (h := h.2.1))).trans h.2.1, (hb.cell (World.block_lt_of_cell? (h := h.2.2.1))).trans h.2.2.1, (hb.cell (World.block_lt_of_cell? (h := h.2.2.2.1))).trans h.2.2.2.1, (hb.cell (World.block_lt_of_cell? (h := h.2.2.2.2.1))).trans h.2.2.2.2.1, (hb.cell (World.block_lt_of_cell? (h := h.2.2.2.2.2.1))).trans h.2.2.2.2.2.1, (hb.cell (World.block_lt_of_cell? (h := h.2.2.2.2.2.2.1))).trans h.2.2.2.2.2.2.1, (hb.cell (World.block_lt_of_cell? (h := h.2.2.2.2.2.2.2.1))).trans h.2.2.2.2.2.2.2.1, (hb.cell (World.block_lt_of_cell? (h := h.2.2.2.2.2.2.2.2.1))).trans h.2.2.2.2.2.2.2.2.1, (hb.cell (World.block_lt_of_cell? (h := h.2.2.2.2.2.2.2.2.2.1))).trans h.2.2.2.2.2.2.2.2.2.1, (hb.cell (World.block_lt_of_cell? (h := h.2.2.2.2.2.2.2.2.2.2))).trans h.2.2.2.2.2.2.2.2.2.2⟩

end Go.Proofs.Ytdjdnfjgklaneaa

/- THE WALK OF law06.StoreGraham. -/
namespace Go.Proofs.Ytdjdnfjgklaneaa
open Go.RowKit

/-- The slice v reads as pairs of bytes. -/
def PairAt8 (w : World) (b o : Nat) (r : Int × Int) : Prop := w.cell? ⟨b, o, none⟩ = some (.int .u8 r.1) ∧ w.cell? ⟨b, o + 1, none⟩ = some (.int .u8 r.2)
def u8R (x : Int) : Prop := 0 ≤ x ∧ x ≤ 255
def Pairs8 (w : World) (v : Value) (ps : List (Int × Int)) : Prop :=
  ∃ ao cap, v = .slice ao ps.length cap ∧ (0 < ps.length → ∃ b off, ao = some ⟨b, off, none⟩ ∧ b < w.heap.size ∧ ∀ i, i < ps.length → PairAt8 w b (off + i * 2) (ps.getD i (0, 0)) ∧ u8R (ps.getD i (0, 0)).1 ∧ u8R (ps.getD i (0, 0)).2)
/-- The slice v reads as bytes. -/
def Bytes8 (w : World) (v : Value) (xs : List Int) : Prop :=
  ∃ ao cap, v = .slice ao xs.length cap ∧ (0 < xs.length → ∃ b off, ao = some ⟨b, off, none⟩ ∧ b < w.heap.size ∧ ∀ i, i < xs.length → w.cell? ⟨b, off + i, none⟩ = some (.int .u8 (xs.getD i 0)) ∧ u8R (xs.getD i 0))

theorem PairAt8.below {w w' : World} {b o : Nat} {r : Int × Int} (h : PairAt8 w b o r) (hb : Below w.heap.size w w') (hl : b < w.heap.size) : PairAt8 w' b o r :=
  ⟨(hb.cell (p := ⟨b, o, none⟩) hl).trans h.1, (hb.cell (p := ⟨b, o + 1, none⟩) hl).trans h.2⟩

/-- The jobs of pairs of bytes. -/
def jobOf (rdy : Bool) (p : Int × Int) : Int × Int := (if rdy = true then p.1 else 0, p.2)
def jobsOf (ps : List (Int × Int)) (rdy : Bool) : List (Int × Int) := ps.map (jobOf rdy)
theorem jobsOf_length (ps : List (Int × Int)) (rdy : Bool) : (jobsOf ps rdy).length = ps.length := by simp [jobsOf]
theorem jobsOf_get (ps : List (Int × Int)) (rdy : Bool) (i : Nat) (hi : i < ps.length) : (jobsOf ps rdy).getD i (0, 0) = jobOf rdy (ps.getD i (0, 0)) := by
  simp [jobsOf, List.getD, hi]
/-- The other plan: some jobs later, each on an oven that is handed in. -/
def slid (n : Int) (p : Int × Int) (s : Int) : Int × Int := ((p.1 + s / 64) % n, p.2 + s % 7)
def otherTo (pl : List (Int × Int)) (sh : List Int) (n : Int) : Nat → List (Int × Int)
  | 0 => pl
  | i + 1 => if i < sh.length then (otherTo pl sh n i).set i (slid n (pl.getD i (0, 0)) (sh.getD i 0)) else otherTo pl sh n i
theorem otherTo_length (pl : List (Int × Int)) (sh : List Int) (n : Int) (i : Nat) : (otherTo pl sh n i).length = pl.length := by
  induction i with
  | zero => rfl
  | succ i ih => unfold otherTo; split <;> simp [ih]
theorem otherTo_get (pl : List (Int × Int)) (sh : List Int) (n : Int) (i j : Nat) (h : i ≤ j) : (otherTo pl sh n i).getD j (0, 0) = pl.getD j (0, 0) := by
  induction i with
  | zero => rfl
  | succ i ih =>
    unfold otherTo
    split
    · rw [← ih (by omega)]
      simp only [List.getD, List.getElem?_set]
      rw [if_neg (by omega)]
    · exact ih (by omega)
theorem minSum_range {js : List (Int × Int)} {B : Int} (hb : ∀ i, i < js.length → 0 ≤ (js.getD i (0, 0)).2 ∧ (js.getD i (0, 0)).2 ≤ B) (k : Nat) (hk : k ≤ js.length) : 0 ≤ minSum js k ∧ minSum js k ≤ B * k := by
  induction k with
  | zero => simp [minSum]
  | succ k ih =>
    have := ih (by omega)
    have := hb k (by omega)
    simp only [minSum]
    rw [show ((k + 1 : Nat) : Int) = k + 1 by omega, Int.mul_add]
    omega
theorem minMost_range {js : List (Int × Int)} {B : Int} (hB : 0 ≤ B) (hb : ∀ i, i < js.length → 0 ≤ (js.getD i (0, 0)).2 ∧ (js.getD i (0, 0)).2 ≤ B) (k : Nat) (hk : k ≤ js.length) : 0 ≤ minMost js k ∧ minMost js k ≤ B := by
  induction k with
  | zero => exact ⟨Int.le_refl _, hB⟩
  | succ k ih =>
    have := ih (by omega)
    have := hb k (by omega)
    simp only [minMost]
    omega

theorem info_job : (Try.prog.info? 106).map (fun i => (i.zero, i.size, i.bytes)) = some (some (.agg #[.int .i64 0, .int .i64 0]), 2, 16) := by kernel_rfl

theorem jobsErr_of {js : List (Int × Int)} {n : Int} (hl : js.length ≤ 64) (h1 : 1 ≤ n) (h8 : n ≤ 8) (h : ∀ i, i < js.length → 0 ≤ (js.getD i (0, 0)).1 ∧ (js.getD i (0, 0)).1 ≤ 1000000 ∧ 0 ≤ (js.getD i (0, 0)).2 ∧ (js.getD i (0, 0)).2 ≤ 1000000) : jobsErr js n = 0 := by
  unfold jobsErr
  rw [if_neg (by omega), if_neg (by omega)]
  have key : ∀ k, k ≤ js.length → firstErr (jobErr js) k = 0 := by
    intro k hk
    induction k with
    | zero => rfl
    | succ k ih =>
      rw [firstErr_step (ih (by omega))]
      unfold jobErr
      have := h k (by omega)
      rw [if_neg (by omega)]
  exact key _ (Nat.le_refl _)

theorem shows_length {l : List Nat} {n m : Nat} (h : Shows l n) (hn : n ≤ m) : l.length ≤ m := by
  have key : ∀ i, i < l.length → i ≤ l.getD i 0 := by
    intro i hi
    induction i with
    | zero => omega
    | succ i ih =>
      have h1 := ih (by omega)
      have h2 := (h (i + 1) hi).2 (by omega)
      rw [Nat.add_sub_cancel] at h2
      omega
  rcases Nat.eq_zero_or_pos l.length with h0 | h0
  · omega
  · have h1 := key (l.length - 1) (by omega)
    have h2 := (h (l.length - 1) (by omega)).1
    omega

theorem boundN_nonneg (js : List (Int × Int)) (n : Int) : 0 ≤ boundN js n := by unfold boundN; split <;> omega
theorem minutesTo_range {js : List (Int × Int)} {l : List Nat} (hj : ∀ i, i < js.length → 0 ≤ (js.getD i (0, 0)).1 ∧ (js.getD i (0, 0)).1 ≤ 255 ∧ 0 ≤ (js.getD i (0, 0)).2 ∧ (js.getD i (0, 0)).2 ≤ 255) (hs : Shows l js.length) (k : Nat) (hk : k ≤ l.length) : 0 ≤ minutesTo js l k ∧ minutesTo js l k ≤ 255 * k := by
  induction k with
  | zero => simp [minutesTo]
  | succ k ih =>
    have := ih (by omega)
    have := hj _ (hs k (by omega)).1
    simp only [minutesTo]
    omega
theorem leastTo_range {js : List (Int × Int)} {l : List Nat} (hj : ∀ i, i < js.length → 0 ≤ (js.getD i (0, 0)).1 ∧ (js.getD i (0, 0)).1 ≤ 255 ∧ 0 ≤ (js.getD i (0, 0)).2 ∧ (js.getD i (0, 0)).2 ≤ 255) (hs : Shows l js.length) (k : Nat) (hk : k ≤ l.length) : 0 ≤ leastTo js l k ∧ leastTo js l k ≤ 255 := by
  induction k with
  | zero => simp [leastTo]
  | succ k ih =>
    have := ih (by omega)
    have := hj _ (hs k (by omega)).1
    simp only [leastTo]
    split <;> omega

theorem pairCells_length' (l : List (Int × Int)) : (pairCells l).length = l.length * 2 := by
  induction l with
  | nil => rfl
  | cons r l ih => simp [pairCells, ih]; omega
theorem pairCells_one (l : List (Int × Int)) : ∀ u ∈ pairCells l, u.oneCell' = true := by
  induction l with
  | nil => intro u hu; simp [pairCells] at hu
  | cons r l ih =>
    intro u hu
    simp [pairCells] at hu
    rcases hu with rfl | rfl | hu
    · rfl
    · rfl
    · exact ih u hu
theorem pairCells_nodig (l : List (Int × Int)) : ∀ u ∈ pairCells l, noDig u := by
  induction l with
  | nil => intro u hu; simp [pairCells] at hu
  | cons r l ih =>
    intro u hu
    simp [pairCells] at hu
    rcases hu with rfl | rfl | hu
    · exact noDig_i64 _
    · exact noDig_i64 _
    · exact ih u hu
theorem pairs_news {w : World} {ao : Option Addr} {n cap : Nat} {l : List (Int × Int)} (h : PairsOf w (.slice ao n cap) l) : 0 < n → ∃ ad, ao = some ad ∧ ∀ j u, (pairCells l)[j]? = some u → w.cell? (ad.add j) = some u := by
  intro hn
  obtain ⟨ao', cap', e, h⟩ := h
  simp only [Value.slice.injEq] at e
  obtain ⟨rfl, rfl, rfl⟩ := e
  obtain ⟨b, off, rfl, _, hc⟩ := h hn
  refine ⟨_, rfl, fun j u hu => ?_⟩
  have hj : j < l.length * 2 := by
    rw [← pairCells_length']
    exact (List.getElem?_eq_some_iff.1 hu).1
  have ea : (⟨b, off, none⟩ : Addr).add j = ⟨b, off + j, none⟩ := by unfold Addr.add; split <;> simp_all
  rw [ea]
  obtain ⟨h0, h1⟩ := pairCells_get l (j / 2) (by omega)
  obtain ⟨k0, k1⟩ := hc (j / 2) (by omega)
  rcases Nat.mod_two_eq_zero_or_one j with hm | hm
  · have : j = j / 2 * 2 := by omega
    rw [← this] at h0
    rw [h0] at hu
    rw [← hu, ← k0]
    congr 2
    omega
  · have : j = j / 2 * 2 + 1 := by omega
    rw [← this] at h1
    rw [h1] at hu
    rw [← hu, ← k1]
    congr 2
    omega

theorem pairCells_set2 (l : List (Int × Int)) : ∀ (j : Nat) (x n b : Int), j < l.length → ((pairCells l).set (j * 2 + 1) (.int .i64 b)).set (j * 2) (.int .i64 (x % n)) = pairCells (l.set j (x % n, b)) := by
  induction l with
  | nil => intro j x n b hj; simp at hj
  | cons r l ih =>
    intro j x n b hj
    cases j with
    | zero => simp [pairCells]
    | succ j =>
      have := ih j x n b (by simpa using hj)
      rw [show (j + 1) * 2 + 1 = (j * 2 + 1) + 2 by omega, show (j + 1) * 2 = (j * 2) + 2 by omega]
      simpa [pairCells] using this

theorem cell_set_apart (w : World) (g i j : Nat) (v : Value) (h : j ≠ i) : (w.setCell ⟨g, i, none⟩ v).cell? ⟨g, j, none⟩ = w.cell? ⟨g, j, none⟩ := by
  apply World.cell?_setCell_other
  intro e
  exact h (congrArg Addr.off e).symm

set_option maxRecDepth 100000 in
set_option maxHeartbeats 16000000 in
theorem storeGraham_any (ps : List (Int × Int)) (ov : Int) (sh : List Int) (rdy : Bool) (vp vs : Value) (w : World) (hp : Pairs8 w vp ps) (hov : u8R ov) (hs : Bytes8 w vs sh) :
    Calls Try.prog 9 #[vp, .int .u8 ov, vs, .bool rdy] w (RetBool true w) := by
  obtain ⟨aop, capp, rfl, hP⟩ := hp
  obtain ⟨aos, caps, rfl, hS⟩ := hs
  have HPE := Lib.hid hP
  have HSE := Lib.hid hS
  obtain ⟨ho0, ho1⟩ := hov
  clear hP hS
  by_cases c1 : 20 < ps.length
  · have t1 : decide ((ps.length : Int) > 20) = true := by simp; omega
    clear c1
    go_enter Try.func9, Try.ntmps9
    go_wp2_with fail
    refine (awake_any _).mono ?_
    rintro e w1 ⟨rfl, hb1⟩
    go_wp2_with fail
    go_ret
    exact ⟨rfl, hb1⟩
  · have t1 : decide ((ps.length : Int) > 20) = false := by simp; omega
    have hlp : ps.length ≤ 20 := by omega
    obtain ⟨i0, hi0, hz0, hz1, hz2⟩ := info_parts info_job
    have hzd := zd2
    have hn1 : 1 ≤ 1 + ov % 8 := by omega
    have hn8 : 1 + ov % 8 ≤ 8 := by omega
    clear c1
    go_enter Try.func9, Try.ntmps9
    go_wp2_with fail
    generalize 1 + ov % 8 = n at *
    clear ho0 ho1
    have hlen := jobsOf_length ps rdy
    have Hlen := Lib.hid hlen
    have Hget := Lib.hid (jobsOf_get ps rdy)
    clear hlen
    have Hjr : Hid (∀ i, i < (jobsOf ps rdy).length → 0 ≤ ((jobsOf ps rdy).getD i (0, 0)).1 ∧ ((jobsOf ps rdy).getD i (0, 0)).1 ≤ 255 ∧ 0 ≤ ((jobsOf ps rdy).getD i (0, 0)).2 ∧ ((jobsOf ps rdy).getD i (0, 0)).2 ≤ 255) := fun i hi => by
      rw [Hlen.out] at hi
      obtain ⟨b, off, _, _, h⟩ := HPE.out (by omega)
      obtain ⟨_, ⟨h1, h2⟩, h3, h4⟩ := h i hi
      rw [Hget.out i hi]
      unfold jobOf
      dsimp only
      split <;> omega
    go_loopw [10, 11, 12, 42] (fun jv sv mv iv wr => ∃ (i : Nat), i ≤ ps.length ∧ iv = .int .i64 i ∧ sv = .int .i64 (minSum (jobsOf ps rdy) i) ∧ mv = .int .i64 (minMost (jobsOf ps rdy) i) ∧ LRow wr w.heap.size 106 2 jv i (pairCells ((jobsOf ps rdy).take i)) ∧ Below w.heap.size w wr)
      (fun _ _ _ iv _ => ps.length - (intOf iv).toNat)
    case atStart => exact ⟨0, Nat.zero_le _, rfl, rfl, rfl, LRow.nil _ _ _ _, Below.refl _ _⟩
    case round =>
      obtain ⟨i, hi, rfl, rfl, rfl, hL, hbel⟩ := hrel
      by_cases hlt : i < ps.length
      · obtain ⟨b, off, rfl, hbl, hPP⟩ := HPE.out (by omega)
        obtain ⟨hg, ⟨hx0, hx1⟩, hy0, hy1⟩ := hPP i hlt
        obtain ⟨g0, g1⟩ := hg.below hbel hbl
        have hlt' : (i : Int) < ps.length := by omega
        have hge' : (0 : Int) ≤ i := by omega
        have hbl2 : b < wr.heap.size := Nat.lt_of_lt_of_le hbl hbel.size
        have Htk : Hid (pairCells ((jobsOf ps rdy).take (i + 1)) = pairCells ((jobsOf ps rdy).take i) ++ [.int .i64 ((jobsOf ps rdy).getD i (0, 0)).1, .int .i64 ((jobsOf ps rdy).getD i (0, 0)).2]) := pairCells_take _ i (by rw [Hlen.out]; exact hlt)
        have Hs1 : Hid (minSum (jobsOf ps rdy) (i + 1) = minSum (jobsOf ps rdy) i + ((jobsOf ps rdy).getD i (0, 0)).2) := rfl
        have Hm1 : Hid (minMost (jobsOf ps rdy) (i + 1) = max (minMost (jobsOf ps rdy) i) ((jobsOf ps rdy).getD i (0, 0)).2) := rfl
        have hsr := minSum_range (B := 255) (fun k hk => ⟨(Hjr.out k hk).2.2.1, (Hjr.out k hk).2.2.2⟩) i (by rw [Hlen.out]; omega)
        have hmr := minMost_range (B := 255) (by omega) (fun k hk => ⟨(Hjr.out k hk).2.2.1, (Hjr.out k hk).2.2.2⟩) i (by rw [Hlen.out]; omega)
        have hgi := Hget.out i hlt
        rw [hgi] at Htk Hs1 Hm1
        unfold jobOf at Htk Hs1 Hm1
        dsimp only at Htk Hs1 Hm1
        clear hPP hgi
        generalize (ps.getD i (0, 0)).1 = r at *
        generalize (ps.getD i (0, 0)).2 = m at *
        generalize minSum (jobsOf ps rdy) i = S at *
        generalize minMost (jobsOf ps rdy) i = M at *
        have hws : IntKind.i64.wrap (S + m) = S + m := IntWalk.i64_in _ (by omega)
        obtain ⟨r', hr'⟩ : ∃ r', r' = (if rdy = true then r else 0) := ⟨_, rfl⟩
        rw [← hr'] at Htk
        have hx1 := (Below.refl wr.heap.size wr).alloc (Nat.le_refl _) (.cells #[.int .u8 r, .int .u8 m] 104)
        have hx2 := hx1.alloc hx1.size (.cells #[.int .i64 r', .int .i64 m] 106)
        have hx3 := hx2.alloc hx2.size (.cells #[.int .i64 r', .int .i64 m] 106)
        have hcn := cell_new2 ((wr.alloc (.cells #[.int .u8 r, .int .u8 m] 104)).alloc (.cells #[.int .i64 r', .int .i64 m] 106)) (.int .i64 r') (.int .i64 m) 106
        rw [World.size_alloc, World.size_alloc] at hcn
        have HCN := Lib.hid hcn
        have HL2 := Lib.hid (hL.below hx3)
        have hN0 := blk_new (wr.alloc (.cells #[.int .u8 r, .int .u8 m] 104)) #[.int .i64 r', .int .i64 m] 106
        have hN1 := blk_keep hN0 ((Below.refl _ _).alloc (Nat.le_refl _) (.cells #[.int .i64 r', .int .i64 m] 106)) (blk_lt hN0)
        rw [World.size_alloc] at hN1
        have hLlt := Lib.hid (fun g (h : u10.ownBlock = some g) => (hL.lt h).1)
        clear hcn hL hx1 hx2 hN0
        cases rdy
        all_goals
          simp only [Bool.false_eq_true, if_false, if_true] at hr'
          subst hr'
          go_wp2_with (at_builtin; refine wpList_append_lrow _ rfl (.tmp 56) (.tmp 58) 64 rfl w.heap.size 106 i0 _ 2 16 Try.underlying64 hi0 hz0 hz1 hz2 rfl (by decide) hzd _ _ _ rfl HL2.out ⟨wr.heap.size + 1 + 1, 0, none⟩ 1 1 _ rfl rfl HCN.out (one2 _ _) (nd2 _ _) (by omega) (by unfold maxLen; omega) (by omega) (by simp; have := hbel.size; omega) ?_)
          intro g cap' w3 hL3 hgr hat
          have hsz3 := hgr.size
          rw [World.size_alloc, World.size_alloc, World.size_alloc] at hsz3
          have hN3 := (hgr.block (wr.heap.size + 1) (by simp) (fun e => by have := hLlt.out _ e.symm; omega)).trans hN1
          have m0 := blk_cell hN3 0 _ rfl
          have m1 := blk_cell hN3 1 _ rfl
          have hx4 : Below w.heap.size w w3 := (hbel.trans (hx3.mono hbel.size)).grown hgr (by simp; have := hbel.size; omega) (ownBlock_base HL2.out.1)
          have HL3 := Lib.hid hL3
          clear hL3 hgr hat hsz3 hN1 hN3 hx3
          go_wp2_with fail
          go_region
          go_wp2_with fail
          exact ⟨⟨i + 1, by omega, by go_num, by rw [Hs1.out], by rw [Hm1.out], by rw [Htk.out]; exact HL3.out.below (Below.refl _ _).drew, hx4.drew⟩, meas_up hlt⟩
      · obtain rfl : i = ps.length := by omega
        have hP0 := PairsOf.ofRow (by rw [← Hlen.out, List.take_length] at hL; exact hL)
        have hjok : jobsErr (jobsOf ps rdy) n = 0 := jobsErr_of (by rw [Hlen.out]; omega) hn1 hn8 (fun i hi => by have := Hjr.out i hi; omega)
        have Hzero : Hid (rdy = false → ∀ i, i < (jobsOf ps rdy).length → ((jobsOf ps rdy).getD i (0, 0)).1 = 0) := fun h i hi => by
          rw [Hget.out i (by rw [← Hlen.out]; exact hi), h]
          rfl
        rw [← Hlen.out]
        have hljs : (jobsOf ps rdy).length ≤ 20 := by rw [Hlen.out]; exact hlp
        generalize jobsOf ps rdy = js at *
        clear hL Hget
        have HP := Lib.hid hP0
        obtain ⟨aoj, capj, rfl, _⟩ := hP0
        have HJ0 := Lib.hid hjok
        clear hjok
        go_wp2_with fail
        refine (greedyC_any js n _ _ HP.out).mono ?_
        rintro e w1 ⟨vp, rfl, hvp, hcp, hb1⟩
        have HPL := Lib.hid hvp
        have HCP := Lib.hid hcp
        obtain ⟨aol, capl, rfl, _⟩ := hvp
        have HP1 := Lib.hid (HP.out.below hb1)
        have hx1 := below_join hbel hb1
        clear hcp
        go_wp2_with fail
        refine (bound_any js n _ _ HP1.out).mono ?_
        rintro e w2 ⟨vs, rfl, hvs, hb2⟩
        have HSH := Lib.hid hvs
        obtain ⟨aoh, caph, rfl, _⟩ := hvs.opened
        have HP2 := Lib.hid (HP1.out.below hb2)
        have HPL2 := Lib.hid (HPL.out.below hb2)
        have hx2 := below_join hx1 hb2
        clear hvs HP HP1 HPL
        go_wp2_with fail
        refine (length_any js n (greedyL js n) _ _ _ HP2.out HPL2.out HCP.out).mono ?_
        rintro e w3 ⟨rfl, hb3⟩
        have HP3 := Lib.hid (HP2.out.below hb3)
        have HPL3 := Lib.hid (HPL2.out.below hb3)
        have HSH3 := Lib.hid (HSH.out.below hb3)
        have hx3 := below_join hx2 hb3
        have hge : planErr js n (greedyL js n) = 0 := greedy_good HJ0.out
        have hlv : lenVal js n (greedyL js n) = endTo js (greedyL js n) (greedyL js n).length := by unfold lenVal; rw [if_pos hge]
        rw [hlv, hge, HJ0.out]
        have HGE := Lib.hid hge
        clear HP2 HPL2 HSH hge hlv
        go_wp2_with fail
        refine (checkPlan_any js n (greedyL js n) _ _ _ HP3.out HPL3.out HCP.out).mono ?_
        rintro e w4 ⟨rfl, hb4⟩
        have HP4 := Lib.hid (HP3.out.below hb4)
        have HPL4 := Lib.hid (HPL3.out.below hb4)
        have HSH4 := Lib.hid (HSH3.out.below hb4)
        have hx4 := below_join hx3 hb4
        have hge := HGE.out
        have hbf := bound_fits hge
        have hbs := bound_shown HJ0.out
        have hgr := graham (js := js) HJ0.out
        have hgl : (greedyL js n).length = js.length := (goodPlan_of hge).len
        rw [hge]
        have hsr := minSum_range (B := 255) (fun k hk => ⟨(Hjr.out k hk).2.2.1, (Hjr.out k hk).2.2.2⟩) js.length (Nat.le_refl _)
        have hmr := minMost_range (B := 255) (by omega) (fun k hk => ⟨(Hjr.out k hk).2.2.1, (Hjr.out k hk).2.2.2⟩) js.length (Nat.le_refl _)
        have hL0 := endTo_nonneg js (greedyL js n) (greedyL js n).length
        have hL1 : endTo js (greedyL js n) (greedyL js n).length ≤ 1073741824 + 255 := endTo_le _ _ _ _ (by omega) (fun i hi => by
          have h1 := (goodPlan_of hge).start i (by omega)
          have h2 := Hjr.out i (by omega)
          omega)
        have HSHW := Lib.hid hbs.1
        have HENO := Lib.hid hbs.2
        have Hle : Hid (boundN js n ≤ endTo js (greedyL js n) (greedyL js n).length) := hbf
        have tl : decide (endTo js (greedyL js n) (greedyL js n).length < boundN js n) = false := decide_eq_false (by omega)
        have HPLV := Lib.hid (goodPlan_of hge)
        have hsl : (boundL js n).length ≤ 20 := by
          rcases Nat.eq_zero_or_pos (boundL js n).length with h | h
          · omega
          · exact shows_length HSHW.out hljs
        have hbn0 := boundN_nonneg js n
        clear hbs hb1 hb2 hb3 hb4 hx1 hx2 hx3 HP3 HPL3 HSH3 hbel
        generalize boundL js n = shown at *
        generalize hBN : boundN js n = bnd at *
        generalize greedyL js n = plan at *
        generalize endTo js plan plan.length = L at *
        generalize hSM : minSum js js.length = SM at *
        generalize hMM : minMost js js.length = MM at *
        have hgr2 : rdy = false → n * L ≤ SM + (n - 1) * MM := fun h => hgr (Hzero.out h)
        have hm1 : 0 ≤ n * L := Int.mul_nonneg (by omega) hL0
        have hm2 : n * L ≤ 8 * L := Int.mul_le_mul_of_nonneg_right hn8 hL0
        have hm3 : 0 ≤ (n - 1) * MM := Int.mul_nonneg (by omega) hmr.1
        have hm4 : (n - 1) * MM ≤ 7 * MM := Int.mul_le_mul_of_nonneg_right (by omega) hmr.1
        have hw1 : IntKind.i64.wrap (n * L) = n * L := IntWalk.i64_in _ (by omega)
        have hw2 : IntKind.i64.wrap ((n - 1) * MM) = (n - 1) * MM := IntWalk.i64_in _ (by omega)
        have hw3 : IntKind.i64.wrap (SM + (n - 1) * MM) = SM + (n - 1) * MM := IntWalk.i64_in _ (by omega)
        have Hbn0 : Hid (0 ≤ bnd) := hbn0
        have Htg : Hid (rdy = false → decide (n * L > SM + (n - 1) * MM) = false) := fun h => decide_eq_false (by have := hgr2 h; omega)
        have Hgl := Lib.hid hgl
        have HBN := Lib.hid hBN
        have HSM := Lib.hid hSM
        have HMM := Lib.hid hMM
        have Hle2 := Lib.hid hsl
        clear hgr hgr2 hm1 hm2 hm3 hm4 hbf hge hgl hSM hMM hBN
        have hbn : 0 ≤ bnd := Hbn0.out
        go_upto_region 20 with fail
        go_cut [124] from 111 to 124 (fun s wx => s = .bool false ∧ w4 = wx)
        case first =>
          cases rdy
          all_goals
            try have tg := Htg.out rfl
            clear Htg
            go_wp2_with fail
            go_meet
            exact ⟨rfl, rfl⟩
        case rest =>
          obtain ⟨rfl, rfl⟩ := hcut
          clear Htg hw1 hw2 hw3
          go_wp2_with fail
          go_loop [23, 24, 127] (fun lv mv iv => ∃ (i : Nat), i ≤ shown.length ∧ iv = .int .i64 i ∧ lv = .int .i64 (leastTo js shown i) ∧ mv = .int .i64 (minutesTo js shown i)) (fun _ _ iv => shown.length - (intOf iv).toNat)
          case atStart => exact ⟨0, Nat.zero_le _, rfl, rfl, rfl⟩
          case round =>
            obtain ⟨i, hi, rfl, rfl, rfl⟩ := hrel
            obtain ⟨aox, capx, ea, hSB⟩ := HSH4.out.opened
            simp only [Value.slice.injEq, true_and] at ea
            obtain ⟨rfl, rfl⟩ := ea
            have hmb := minutesTo_range Hjr.out HSHW.out i hi
            have hlb := leastTo_range Hjr.out HSHW.out i hi
            by_cases hlt : i < shown.length
            · obtain ⟨b, off, rfl, hbl, hSS⟩ := hSB (by omega)
              have s0 := hSS i hlt
              obtain ⟨hk, hasc⟩ := HSHW.out i hlt
              obtain ⟨aoy, capy, ea, hJB⟩ := HP4.out
              simp only [Value.slice.injEq, true_and] at ea
              obtain ⟨rfl, rfl⟩ := ea
              obtain ⟨bj, offj, rfl, hblj, hJJ⟩ := hJB (by omega)
              obtain ⟨k0, k1⟩ := hJJ _ hk
              have hjk := Hjr.out _ hk
              have hlt' : (i : Int) < shown.length := by omega
              have hge' : (0 : Int) ≤ i := by omega
              have hk' : ((shown.getD i 0 : Nat) : Int) < js.length := by omega
              have hkn : (0 : Int) ≤ ((shown.getD i 0 : Nat) : Int) := by omega
              have Hl1 : Hid (leastTo js shown (i + 1) = if i = 0 ∨ (js.getD (shown.getD i 0) (0, 0)).1 < leastTo js shown i then (js.getD (shown.getD i 0) (0, 0)).1 else leastTo js shown i) := rfl
              have Hm1 : Hid (minutesTo js shown (i + 1) = minutesTo js shown i + (js.getD (shown.getD i 0) (0, 0)).2) := rfl
              have HSS := Lib.hid hSS
              have Hasc := Lib.hid hasc
              clear hSS hSB hJB hJJ hasc
              generalize leastTo js shown i = le at *
              generalize minutesTo js shown i = mi at *
              generalize (js.getD (shown.getD i 0) (0, 0)).1 = jr at *
              generalize (js.getD (shown.getD i 0) (0, 0)).2 = jm at *
              have hws : IntKind.i64.wrap (mi + jm) = mi + jm := IntWalk.i64_in _ (by omega)
              rcases Nat.eq_zero_or_pos i with hi0 | hi0
              · have Hl2 : Hid (leastTo js shown (i + 1) = jr) := by show _ = _; rw [Hl1.out, if_pos (.inl hi0)]
                have ti : decide ((i : Int) > 0) = false := by simp; omega
                have ti' : decide (0 < i) = false := by simp; omega
                have ti2 : ((i : Int) == 0) = true := by simp; omega
                clear hi0 Hl1
                generalize shown.getD i 0 = k at *
                go_wp2_with fail
                exact ⟨⟨i + 1, by omega, by go_num, by rw [Hl2.out], by rw [Hm1.out]⟩, meas_up hlt⟩
              · have ti : decide ((i : Int) > 0) = true := by simp; omega
                have ti' : decide (0 < i) = true := by simp; omega
                have ti2 : ((i : Int) == 0) = false := by simp; omega
                obtain ⟨j, hj⟩ : ∃ j, i = j + 1 := ⟨i - 1, by omega⟩
                have s1 := HSS.out j (by omega)
                have e1' : IntKind.i64.wrap ((i : Int) - 1) = (j : Int) := by rw [show (i : Int) - 1 = (j : Int) by omega]; exact IntWalk.i64_in _ (by omega)
                have e2' : (i : Int) - 1 = (j : Int) := by omega
                have hj2 : (j : Int) < shown.length := by omega
                have hj0 : (0 : Int) ≤ j := by omega
                have hlt2 : shown.getD j 0 < shown.getD i 0 := by
                  have := Hasc.out hi0
                  rw [show i - 1 = j by omega] at this
                  exact this
                have Hl2 : Hid (jr < le → leastTo js shown (i + 1) = jr) := fun h => by rw [Hl1.out, if_pos (.inr h)]
                have Hl3 : Hid (¬ jr < le → leastTo js shown (i + 1) = le) := fun h => by rw [Hl1.out, if_neg (by omega)]
                clear hi0 Hl1 hj Hasc
                generalize shown.getD i 0 = k at *
                generalize shown.getD j 0 = kj at *
                have tk : decide (k ≤ kj) = false := by simp; omega
                have tk2 : decide ((kj : Int) ≥ (k : Int)) = false := by simp; omega
                by_cases hc : jr < le
                · have tc : decide (jr < le) = true := decide_eq_true hc
                  have Hl4 := Lib.hid (Hl2.out hc)
                  clear hc Hl2 Hl3
                  go_wp2_with fail
                  exact ⟨⟨i + 1, by omega, by go_num, by rw [Hl4.out], by rw [Hm1.out]⟩, meas_up hlt⟩
                · have tc : decide (jr < le) = false := decide_eq_false hc
                  have Hl4 := Lib.hid (Hl3.out hc)
                  clear hc Hl2 Hl3
                  go_wp2_with fail
                  exact ⟨⟨i + 1, by omega, by go_num, by rw [Hl4.out], by rw [Hm1.out]⟩, meas_up hlt⟩
            · obtain rfl : i = shown.length := by omega
              have Hlen1 : Hid (shown.length = shown.length) := rfl
              generalize leastTo js shown shown.length = le at *
              generalize minutesTo js shown shown.length = mi at *
              have hw1 : IntKind.i64.wrap (mi + n) = mi + n := IntWalk.i64_in _ (by omega)
              have hw2 : IntKind.i64.wrap (mi + n - 1) = mi + n - 1 := IntWalk.i64_in _ (by omega)
              have hne : n ≠ 0 := by omega
              have hq0 := Int.ediv_nonneg (show 0 ≤ mi + n - 1 by omega) (show 0 ≤ n by omega)
              have hq1 := Int.ediv_le_self n (show 0 ≤ mi + n - 1 by omega)
              have hw3 : IntKind.i64.wrap (le + (mi + n - 1) / n) = le + (mi + n - 1) / n := IntWalk.i64_in _ (by omega)
              have hw4 : wrap64 (le + (mi + n - 1) / n) = le + (mi + n - 1) / n := (IntWalk.i64_left _).symm.trans hw3
              have heno := HENO.out
              have hw5 : IntKind.i64.wrap (le + mi) = le + mi := IntWalk.i64_in _ (by omega)
              go_upto_region 32 with fail
              go_cut [27] from 177 to 198 (fun s wx => s = .bool true ∧ w4 = wx)
              case first =>
                by_cases hc : bnd ≤ le + (mi + n - 1) / n
                · have tc : decide (le + (mi + n - 1) / n ≥ bnd) = true := decide_eq_true hc
                  clear hq0 hq1 hc heno
                  go_wp2_with fail
                  go_meet
                  exact ⟨rfl, rfl⟩
                · have tc : decide (le + (mi + n - 1) / n ≥ bnd) = false := decide_eq_false hc
                  obtain ⟨h1, h2⟩ := heno.resolve_left hc
                  have tc1 : ((shown.length : Int) == 1) = true := by simp; omega
                  have tc2 : (le + mi == bnd) = true := by simp; omega
                  clear hq0 hq1 hc heno h1 h2
                  go_wp2_with fail
                  go_meet
                  exact ⟨rfl, rfl⟩
              case rest =>
                obtain ⟨rfl, rfl⟩ := hcut
                clear hw1 hw2 hw3 hw4 hw5 hq0 hq1 heno hmb hlb hSB
                obtain ⟨iS, hiS, hzS, hsS, hyS⟩ := info_parts info_slot
                have hbase : w.heap.size ≤ w4.heap.size := hx4.size
                have hx5 := (Below.refl w4.heap.size w4).alloc (Nat.le_refl _) (.cells #[] 79)
                have HLE := Lib.hid (LRow.lit (w := w4) (e := 79) (size := 2) (Nat.le_refl _) #[] 0 (by unfold maxLen; omega) rfl (by simp))
                have HPL5 := Lib.hid (HPL4.out.below hx5)
                have Hpl1 : Hid (plan.length ≤ 20) := by show _ ≤ _; rw [Hgl.out]; exact hljs
                have hpl1 := Hpl1.out
                go_wp2_with (at_builtin; refine wpList_append_lrow0 _ rfl (.tmp 201) (.tmp 202) 65 rfl w4.heap.size 79 iS _ 2 16 Try.underlying65 hiS hzS hsS hyS rfl (by decide) hzd _ _ _ rfl HLE.out aol plan.length capl (pairCells plan) rfl (pairCells_length' _) (pairs_news HPL5.out) (pairCells_one _) (pairCells_nodig _) (by unfold maxLen; omega) (by omega) (by simp) ?_)
                intro vo w6 hL6 hgr6 hat6
                obtain ⟨aoo, capo, rfl, _, _⟩ := hL6.capOk
                have hx6 : Below w4.heap.size w4 w6 := hx5.grown hgr6 (by simp) (by intro k hk; simp [Value.ownBlock] at hk; omega)
                clear HLE HPL5 hgr6 hat6
                have HL6 := Lib.hid hL6
                have HC6 := Lib.hid (capOk_row hL6)
                clear hL6
                go_wp2_with fail
                go_loopw [206] (fun iv wr => ∃ (i : Nat), i ≤ plan.length ∧ iv = .int .i64 i ∧ LRow wr w4.heap.size 79 2 (.slice aoo plan.length capo) plan.length (pairCells (otherTo plan sh n i)) ∧ Below w4.heap.size w4 wr)
                  (fun iv _ => plan.length - (intOf iv).toNat)
                case atStart => exact ⟨0, Nat.zero_le _, rfl, HL6.out, hx6⟩
                case round =>
                  obtain ⟨i, hi, rfl, hL, hb4⟩ := hrel
                  have hbel := hx4.trans (hb4.mono hbase)
                  by_cases hlt : i < plan.length
                  · have hlt' : (i : Int) < plan.length := by omega
                    have hge' : (0 : Int) ≤ i := by omega
                    have Hot : Hid (otherTo plan sh n (i + 1) = if i < sh.length then (otherTo plan sh n i).set i (slid n (plan.getD i (0, 0)) (sh.getD i 0)) else otherTo plan sh n i) := rfl
                    by_cases hs : i < sh.length
                    · have ts : decide ((i : Int) < (sh.length : Int)) = true := by simp; omega
                      have ts' : decide (i < sh.length) = true := by simp; omega
                      have hs' : (i : Int) < sh.length := by omega
                      have Hot2 := Hot.out
                      rw [if_pos hs] at Hot2
                      have HOT := Lib.hid Hot2
                      obtain ⟨b, off, rfl, hbl, hSS⟩ := HSE.out (by omega)
                      obtain ⟨hc, hb0, hb1⟩ := hSS i hs
                      have hbl2 : b < wr.heap.size := Nat.lt_of_lt_of_le hbl hbel.size
                      have c0 := (hbel.cell (p := ⟨b, off + i, none⟩) hbl).trans hc
                      obtain ⟨go, capq, eo⟩ := ownsRow_some hL.1 (by omega)
                      simp only [Value.slice.injEq, true_and] at eo
                      obtain ⟨rfl, rfl⟩ := eo
                      have hol := otherTo_length plan sh n i
                      obtain ⟨q0, q1⟩ := pairCells_get (otherTo plan sh n i) i (by omega)
                      rw [otherTo_get plan sh n i i (Nat.le_refl _)] at q0 q1
                      have f0 := hL.at q0
                      have f1 := hL.at q1
                      have hgo := hL.lt (g := go) rfl
                      have hov := HPLV.out.oven i (by rw [← Hgl.out]; exact hlt)
                      have hst := HPLV.out.start i (by rw [← Hgl.out]; exact hlt)
                      have hjr := Hjr.out i (by rw [← Hgl.out]; exact hlt)
                      have hset := pairCells_set2 (otherTo plan sh n i) i ((plan.getD i (0, 0)).1 + sh.getD i 0 / 64) n ((plan.getD i (0, 0)).2 + sh.getD i 0 % 7) (by omega)
                      have HSET := Lib.hid hset
                      unfold slid at HOT
                      clear Hot Hot2 hSS hc hol q0 q1 hset
                      have hst0 : 0 ≤ (plan.getD i (0, 0)).2 := by omega
                      generalize sh.getD i 0 = s at *
                      generalize (plan.getD i (0, 0)).1 = o at *
                      generalize (plan.getD i (0, 0)).2 = st at *
                      have hfr := hL.1.frozenAt (i * 2 + 1)
                      have hw1 : IntKind.i64.wrap (st + s % 7) = st + s % 7 := IntWalk.i64_in _ (by omega)
                      have hl7 := (hL.stored (i * 2 + 1) (.int .i64 (st + s % 7)) (noDig_i64 _)).1
                      have hx7 := (hb4.setCell (p := ⟨go, i * 2 + 1, none⟩) hgo.2 (.int .i64 (st + s % 7))).drew
                      have hL7 := hl7.below (Below.refl _ _).drew
                      have c7 : (wr.setCell ⟨go, i * 2 + 1, none⟩ (.int .i64 (st + s % 7))).drew.cell? ⟨b, off + i, none⟩ = some (.int .u8 s) := (((Below.refl w4.heap.size wr).setCell (p := ⟨go, i * 2 + 1, none⟩) hgo.2 (.int .i64 (st + s % 7))).cell (p := ⟨b, off + i, none⟩) (Nat.lt_of_lt_of_le hbl hx4.size)).trans c0
                      have f7 : (wr.setCell ⟨go, i * 2 + 1, none⟩ (.int .i64 (st + s % 7))).drew.cell? ⟨go, i * 2, none⟩ = some (.int .i64 o) := (cell_set_apart wr go (i * 2 + 1) (i * 2) _ (by omega)).trans f0
                      clear hl7
                      go_wp2_with fail
                      go_region
                      have hgo7 : go < (wr.setCell ⟨go, i * 2 + 1, none⟩ (.int .i64 (st + s % 7))).drew.heap.size := (hL7.lt (g := go) rfl).1
                      clear hw1 hfr f0 f1 c0 hL hb4 hbel
                      generalize (wr.setCell ⟨go, i * 2 + 1, none⟩ (.int .i64 (st + s % 7))).drew = W7 at *
                      have hw2 : IntKind.i64.wrap (o + s / 64) = o + s / 64 := IntWalk.i64_in _ (by omega)
                      have ho2 : 0 ≤ o + s / 64 := by omega
                      have hne : n ≠ 0 := by omega
                      have hfr := hL7.1.frozenAt (i * 2)
                      have HL8 := Lib.hid (hL7.stored (i * 2) (.int .i64 ((o + s / 64) % n)) (noDig_i64 _)).1
                      have HX8 := Lib.hid (hx7.setCell (p := ⟨go, i * 2, none⟩) hgo.2 (.int .i64 ((o + s / 64) % n)))
                      clear hL7 hx7
                      go_wp2_with fail
                      go_region
                      go_wp2_with fail
                      exact ⟨⟨i + 1, by omega, by go_num, by rw [HOT.out, ← HSET.out]; exact HL8.out.below (Below.refl _ _).drew, HX8.out.drew⟩, meas_up hlt⟩
                    · have ts : decide ((i : Int) < (sh.length : Int)) = false := by simp; omega
                      have ts' : decide (i < sh.length) = false := by simp; omega
                      have Hot2 := Hot.out
                      rw [if_neg hs] at Hot2
                      have HOT := Lib.hid Hot2
                      clear hs Hot Hot2
                      go_wp2_with fail
                      exact ⟨⟨i + 1, by omega, by go_num, by rw [HOT.out]; exact hL, hb4⟩, meas_up hlt⟩
                  · obtain rfl : i = plan.length := by omega
                    have hol := otherTo_length plan sh n plan.length
                    generalize otherTo plan sh n plan.length = oth at *
                    have hPo := PairsOf.ofRow (by rw [hol]; exact hL)
                    have HPO := Lib.hid hPo
                    have HPJ := Lib.hid (HP4.out.below hb4)
                    have Hfit := Lib.hid (fun h : planErr js n oth = 0 => bound_fits h)
                    have HOL := Lib.hid hol
                    clear hPo hL hol
                    go_wp2_with fail
                    refine (length_any js n oth _ _ _ HPJ.out HPO.out HC6.out).mono ?_
                    rintro e w8 ⟨rfl, hb8⟩
                    have hx8 := below_join hbel hb8
                    clear hb8 hb4 hbel
                    by_cases hpe : planErr js n oth = 0
                    · have te : (planErr js n oth == 0) = true := by simp [hpe]
                      have hlv : lenVal js n oth = endTo js oth oth.length := by unfold lenVal; rw [if_pos hpe]
                      have hfit := Hfit.out hpe
                      rw [HBN.out] at hfit
                      have tf : decide (lenVal js n oth < bnd) = false := by rw [hlv]; exact decide_eq_false (by omega)
                      clear hpe hlv hfit Hfit
                      generalize planErr js n oth = pe at *
                      generalize lenVal js n oth = lv at *
                      go_wp2_with fail
                      refine (awake_any _).mono ?_
                      rintro e w9 ⟨rfl, hb9⟩
                      go_wp2_with fail
                      go_ret
                      exact ⟨rfl, below_join hx8 hb9⟩
                    · have te : (planErr js n oth == 0) = false := by simp [hpe]
                      clear hpe Hfit
                      generalize planErr js n oth = pe at *
                      generalize lenVal js n oth = lv at *
                      go_wp2_with fail
                      refine (awake_any _).mono ?_
                      rintro e w9 ⟨rfl, hb9⟩
                      go_wp2_with fail
                      go_ret
                      exact ⟨rfl, below_join hx8 hb9⟩

end Go.Proofs.Ytdjdnfjgklaneaa
