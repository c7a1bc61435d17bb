/- Part e of the lemmas and walks. -/
import Derived.Maps.Own
import Derived.Test.YtmfochplnchgcaaGreatGa
import Derived.Test.YtmfochplnchgcaaGreatGc
import Derived.Test.YtmfochplnchgcaaGreatGd

/- THE LIFE THAT A LOG TAKES: plain. -/
namespace Go.Proofs.YtmfochplnchgcaaGreat
open Go.RowKit

theorem firstErr_all {f : Nat → Int} {n : Nat} (h : firstErr f n = 0) : ∀ i, i < n → f i = 0 := by
  induction n with
  | zero => intro i hi; omega
  | succ n ih =>
    intro i hi
    have h0 : firstErr f n = 0 := by
      rcases Classical.em (firstErr f n = 0) with h1 | h1
      · exact h1
      · have := firstErr_stay h1 (Nat.le_succ n)
        rw [this] at h
        exact absurd h h1
    rw [firstErr_step h0] at h
    rcases Nat.lt_or_ge i n with h1 | h1
    · exact ih h0 i h1
    · obtain rfl : i = n := by omega
      exact h

theorem tab_ok {es : List (Rat × Int)} (h : tabErr es = 0) : 0 < es.length ∧ es.length ≤ 16 ∧ ∀ i, i < es.length → 0 ≤ (es.getD i (0, 0)).2 ∧ (es.getD i (0, 0)).2 ≤ 1000 := by
  unfold tabErr at h
  split at h
  · omega
  · rename_i hl
    refine ⟨by omega, by omega, fun i hi => ?_⟩
    have := firstErr_all h i hi
    unfold entErr at this
    split at this
    · omega
    · split at this
      · omega
      · omega

theorem rateUp_range {es : List (Rat × Int)} (h : ∀ i, i < es.length → 0 ≤ (es.getD i (0, 0)).2 ∧ (es.getD i (0, 0)).2 ≤ 1000) (T : Rat) : 0 ≤ rateUp es T ∧ rateUp es T ≤ 1000 := by
  have key : ∀ i, i ≤ es.length → 0 ≤ rateUp (es.take i) T ∧ rateUp (es.take i) T ≤ 1000 := by
    intro i
    induction i with
    | zero => intro _; simp [rateUp]
    | succ i ih =>
      intro hi
      rw [rateUp_take es T i (by omega)]
      split
      · exact h i (by omega)
      · exact ih (by omega)
  have := key es.length (Nat.le_refl _)
  rwa [List.take_length] at this

theorem log_ok {ls : List (Int × Nat)} (h : logErr ls = 0) : ls.length ≤ 256 ∧ ∀ i, i < ls.length → 0 ≤ (ls.getD i (0, 0)).1 ∧ (ls.getD i (0, 0)).1 ≤ 1073741824 ∧ tempOk (ls.getD i (0, 0)).2 = true := by
  unfold logErr at h
  split at h
  · omega
  · refine ⟨by omega, fun i hi => ?_⟩
    have := firstErr_all h i hi
    unfold rdErr at this
    split at this
    · omega
    · rename_i hn
      have h1 : timeB (ls.getD i (0, 0)).1 = true := by
        cases h : timeB (ls.getD i (0, 0)).1
        · exact absurd (.inl h) hn
        · rfl
      have h2 : tempOk (ls.getD i (0, 0)).2 = true := by
        cases h : tempOk (ls.getD i (0, 0)).2
        · exact absurd (.inr h) hn
        · rfl
      unfold timeB at h1
      simp at h1
      exact ⟨h1.1, h1.2, h2⟩

/-- The rate without a reading. -/
def hotI (es : List (Rat × Int)) : Int := (es.getD (es.length - 1) (0, 0)).2
/-- The rate ahead of reading i. -/
def rateI (es : List (Rat × Int)) (gap : Int) (ls : List (Int × Nat)) (i : Nat) : Int :=
  if 0 < i ∧ (ls.getD i (0, 0)).1 - (ls.getD (i - 1) (0, 0)).1 ≤ gap then max (rateUp es (tempQ (ls.getD (i - 1) (0, 0)).2)) (rateUp es (tempQ (ls.getD i (0, 0)).2)) else hotI es
/-- The time of the reading ahead of reading i. -/
def lastT (ls : List (Int × Nat)) (i : Nat) : Int := if i = 0 then 0 else (ls.getD (i - 1) (0, 0)).1
/-- The life lost ahead of reading i. -/
def usedI (es : List (Rat × Int)) (gap : Int) (ls : List (Int × Nat)) (f t : Int) : Nat → Int
  | 0 => 0
  | i + 1 => usedI es gap ls f t i + rateI es gap ls i * bothI f t (lastT ls i) (ls.getD i (0, 0)).1
/-- All the life lost. -/
def usedAll (es : List (Rat × Int)) (gap : Int) (ls : List (Int × Nat)) (f t : Int) : Int :=
  usedI es gap ls f t ls.length + hotI es * bothI f t (lastT ls ls.length) 1073741825

structure GoodLog (es : List (Rat × Int)) (ls : List (Int × Nat)) (f t : Int) : Prop where
  tab : tabErr es = 0
  log : logErr ls = 0
  f0 : 0 ≤ f
  f1 : f ≤ 1073741824
  t0 : 0 ≤ t
  t1 : t ≤ 1073741824

theorem GoodLog.hot {es : List (Rat × Int)} {ls : List (Int × Nat)} {f t : Int} (h : GoodLog es ls f t) : 0 ≤ hotI es ∧ hotI es ≤ 1000 := by
  obtain ⟨h1, h2, h3⟩ := tab_ok h.tab
  exact h3 _ (by omega)
theorem GoodLog.up {es : List (Rat × Int)} {ls : List (Int × Nat)} {f t : Int} (h : GoodLog es ls f t) (T : Rat) : 0 ≤ rateUp es T ∧ rateUp es T ≤ 1000 := rateUp_range (tab_ok h.tab).2.2 T
theorem GoodLog.rate {es : List (Rat × Int)} {ls : List (Int × Nat)} {f t : Int} (h : GoodLog es ls f t) (gap : Int) (i : Nat) : 0 ≤ rateI es gap ls i ∧ rateI es gap ls i ≤ 1000 := by
  unfold rateI
  split
  · have a := h.up (tempQ (ls.getD (i - 1) (0, 0)).2)
    have b := h.up (tempQ (ls.getD i (0, 0)).2)
    omega
  · exact h.hot
theorem GoodLog.last {es : List (Rat × Int)} {ls : List (Int × Nat)} {f t : Int} (h : GoodLog es ls f t) (i : Nat) (hi : i ≤ ls.length) : 0 ≤ lastT ls i ∧ lastT ls i ≤ 1073741824 := by
  unfold lastT
  split
  · omega
  · have := (log_ok h.log).2 (i - 1) (by omega)
    omega
theorem GoodLog.both {es : List (Rat × Int)} {ls : List (Int × Nat)} {f t : Int} (h : GoodLog es ls f t) (a b : Int) : 0 ≤ bothI f t a b ∧ bothI f t a b ≤ 1073741824 := by
  have := h.f0
  have := h.t1
  unfold bothI
  omega
theorem mul_range {x y : Int} (hx0 : 0 ≤ x) (hx : x ≤ 1000) (hy0 : 0 ≤ y) (hy : y ≤ 1073741824) : 0 ≤ x * y ∧ x * y ≤ 1073741824000 := by
  refine ⟨Int.mul_nonneg hx0 hy0, ?_⟩
  have a := Int.mul_le_mul_of_nonneg_right hx hy0
  have b := Int.mul_le_mul_of_nonneg_left hy (show (0 : Int) ≤ 1000 by omega)
  omega
theorem GoodLog.used {es : List (Rat × Int)} {ls : List (Int × Nat)} {f t : Int} (h : GoodLog es ls f t) (gap : Int) (i : Nat) : 0 ≤ usedI es gap ls f t i ∧ usedI es gap ls f t i ≤ 1073741824000 * i := by
  induction i with
  | zero => simp [usedI]
  | succ i ih =>
    have r := h.rate gap i
    have b := h.both (lastT ls i) (ls.getD i (0, 0)).1
    have m := mul_range r.1 r.2 b.1 b.2
    show 0 ≤ usedI es gap ls f t i + rateI es gap ls i * bothI f t (lastT ls i) (ls.getD i (0, 0)).1 ∧ usedI es gap ls f t i + rateI es gap ls i * bothI f t (lastT ls i) (ls.getD i (0, 0)).1 ≤ _
    generalize rateI es gap ls i * bothI f t (lastT ls i) (ls.getD i (0, 0)).1 = z at *
    omega

end Go.Proofs.YtmfochplnchgcaaGreat

/- THE WALK OF store.from. -/
namespace Go.Proofs.YtmfochplnchgcaaGreat
open Go.RowKit

theorem jobs_ok {js : List (Int × Int)} {ovens : Int} (h : jobsErr js ovens = 0) : GoodJobs js ovens := by
  unfold jobsErr at h
  split at h
  · omega
  · split at h
    · omega
    · rename_i h1 h2
      refine ⟨by omega, by omega, by omega, fun i hi => ?_⟩
      have := firstErr_all h i hi
      unfold jobErr at this
      split at this
      · omega
      · omega

/-- The jobs that are not ready ahead of r, of the first k. -/
def idxFrom (js : List (Int × Int)) (r : Int) : Nat → List Nat
  | 0 => []
  | k + 1 => if r ≤ (js.getD k (0, 0)).1 then idxFrom js r k ++ [k] else idxFrom js r k
def sumFrom (js : List (Int × Int)) (r : Int) : Nat → Int
  | 0 => 0
  | k + 1 => if r ≤ (js.getD k (0, 0)).1 then sumFrom js r k + (js.getD k (0, 0)).2 else sumFrom js r k
def timeFrom (js : List (Int × Int)) (ovens r : Int) : Int := r + (sumFrom js r js.length + ovens - 1) / ovens
theorem idxFrom_length (js : List (Int × Int)) (r : Int) (k : Nat) : (idxFrom js r k).length ≤ k := by
  induction k with
  | zero => simp [idxFrom]
  | succ k ih =>
    unfold idxFrom
    split
    · rw [List.length_append]; simp; omega
    · omega
theorem sumFrom_range {js : List (Int × Int)} {ovens : Int} (h : GoodJobs js ovens) (r : Int) (k : Nat) (hk : k ≤ js.length) : 0 ≤ sumFrom js r k ∧ sumFrom js r k ≤ 1000000 * k := by
  induction k with
  | zero => simp [sumFrom]
  | succ k ih =>
    have := ih (by omega)
    have := h.job k (by omega)
    unfold sumFrom
    split <;> omega

theorem info_int : (Tryz.prog.info? 3).map (fun i => (i.zero, i.size, i.bytes)) = some (some (.int .i64 0), 1, 8) := by kernel_rfl
/-- Indices as cells. -/
def idxCells (l : List Nat) : List Value := l.map (fun j : Nat => Value.int .i64 (j : Int))

/-- What a row of integers that the call owns reads as. -/
theorem LRow.isRow {w : World} {base : Nat} {e : TypeId} {v : Value} {l : List Nat} (h : LRow w base e 1 v l.length (idxCells l)) : IsRow .i64 w v l := by
  rcases Nat.eq_zero_or_pos l.length with h0 | hp
  · left
    have hl := List.eq_nil_of_length_eq_zero h0
    refine ⟨hl, ?_⟩
    rcases h.1.2 with ⟨rfl, _⟩ | ⟨g, cap, cur, rfl, _, _, _, hcm, _⟩
    · exact ⟨_, _, rfl, by unfold maxLen; omega, fun _ => rfl⟩
    · exact ⟨_, _, by rw [h0], hcm, by simp⟩
  · obtain ⟨g, cap, rfl⟩ := ownsRow_some h.1 hp
    obtain ⟨ho, h1, h2, _⟩ := Own.of_ownsRow (k := .i64) (ds := l) rfl h.1
    exact ho.isRowCap cap h1 h2

/-- What from hands back. -/
def RetIdx (l : List Nat) (n : Int) (w : World) (e : Ending) (w' : World) : Prop :=
  ∃ v, e = .returned (.tuple #[v, .int .i64 n]) ∧ IsRow .i64 w' v l ∧ Below w.heap.size w w'

theorem ownBlock_base {w : World} {base : Nat} {e : TypeId} {size : Nat} {v : Value} {n : Nat} {xs : List Value} (h : w.ownsRow base e size v n xs) : ∀ k, v.ownBlock = some k → base ≤ k := by
  intro k hk
  rcases h.2 with ⟨rfl, _⟩ | ⟨g, cap, cur, rfl, hb, _⟩
  · simp [Value.ownBlock] at hk
  · simp [Value.ownBlock] at hk
    omega

end Go.Proofs.YtmfochplnchgcaaGreat

/- THE WALK OF store.Bound. -/
namespace Go.Proofs.YtmfochplnchgcaaGreat
open Go.RowKit

/-- The best bound by the jobs that are not ready ahead of one of the first k, and that time. -/
def bestTo (js : List (Int × Int)) (ovens : Int) : Nat → Int × Int
  | 0 => (-1, 0)
  | k + 1 => if (bestTo js ovens k).1 < timeFrom js ovens (js.getD k (0, 0)).1 ∨ (timeFrom js ovens (js.getD k (0, 0)).1 = (bestTo js ovens k).1 ∧ (js.getD k (0, 0)).1 < (bestTo js ovens k).2)
    then (timeFrom js ovens (js.getD k (0, 0)).1, (js.getD k (0, 0)).1) else bestTo js ovens k
/-- The jobs that show it. -/
def proofTo (js : List (Int × Int)) (ovens : Int) (k : Nat) : List Nat := if k = 0 then [] else idxFrom js (bestTo js ovens k).2 js.length
/-- Then the best one by a job alone. -/
def topTo (js : List (Int × Int)) (ovens : Int) : Nat → Int × Option Nat
  | 0 => ((bestTo js ovens js.length).1, none)
  | k + 1 => if (topTo js ovens k).1 < (js.getD k (0, 0)).1 + (js.getD k (0, 0)).2 then ((js.getD k (0, 0)).1 + (js.getD k (0, 0)).2, some k) else topTo js ovens k
def shownBy (js : List (Int × Int)) (ovens : Int) (s : Option Nat) : List Nat := match s with | none => proofTo js ovens js.length | some i => [i]
def boundN (js : List (Int × Int)) (ovens : Int) : Int := if jobsErr js ovens = 0 then max (topTo js ovens js.length).1 0 else 0
def boundL (js : List (Int × Int)) (ovens : Int) : List Nat := if jobsErr js ovens = 0 then shownBy js ovens (topTo js ovens js.length).2 else []

theorem timeFrom_range {js : List (Int × Int)} {ovens : Int} (h : GoodJobs js ovens) {r : Int} (h0 : 0 ≤ r) (h1 : r ≤ 1000000) : 0 ≤ timeFrom js ovens r ∧ timeFrom js ovens r ≤ 100000000 := by
  have hs := sumFrom_range h r js.length (Nat.le_refl _)
  have := h.len
  have := h.o1
  have := h.o8
  have hq0 := Int.ediv_nonneg (show 0 ≤ sumFrom js r js.length + ovens - 1 by omega) (show 0 ≤ ovens by omega)
  have hq1 := Int.ediv_le_self ovens (show 0 ≤ sumFrom js r js.length + ovens - 1 by omega)
  unfold timeFrom
  omega
theorem bestTo_range {js : List (Int × Int)} {ovens : Int} (h : GoodJobs js ovens) (k : Nat) (hk : k ≤ js.length) : -1 ≤ (bestTo js ovens k).1 ∧ (bestTo js ovens k).1 ≤ 100000000 ∧ 0 ≤ (bestTo js ovens k).2 ∧ (bestTo js ovens k).2 ≤ 1000000 := by
  induction k with
  | zero => simp [bestTo]
  | succ k ih =>
    have := ih (by omega)
    have hj := h.job k (by omega)
    have := timeFrom_range h hj.1 hj.2.1
    unfold bestTo
    split
    · dsimp only; omega
    · exact ih (by omega)
theorem topTo_range {js : List (Int × Int)} {ovens : Int} (h : GoodJobs js ovens) (k : Nat) (hk : k ≤ js.length) : -1 ≤ (topTo js ovens k).1 ∧ (topTo js ovens k).1 ≤ 100000000 := by
  induction k with
  | zero => have := bestTo_range h js.length (Nat.le_refl _); exact ⟨this.1, this.2.1⟩
  | succ k ih =>
    have := ih (by omega)
    have hj := h.job k (by omega)
    unfold topTo
    split
    · dsimp only; omega
    · exact ih (by omega)

/-- What Bound hands back. -/
def RetBound (n : Int) (l : List Nat) (err : Int) (w : World) (e : Ending) (w' : World) : Prop :=
  ∃ v, e = .returned (.tuple #[.int .i64 n, v, .int .i64 err]) ∧ IsRow .i64 w' v l ∧ Below w.heap.size w w'

end Go.Proofs.YtmfochplnchgcaaGreat

/- TABLES MADE BY THE LAW: the walk of law06.table: two lists, appended to side by side. -/
namespace Go.Proofs.YtmfochplnchgcaaGreat
open Go.RowKit

theorem IsRat.grown {w w' : World} {v : Value} {q : Rat} {row : Option Nat} (h : IsRat w v q) (hg : w.grownBy w' row) (hr : ∀ g, row = some g → NoDig w g) : IsRat w' v q := by
  obtain ⟨vn, vd, rfl, h1, h2⟩ := h
  exact ⟨vn, vd, rfl, IsRow.grown (.inl rfl) h1 hg hr, IsRow.grown (.inl rfl) h2 hg hr⟩
theorem IsR.grown {w w' : World} {v : Value} {q : Rat} {row : Option Nat} (h : IsR w v q) (hg : w.grownBy w' row) (hr : ∀ g, row = some g → NoDig w g) : IsR w' v q := by
  obtain ⟨vn, vd, d', rfl, h1, h2, h3⟩ := h
  exact ⟨vn, vd, d', rfl, IsRow.grown (.inr rfl) h1 hg hr, IsRow.grown (.inr rfl) h2 hg hr, h3⟩

/-- The values xs, four by four, read as the table es. -/
def TabRow (R : World → Value → Rat → Prop) (w : World) (xs : List Value) (es : List (Rat × Int)) : Prop :=
  xs.length = es.length * 4 ∧ ∀ j, j < es.length → ∃ v0 vn vd, xs[j * 4]? = some v0 ∧ xs[j * 4 + 1]? = some vn ∧ xs[j * 4 + 2]? = some vd ∧ xs[j * 4 + 3]? = some (.int .i64 (es.getD j (0, 0)).2) ∧ R w (.agg #[v0, vn, vd]) (es.getD j (0, 0)).1
theorem TabRow.mono {R : World → Value → Rat → Prop} {w w' : World} {xs : List Value} {es : List (Rat × Int)} (h : TabRow R w xs es) (hr : ∀ v q, R w v q → R w' v q) : TabRow R w' xs es :=
  ⟨h.1, fun j hj => by obtain ⟨v0, vn, vd, h0, h1, h2, h3, h4⟩ := h.2 j hj; exact ⟨v0, vn, vd, h0, h1, h2, h3, hr _ _ h4⟩⟩
theorem TabRow.nil (R : World → Value → Rat → Prop) (w : World) : TabRow R w [] [] := ⟨rfl, fun j hj => absurd hj (by simp)⟩
theorem TabRow.snoc {R : World → Value → Rat → Prop} {w : World} {xs : List Value} {es : List (Rat × Int)} (h : TabRow R w xs es) {v0 vn vd : Value} {q : Rat} {r : Int} (hq : R w (.agg #[v0, vn, vd]) q) :
    TabRow R w (xs ++ [v0, vn, vd, .int .i64 r]) (es ++ [(q, r)]) := by
  obtain ⟨hl, h⟩ := h
  refine ⟨by simp [hl]; omega, fun j hj => ?_⟩
  rcases Nat.lt_or_ge j es.length with h1 | h1
  · obtain ⟨u0, un, ud, h0, h2, h3, h4, h5⟩ := h j h1
    have e : ∀ k, k < 4 → (xs ++ [v0, vn, vd, .int .i64 r])[j * 4 + k]? = xs[j * 4 + k]? := fun k hk => List.getElem?_append_left (by omega)
    have e2 : (es ++ [(q, r)]).getD j (0, 0) = es.getD j (0, 0) := by simp [List.getD, List.getElem?_append_left h1]
    rw [e2]
    exact ⟨u0, un, ud, by rw [← h0]; exact e 0 (by omega), by rw [← h2]; exact e 1 (by omega), by rw [← h3]; exact e 2 (by omega), by rw [← h4]; exact e 3 (by omega), h5⟩
  · obtain rfl : j = es.length := by simp at hj; omega
    have e : ∀ k, (xs ++ [v0, vn, vd, .int .i64 r])[es.length * 4 + k]? = ([v0, vn, vd, .int .i64 r] : List Value)[k]? := fun k => by rw [List.getElem?_append_right (by omega), hl]; congr 1; omega
    have e2 : (es ++ [(q, r)]).getD es.length (0, 0) = (q, r) := by simp [List.getD]
    rw [e2]
    exact ⟨v0, vn, vd, e 0, e 1, e 2, e 3, hq⟩
/-- A row that the call owns reads as a table. -/
theorem EntsOf.ofRow {R : World → Value → Rat → Prop} {w : World} {base : Nat} {e : TypeId} {v : Value} {xs : List Value} {es : List (Rat × Int)} (h : LRow w base e 4 v es.length xs) (ht : TabRow R w xs es) : EntsOf R w v es := by
  rcases Nat.eq_zero_or_pos es.length with h0 | hp
  · rcases h.1.2 with ⟨rfl, _⟩ | ⟨g, cap, cur, rfl, _⟩
    · exact ⟨none, 0, by rw [h0], fun h => absurd h (by omega)⟩
    · exact ⟨_, _, rfl, fun h => absurd h (by omega)⟩
  · obtain ⟨g, cap, rfl⟩ := ownsRow_some h.1 hp
    have hc : ∀ j u, xs[j]? = some u → w.cell? ((⟨g, 0, none⟩ : Addr).add j) = some u := h.1.cells (g := g) rfl
    have hlt : g < w.heap.size := (h.lt rfl).1
    refine ⟨_, _, rfl, fun _ => ⟨g, 0, rfl, hlt, fun i hi => ?_⟩⟩
    obtain ⟨v0, vn, vd, h0, h1, h2, h3, h4⟩ := ht.2 i hi
    have ea : ∀ j, (⟨g, 0, none⟩ : Addr).add j = ⟨g, 0 + j, none⟩ := fun j => by unfold Addr.add; split <;> simp_all
    refine ⟨v0, vn, vd, ?_, ?_, ?_, ?_, h4⟩
    · rw [← ea]; exact hc _ _ h0
    · rw [show 0 + i * 4 + 1 = 0 + (i * 4 + 1) by omega, ← ea]; exact hc _ _ h1
    · rw [show 0 + i * 4 + 2 = 0 + (i * 4 + 2) by omega, ← ea]; exact hc _ _ h2
    · rw [show 0 + i * 4 + 3 = 0 + (i * 4 + 3) by omega, ← ea]; exact hc _ _ h3

/-- Two rows that the call owns, of two types: they are two blocks. -/
theorem LRow.apart {w : World} {base : Nat} {eA eB : TypeId} {sA sB : Nat} {va vb : Value} {n m : Nat} {xs ys : List Value} (h : LRow w base eA sA va n xs) (k : LRow w base eB sB vb m ys) (hne : eA ≠ eB) : ∀ g, vb.ownBlock = some g → some g ≠ va.ownBlock := by
  intro g hg e
  rcases h.1.2 with ⟨rfl, _⟩ | ⟨g1, c1, cur1, rfl, _, hh1, _⟩
  · simp [Value.ownBlock] at e
  · rcases k.1.2 with ⟨rfl, _⟩ | ⟨g2, c2, cur2, rfl, _, hh2, _⟩
    · simp [Value.ownBlock] at hg
    · simp [Value.ownBlock] at e hg
      subst e hg
      rw [hh1] at hh2
      simp at hh2
      exact hne hh2.2

theorem cell_new4 (w : World) (a b c d : Value) (t : TypeId) : ∀ j u, [a, b, c, d][j]? = some u → (w.alloc (.cells #[a, b, c, d] t)).cell? ((⟨w.heap.size, 0, none⟩ : Addr).add j) = some u := by
  intro j u hj
  match j, hj with
  | 0, hj => simp at hj; subst hj; simp [Addr.add]
  | 1, hj => simp at hj; subst hj; simp [Addr.add]
  | 2, hj => simp at hj; subst hj; simp [Addr.add]
  | 3, hj => simp at hj; subst hj; simp [Addr.add]
  | j + 4, hj => simp at hj

/-- Three cells read as the law's entry. -/
def LawAt (w : World) (b o : Nat) (t : Int × Int × Int) : Prop := w.cell? ⟨b, o, none⟩ = some (.int .i64 t.1) ∧ w.cell? ⟨b, o + 1, none⟩ = some (.int .i64 t.2.1) ∧ w.cell? ⟨b, o + 2, none⟩ = some (.int .i64 t.2.2)
def LawsOf (w : World) (v : Value) (ts : List (Int × Int × Int)) : Prop :=
  ∃ ao cap, v = .slice ao ts.length cap ∧ (0 < ts.length → ∃ b off, ao = some ⟨b, off, none⟩ ∧ b < w.heap.size ∧ ∀ i, i < ts.length → LawAt w b (off + i * 3) (ts.getD i (0, 0, 0)))
theorem LawAt.below {w w' : World} {b o : Nat} {r : Int × Int × Int} (h : LawAt w b o r) (hb : Below w.heap.size w w') (hl : b < w.heap.size) : LawAt w' b o r :=
  ⟨(hb.cell (p := ⟨b, o, none⟩) hl).trans h.1, (hb.cell (p := ⟨b, o + 1, none⟩) hl).trans h.2.1, (hb.cell (p := ⟨b, o + 2, none⟩) hl).trans h.2.2⟩
theorem LawsOf.below {w w' : World} {v : Value} {ps : List (Int × Int × Int)} (h : LawsOf w v ps) (hb : Below w.heap.size w w') : LawsOf w' v ps := by
  obtain ⟨ao, cap, rfl, h⟩ := h
  refine ⟨ao, cap, rfl, fun hl => ?_⟩
  obtain ⟨b, off, rfl, hlt, h⟩ := h hl
  exact ⟨b, off, rfl, Nat.lt_of_lt_of_le hlt hb.size, fun i hi => (h i hi).below hb hlt⟩
def i64R (n : Int) : Prop := -9223372036854775808 ≤ n ∧ n ≤ 9223372036854775807
def lawsE (ts : List (Int × Int × Int)) : List (Rat × Int) := ts.map fun t => (fracQ t.1 t.2.1, t.2.2)
theorem lawsE_take (ts : List (Int × Int × Int)) (i : Nat) (hi : i < ts.length) : lawsE (ts.take (i + 1)) = lawsE (ts.take i) ++ [(fracQ (ts.getD i (0, 0, 0)).1 (ts.getD i (0, 0, 0)).2.1, (ts.getD i (0, 0, 0)).2.2)] := by
  unfold lawsE
  rw [List.take_add_one, List.map_append]
  simp [hi]
theorem lawsE_length (ts : List (Int × Int × Int)) (i : Nat) (hi : i ≤ ts.length) : (lawsE (ts.take i)).length = i := by simp [lawsE]; omega

/-- What table hands back. -/
def RetTab (ts : List (Int × Int × Int)) (w : World) (e : Ending) (w' : World) : Prop :=
  ∃ va vb, e = .returned (.tuple #[va, vb, .bool true]) ∧ EntsOf IsRat w' va (lawsE ts) ∧ EntsOf IsR w' vb (lawsE ts) ∧ Below w.heap.size w w'
def RetNoTab (w : World) (e : Ending) (w' : World) : Prop := e = .returned (.tuple #[.slice none 0 0, .slice none 0 0, .bool false]) ∧ Below w.heap.size w w'

end Go.Proofs.YtmfochplnchgcaaGreat

/- THE WALK OF ratio's Add. -/
namespace Go.Proofs.YtmfochplnchgcaaGreat
open Go.RowKit

theorem IsRat.stored {w : World} {B : Nat} {neg : Bool} {x1 y1 : Option Addr} {i1 j1 k1 l1 n : Nat} {q : Rat}
    (hB : RB w B) (h1 : IsNat .u64 b64 w (.slice x1 i1 j1) n) (h2 : IsNat .u64 b64 w (.slice y1 k1 l1) (dn q.den))
    (hn : decide (q.num < 0) = neg) (hm : q.num.natAbs = n) :
    IsRat (((w.setCell ⟨B, 0, none⟩ (.bool neg)).setCell ⟨B, 1, none⟩ (.slice x1 i1 j1)).setCell ⟨B, 2, none⟩ (.slice y1 k1 l1)) (.agg #[.bool neg, .slice x1 i1 j1, .slice y1 k1 l1]) q := by
  subst hn hm
  obtain ⟨b, x, i, j, y, k, l, T, hB⟩ := hB
  exact ⟨_, _, rfl, store3 hB h1, store3 hB h2⟩

set_option maxRecDepth 100000 in
set_option maxHeartbeats 4000000 in
theorem addRat_any (x y : Rat) (vx vy : Value) (w : World) (hx : IsRat w vx x) (hy : IsRat w vy y) (hlx : szR x 68719476736) (hly : szR y 68719476736) : Calls Tryz.prog 93 #[vx, vy] w (RetRat (x + y) w) := by
  obtain ⟨a1, c1, a2, c2, rfl, n1, n2⟩ := hx.opened
  obtain ⟨a3, c3, a4, c4, rfl, n3, n4⟩ := hy.opened
  have N1 := Lib.hid n1
  have N2 := Lib.hid n2
  have N3 := Lib.hid n3
  have N4 := Lib.hid n4
  have He := Lib.hid (mkQ_add x y)
  have hA := dig_length_mul b64_two x.num.natAbs y.den
  have hB := dig_length_mul b64_two y.num.natAbs x.den
  have hC := dig_length_mul b64_two x.den y.den
  have HA : Hid ((dig b64 (x.num.natAbs * y.den)).length ≤ 137438953472) := by have := hlx.1; have := hly.2; show _ ≤ _; omega
  have HBB : Hid ((dig b64 (y.num.natAbs * x.den)).length ≤ 137438953472) := by have := hlx.2; have := hly.1; show _ ≤ _; omega
  have HC : Hid ((dig b64 (x.den * y.den)).length ≤ 137438953472) := by have := hlx.2; have := hly.2; show _ ≤ _; omega
  have hS := dig_length_add b64_two (x.num.natAbs * y.den) (y.num.natAbs * x.den) 137438953472 HA.out HBB.out
  have HS := Lib.hid hS
  have HP := Lib.hid (Nat.mul_pos x.den_pos y.den_pos)
  have HLX := Lib.hid hlx
  have HLY := Lib.hid hly
  clear hx hy n1 n2 n3 n4 hlx hly hA hB hC hS
  go_enter Tryz.func93, Tryz.ntmps93
  go_wp2_with fail
  generalize hsx : decide (x.num < 0) = sx at *
  generalize hsy : decide (y.num < 0) = sy at *
  clear hsx hsy
  generalize hW0 : ((w.alloc (.cells #[.bool sx, .slice a1 (dig b64 x.num.natAbs).length c1, .slice a2 (dig b64 (dn x.den)).length c2] 40)).alloc (.cells #[.bool sy, .slice a3 (dig b64 y.num.natAbs).length c3, .slice a4 (dig b64 (dn y.den)).length c4] 40)).alloc (.cells #[.bool false, .slice none 0 0, .slice none 0 0] 40) = W at *
  obtain ⟨hal, hB1, hB2, hB3⟩ := boxes3 w _ _ _ _ W hW0.symm
  clear hW0
  have hW : Below w.heap.size w W.drew := hal.drew
  have p0 := blk_cell hB1 0 (.bool sx) rfl
  have p1 := blk_cell hB1 1 (.slice a1 (dig b64 x.num.natAbs).length c1) rfl
  have p2 := blk_cell hB1 2 (.slice a2 (dig b64 (dn x.den)).length c2) rfl
  have r0 := blk_cell hB2 0 (.bool sy) rfl
  have r1 := blk_cell hB2 1 (.slice a3 (dig b64 y.num.natAbs).length c3) rfl
  have r2 := blk_cell hB2 2 (.slice a4 (dig b64 (dn y.den)).length c4) rfl
  have HB : Hid (RB W (w.heap.size + 2)) := ⟨false, none, 0, 0, none, 0, 0, _, hB3⟩
  have hl3 := blk_lt hB3
  clear hB1 hB2 hB3
  go_region_held3 (fun w' => Below w.heap.size w w' ∧ RB w' (w.heap.size + 2) ∧ w'.cell? ⟨w.heap.size, 0, none⟩ = some (.bool sx) ∧ w'.cell? ⟨w.heap.size, 1, none⟩ = some (.slice a1 (dig b64 x.num.natAbs).length c1) ∧ w'.cell? ⟨w.heap.size, 2, none⟩ = some (.slice a2 (dig b64 (dn x.den)).length c2) ∧ w'.cell? ⟨w.heap.size + 1, 0, none⟩ = some (.bool sy) ∧ w'.cell? ⟨w.heap.size + 1, 1, none⟩ = some (.slice a3 (dig b64 y.num.natAbs).length c3) ∧ w'.cell? ⟨w.heap.size + 1, 2, none⟩ = some (.slice a4 (dig b64 (dn y.den)).length c4) ∧ w'.cell? ⟨w.heap.size + 2, 0, none⟩ = some (cellOf w' ⟨w.heap.size + 2, 0, none⟩) ∧ w'.cell? ⟨w.heap.size + 2, 1, none⟩ = some (cellOf w' ⟨w.heap.size + 2, 1, none⟩) ∧ w'.cell? ⟨w.heap.size + 2, 2, none⟩ = some (cellOf w' ⟨w.heap.size + 2, 2, none⟩) ∧ w'.frozen? ⟨w.heap.size + 2, 0, none⟩ = false ∧ w'.frozen? ⟨w.heap.size + 2, 1, none⟩ = false ∧ w'.frozen? ⟨w.heap.size + 2, 2, none⟩ = false)
    (first | exact hold6 hW p0 p1 p2 r0 r1 r2 HB.out | exact hold6_call (Nat.le_refl _) hbB (by assumption) | exact hold6_call (Nat.le_refl _) hbA (by assumption))
    (first
      | (go_at_call_of 77 (Value.slice a2 (dig b64 (dn x.den)).length c2); (with_reducible refine (under_any x.den _ _ (N2.out.below (And.left (by assumption))) x.den_pos).mono ?_); rintro e wA ⟨vA, rfl, hvA, hbA⟩)
      | (go_at_call_of 77 (Value.slice a4 (dig b64 (dn y.den)).length c4); (with_reducible refine (under_any y.den _ _ (N4.out.below (And.left (by assumption))) y.den_pos).mono ?_); rintro e wB ⟨vB, rfl, hvB, hbB⟩))
  rename_i hS1
  have hD := ext_trans hbA hbB
  have HB1 : Hid (RB wB (w.heap.size + 2)) := RB.keep (a := W.drew) HB.out hD hl3
  have hl31 := HB1.out.lt
  have hXA := Lib.hid (hvA.below hbB)
  have hXB := Lib.hid hvB
  obtain ⟨hWB, -, p0', p1', p2', r0', r1', r2', -⟩ := hS1
  clear p0 p1 p2 r0 r1 r2
  replace p0 := p0'
  replace p1 := p1'
  replace p2 := p2'
  replace r0 := r0'
  replace r1 := r1'
  replace r2 := r2'
  clear p0' p1' p2' r0' r1' r2'
  have hWB2 : Below w.heap.size w wB.drew := hWB.drew
  clear hbA hbB hvA hvB hD HB hW hal hl3
  go_wp2_with fail
  go_region_held3 (fun w' => Below w.heap.size w w' ∧ RB w' (w.heap.size + 2) ∧ w'.cell? ⟨w.heap.size, 0, none⟩ = some (.bool sx) ∧ w'.cell? ⟨w.heap.size, 1, none⟩ = some (.slice a1 (dig b64 x.num.natAbs).length c1) ∧ w'.cell? ⟨w.heap.size, 2, none⟩ = some (.slice a2 (dig b64 (dn x.den)).length c2) ∧ w'.cell? ⟨w.heap.size + 1, 0, none⟩ = some (.bool sy) ∧ w'.cell? ⟨w.heap.size + 1, 1, none⟩ = some (.slice a3 (dig b64 y.num.natAbs).length c3) ∧ w'.cell? ⟨w.heap.size + 1, 2, none⟩ = some (.slice a4 (dig b64 (dn y.den)).length c4) ∧ w'.cell? ⟨w.heap.size + 2, 0, none⟩ = some (cellOf w' ⟨w.heap.size + 2, 0, none⟩) ∧ w'.cell? ⟨w.heap.size + 2, 1, none⟩ = some (cellOf w' ⟨w.heap.size + 2, 1, none⟩) ∧ w'.cell? ⟨w.heap.size + 2, 2, none⟩ = some (cellOf w' ⟨w.heap.size + 2, 2, none⟩) ∧ w'.frozen? ⟨w.heap.size + 2, 0, none⟩ = false ∧ w'.frozen? ⟨w.heap.size + 2, 1, none⟩ = false ∧ w'.frozen? ⟨w.heap.size + 2, 2, none⟩ = false)
    (first | exact hold6 hWB2 p0 p1 p2 r0 r1 r2 HB1.out | exact hold6_call (Nat.le_refl _) hbD (by assumption) | exact hold6_call (Nat.le_refl _) hbC (by assumption))
    (first
      | (go_at_call_of 76 (Value.slice a1 (dig b64 x.num.natAbs).length c1); refine (times_any x.num.natAbs y.den _ _ _ (N1.out.below (And.left (by assumption))) (hXB.out.below (Below.refl _ _).drew) (by have := HLX.out.1; have := HLY.out.2; omega)).mono ?_; rintro e wC ⟨vC, rfl, hvC, hbC⟩)
      | (go_at_call_of 76 (Value.slice a3 (dig b64 y.num.natAbs).length c3); refine (times_any y.num.natAbs x.den _ _ _ (N3.out.below (And.left (by assumption))) ((hXA.out.below (Below.refl _ _).drew).below hbC) (by have := HLX.out.2; have := HLY.out.1; omega)).mono ?_; rintro e wD ⟨vD, rfl, hvD, hbD⟩))
  rename_i hS1
  have hD : Below wB.heap.size wB wD := ext_trans (Below.refl _ _).drew (ext_trans hbC hbD)
  have HB2 : Hid (RB wD (w.heap.size + 2)) := RB.keep HB1.out hD hl31
  have hl32 := HB2.out.lt
  have hB3 := Lib.hid (hvC.below hbD)
  have hD3 := Lib.hid hvD
  have hXA2 := Lib.hid (hXA.out.below hD)
  have hXB2 := Lib.hid (hXB.out.below hD)
  obtain ⟨hWD, -, p0', p1', p2', r0', r1', r2', -⟩ := hS1
  clear p0 p1 p2 r0 r1 r2
  replace p0 := p0'
  replace p1 := p1'
  replace p2 := p2'
  replace r0 := r0'
  replace r1 := r1'
  replace r2 := r2'
  clear p0' p1' p2' r0' r1' r2'
  clear hbC hbD hvC hvD hD HB1 hXA hXB hWB hWB2 hl31
  go_wp2_with fail
  refine (times_any x.den y.den _ _ _ hXA2.out hXB2.out (by have := HLX.out.2; have := HLY.out.2; omega)).mono ?_
  rintro e W2 ⟨vC, rfl, hvC, hbF⟩
  have HC3 := Lib.hid hvC
  have HN1 := Lib.hid (hB3.out.below hbF)
  have HN2 := Lib.hid (hD3.out.below hbF)
  have HB3 : Hid (RB W2 (w.heap.size + 2)) := RB.keep HB2.out hbF hl32
  have e6 := hold6_call (Nat.le_refl _) hbF (hold6 hWD p0 p1 p2 r0 r1 r2 HB2.out)
  obtain ⟨hW2, -, p0', p1', p2', r0', r1', r2', -⟩ := e6
  clear p0 p1 p2 r0 r1 r2 hbF HB2 hB3 hD3 hXA2 hXB2 hvC hWD hl32
  replace p0 := p0'
  replace p1 := p1'
  replace p2 := p2'
  replace r0 := r0'
  replace r1 := r1'
  replace r2 := r2'
  clear p0' p1' p2' r0' r1' r2'
  have HB2 := HB3
  have hl32 := HB2.out.lt
  clear HB3
  generalize x.num.natAbs * y.den = A at *
  generalize y.num.natAbs * x.den = B at *
  generalize x.den * y.den = C at *
  by_cases hs : (sx == sy) = true
  · have Hs := Lib.hid hs
    go_wp2_with fail
    have hWe : Below w.heap.size w W2.drew := hW2.drew
    go_region_held3 (fun w' => Below w.heap.size w w' ∧ RB w' (w.heap.size + 2) ∧ w'.cell? ⟨w.heap.size, 0, none⟩ = some (.bool sx) ∧ w'.cell? ⟨w.heap.size, 1, none⟩ = some (.slice a1 (dig b64 x.num.natAbs).length c1) ∧ w'.cell? ⟨w.heap.size, 2, none⟩ = some (.slice a2 (dig b64 (dn x.den)).length c2) ∧ w'.cell? ⟨w.heap.size + 1, 0, none⟩ = some (.bool sy) ∧ w'.cell? ⟨w.heap.size + 1, 1, none⟩ = some (.slice a3 (dig b64 y.num.natAbs).length c3) ∧ w'.cell? ⟨w.heap.size + 1, 2, none⟩ = some (.slice a4 (dig b64 (dn y.den)).length c4) ∧ w'.cell? ⟨w.heap.size + 2, 0, none⟩ = some (cellOf w' ⟨w.heap.size + 2, 0, none⟩) ∧ w'.cell? ⟨w.heap.size + 2, 1, none⟩ = some (cellOf w' ⟨w.heap.size + 2, 1, none⟩) ∧ w'.cell? ⟨w.heap.size + 2, 2, none⟩ = some (cellOf w' ⟨w.heap.size + 2, 2, none⟩) ∧ w'.frozen? ⟨w.heap.size + 2, 0, none⟩ = false ∧ w'.frozen? ⟨w.heap.size + 2, 1, none⟩ = false ∧ w'.frozen? ⟨w.heap.size + 2, 2, none⟩ = false)
      (first | exact hold6 hWe p0 p1 p2 r0 r1 r2 HB2.out | exact hold6_call (Nat.le_refl _) hbE (by assumption) | exact hold6_call (Nat.le_refl _) hbD (by assumption) | exact hold6_store _ _ _ _ _ _ _ (by omega) (by omega) (by omega) (by assumption) _ rfl)
      (first
        | (go_at_call 122; (refine (plus_any A B _ _ _ (HN1.out.below (Below.refl _ _).drew) (HN2.out.below (Below.refl _ _).drew) (by have := HA.out; omega) (by have := HBB.out; omega)).mono ?_); rintro e wD' ⟨vE, rfl, hvE, hbD⟩)
        | (go_at_call 68; (refine (reduced_any _ (A + B) C _ _ _ hvE (HC3.out.below (ext_trans (show Below W2.heap.size W2 W2.drew from (Below.refl _ _).drew) hbD)) HP.out (by have := HA.out; have := HBB.out; have := HS.out; omega) (by have := HC.out; omega)).mono ?_); rintro e wE ⟨vF, rfl, hvF, hbE⟩; obtain ⟨a5, c5, a6, c6, rfl, n5, n6⟩ := IsRat.opened hvF))
    have hE := ext_trans hbD hbE
    have hRB := RB.keep (a := W2.drew) HB2.out hE hl32
    obtain ⟨g0, g1, g2, f0', f1', f2'⟩ := hRB.cell
    have hx := hWe.trans (hE.mono hWe.size)
    have hBl := hRB.lt
    have He' := He.out sx (A + B) (by have e : sx = sy := (by simpa using Hs.out); rw [← e]; exact sg_add sx A B)
    generalize mkQ sx (A + B) C = q at *
    subst He'
    go_wp2_with fail
    refine bodyPost_ret (v := .agg #[.bool (decide ((x + y).num < 0)), .slice a5 (dig b64 (x + y).num.natAbs).length _, .slice a6 (dig b64 (dn (x + y).den)).length _]) (by simp [results, Tryz.results93, go_sem, g0, g1, g2]; first | done | exact ⟨rfl, rfl⟩ | rfl) rfl ⟨_, rfl, ?_, below_store3 hx (by omega)⟩
    exact IsRat.stored hRB n5 n6 rfl rfl
  · have hs' : (sx == sy) = false := by simpa using hs
    have Hs := Lib.hid hs'
    clear hs
    go_wp2_with fail
    refine (cmp_any A B _ _ W2 HN1.out HN2.out).mono ?_
    rintro e w' ⟨rfl, nq, rfl⟩
    have hWn : Below w.heap.size w (W2.drewN nq) := below_dn hW2 nq
    have HC4 := Lib.hid (HC3.out.below (below_dn (Below.refl W2.heap.size W2) nq))
    have HN3 := Lib.hid (HN1.out.below (below_dn (Below.refl W2.heap.size W2) nq))
    have HN4 := Lib.hid (HN2.out.below (below_dn (Below.refl W2.heap.size W2) nq))
    have HB4 : Hid (RB (W2.drewN nq) (w.heap.size + 2)) := HB2.out
    have hl34 := HB4.out.lt
    clear HB2 HN1 HN2 HC3 hW2 hl32
    have q0 : (W2.drewN nq).cell? ⟨w.heap.size, 0, none⟩ = _ := p0
    have q1 : (W2.drewN nq).cell? ⟨w.heap.size, 1, none⟩ = _ := p1
    have q2 : (W2.drewN nq).cell? ⟨w.heap.size, 2, none⟩ = _ := p2
    have q3 : (W2.drewN nq).cell? ⟨w.heap.size + 1, 0, none⟩ = _ := r0
    have q4 : (W2.drewN nq).cell? ⟨w.heap.size + 1, 1, none⟩ = _ := r1
    have q5 : (W2.drewN nq).cell? ⟨w.heap.size + 1, 2, none⟩ = _ := r2
    clear p0 p1 p2 r0 r1 r2
    have p0 := q0
    have p1 := q1
    have p2 := q2
    have r0 := q3
    have r1 := q4
    have r2 := q5
    clear q0 q1 q2 q3 q4 q5
    generalize W2.drewN nq = W3 at *
    have HC3 := HC4
    have HN1 := HN3
    have HN2 := HN4
    have HB2 := HB4
    have hl32 := hl34
    have hW2 := hWn
    clear HC4 HN3 HN4 HB4 hl34 hWn
    have hWW : W3 = W3 := rfl
    clear hWW
    by_cases hge : B ≤ A
    · have hc := cmpN_ge hge
      generalize cmpN A B = c at *
      have Hge := Lib.hid hge
      clear hge
      go_wp2_with fail
      have hWe : Below w.heap.size w W3.drew := hW2.drew
      go_region_held3 (fun w' => Below w.heap.size w w' ∧ RB w' (w.heap.size + 2) ∧ w'.cell? ⟨w.heap.size, 0, none⟩ = some (.bool sx) ∧ w'.cell? ⟨w.heap.size, 1, none⟩ = some (.slice a1 (dig b64 x.num.natAbs).length c1) ∧ w'.cell? ⟨w.heap.size, 2, none⟩ = some (.slice a2 (dig b64 (dn x.den)).length c2) ∧ w'.cell? ⟨w.heap.size + 1, 0, none⟩ = some (.bool sy) ∧ w'.cell? ⟨w.heap.size + 1, 1, none⟩ = some (.slice a3 (dig b64 y.num.natAbs).length c3) ∧ w'.cell? ⟨w.heap.size + 1, 2, none⟩ = some (.slice a4 (dig b64 (dn y.den)).length c4) ∧ w'.cell? ⟨w.heap.size + 2, 0, none⟩ = some (cellOf w' ⟨w.heap.size + 2, 0, none⟩) ∧ w'.cell? ⟨w.heap.size + 2, 1, none⟩ = some (cellOf w' ⟨w.heap.size + 2, 1, none⟩) ∧ w'.cell? ⟨w.heap.size + 2, 2, none⟩ = some (cellOf w' ⟨w.heap.size + 2, 2, none⟩) ∧ w'.frozen? ⟨w.heap.size + 2, 0, none⟩ = false ∧ w'.frozen? ⟨w.heap.size + 2, 1, none⟩ = false ∧ w'.frozen? ⟨w.heap.size + 2, 2, none⟩ = false)
        (first | exact hold6 hWe p0 p1 p2 r0 r1 r2 HB2.out | exact hold6_call (Nat.le_refl _) hbE (by assumption) | exact hold6_call (Nat.le_refl _) hbD (by assumption) | exact hold6_store _ _ _ _ _ _ _ (by omega) (by omega) (by omega) (by assumption) _ rfl)
        (first
          | (go_at_call 123; (refine (minus_any A B _ _ _ (HN1.out.below (Below.refl _ _).drew) (HN2.out.below (Below.refl _ _).drew) Hge.out (by have := HA.out; omega)).mono ?_); rintro e wD' ⟨vE, rfl, hvE, hbD⟩)
          | (go_at_call 68; (refine (reduced_any _ (A - B) C _ _ _ hvE (HC3.out.below (ext_trans (show Below W3.heap.size W3 W3.drew from (Below.refl _ _).drew) hbD)) HP.out (by have := HA.out; exact Nat.le_trans (dig_length_mono b64_two (Nat.sub_le _ _)) (by omega)) (by have := HC.out; omega)).mono ?_); rintro e wE ⟨vF, rfl, hvF, hbE⟩; obtain ⟨a5, c5, a6, c6, rfl, n5, n6⟩ := IsRat.opened hvF))
      have hE := ext_trans hbD hbE
      have hRB := RB.keep (a := W3.drew) HB2.out hE hl32
      obtain ⟨g0, g1, g2, f0', f1', f2'⟩ := hRB.cell
      have hx := hWe.trans (hE.mono hWe.size)
      have hBl := hRB.lt
      have He' := He.out sx (A - B) (sg_sub Hs.out Hge.out)
      generalize mkQ sx (A - B) C = q at *
      subst He'
      go_wp2_with fail
      refine bodyPost_ret (v := .agg #[.bool (decide ((x + y).num < 0)), .slice a5 (dig b64 (x + y).num.natAbs).length _, .slice a6 (dig b64 (dn (x + y).den)).length _]) (by simp [results, Tryz.results93, go_sem, g0, g1, g2]; first | done | exact ⟨rfl, rfl⟩ | rfl) rfl ⟨_, rfl, ?_, below_store3 hx (by omega)⟩
      exact IsRat.stored hRB n5 n6 rfl rfl
    · have hc := cmpN_nge hge
      generalize cmpN A B = c at *
      have Hge : Hid (A ≤ B) := Nat.le_of_lt (Nat.lt_of_not_le hge)
      clear hge
      go_wp2_with fail
      have hWe : Below w.heap.size w W3.drew := hW2.drew
      go_region_held3 (fun w' => Below w.heap.size w w' ∧ RB w' (w.heap.size + 2) ∧ w'.cell? ⟨w.heap.size, 0, none⟩ = some (.bool sx) ∧ w'.cell? ⟨w.heap.size, 1, none⟩ = some (.slice a1 (dig b64 x.num.natAbs).length c1) ∧ w'.cell? ⟨w.heap.size, 2, none⟩ = some (.slice a2 (dig b64 (dn x.den)).length c2) ∧ w'.cell? ⟨w.heap.size + 1, 0, none⟩ = some (.bool sy) ∧ w'.cell? ⟨w.heap.size + 1, 1, none⟩ = some (.slice a3 (dig b64 y.num.natAbs).length c3) ∧ w'.cell? ⟨w.heap.size + 1, 2, none⟩ = some (.slice a4 (dig b64 (dn y.den)).length c4) ∧ w'.cell? ⟨w.heap.size + 2, 0, none⟩ = some (cellOf w' ⟨w.heap.size + 2, 0, none⟩) ∧ w'.cell? ⟨w.heap.size + 2, 1, none⟩ = some (cellOf w' ⟨w.heap.size + 2, 1, none⟩) ∧ w'.cell? ⟨w.heap.size + 2, 2, none⟩ = some (cellOf w' ⟨w.heap.size + 2, 2, none⟩) ∧ w'.frozen? ⟨w.heap.size + 2, 0, none⟩ = false ∧ w'.frozen? ⟨w.heap.size + 2, 1, none⟩ = false ∧ w'.frozen? ⟨w.heap.size + 2, 2, none⟩ = false)
        (first | exact hold6 hWe p0 p1 p2 r0 r1 r2 HB2.out | exact hold6_call (Nat.le_refl _) hbE (by assumption) | exact hold6_call (Nat.le_refl _) hbD (by assumption) | exact hold6_store _ _ _ _ _ _ _ (by omega) (by omega) (by omega) (by assumption) _ rfl)
        (first
          | (go_at_call 123; (refine (minus_any B A _ _ _ (HN2.out.below (Below.refl _ _).drew) (HN1.out.below (Below.refl _ _).drew) Hge.out (by have := HBB.out; omega)).mono ?_); rintro e wD' ⟨vE, rfl, hvE, hbD⟩)
          | (go_at_call 68; (refine (reduced_any _ (B - A) C _ _ _ hvE (HC3.out.below (ext_trans (show Below W3.heap.size W3 W3.drew from (Below.refl _ _).drew) hbD)) HP.out (by have := HBB.out; exact Nat.le_trans (dig_length_mono b64_two (Nat.sub_le _ _)) (by omega)) (by have := HC.out; omega)).mono ?_); rintro e wE ⟨vF, rfl, hvF, hbE⟩; obtain ⟨a5, c5, a6, c6, rfl, n5, n6⟩ := IsRat.opened hvF))
      have hE := ext_trans hbD hbE
      have hRB := RB.keep (a := W3.drew) HB2.out hE hl32
      obtain ⟨g0, g1, g2, f0', f1', f2'⟩ := hRB.cell
      have hx := hWe.trans (hE.mono hWe.size)
      have hBl := hRB.lt
      have He' := He.out sy (B - A) (by rw [Int.add_comm]; exact sg_sub (by have := Hs.out; cases sx <;> cases sy <;> simp_all) Hge.out)
      generalize mkQ sy (B - A) C = q at *
      subst He'
      go_wp2_with fail
      refine bodyPost_ret (v := .agg #[.bool (decide ((x + y).num < 0)), .slice a5 (dig b64 (x + y).num.natAbs).length _, .slice a6 (dig b64 (dn (x + y).den)).length _]) (by simp [results, Tryz.results93, go_sem, g0, g1, g2]; first | done | exact ⟨rfl, rfl⟩ | rfl) rfl ⟨_, rfl, ?_, below_store3 hx (by omega)⟩
      exact IsRat.stored hRB n5 n6 rfl rfl

end Go.Proofs.YtmfochplnchgcaaGreat

/- THE WALKS OF ratio's Mul, by, Div. -/
namespace Go.Proofs.YtmfochplnchgcaaGreat
open Go.RowKit

set_option maxRecDepth 100000 in
set_option maxHeartbeats 4000000 in
theorem mulRat_any (x y : Rat) (vx vy : Value) (w : World) (hx : IsRat w vx x) (hy : IsRat w vy y) (hlx : szR x 68719476736) (hly : szR y 68719476736) : Calls Tryz.prog 35 #[vx, vy] w (RetRat (x * y) w) := by
  obtain ⟨a1, c1, a2, c2, rfl, n1, n2⟩ := hx.opened
  obtain ⟨a3, c3, a4, c4, rfl, n3, n4⟩ := hy.opened
  have N1 := Lib.hid n1
  have N2 := Lib.hid n2
  have N3 := Lib.hid n3
  have N4 := Lib.hid n4
  have He := Lib.hid (mkQ_mul x y)
  have HLX := Lib.hid hlx
  have HLY := Lib.hid hly
  clear hx hy n1 n2 n3 n4 hlx hly
  go_enter Tryz.func35, Tryz.ntmps35
  go_wp2_with fail
  generalize hsx : decide (x.num < 0) = sx at *
  generalize hsy : decide (y.num < 0) = sy at *
  clear hsx hsy
  generalize hW0 : ((w.alloc (.cells #[.bool sx, .slice a1 (dig b64 x.num.natAbs).length c1, .slice a2 (dig b64 (dn x.den)).length c2] 40)).alloc (.cells #[.bool sy, .slice a3 (dig b64 y.num.natAbs).length c3, .slice a4 (dig b64 (dn y.den)).length c4] 40)).alloc (.cells #[.bool false, .slice none 0 0, .slice none 0 0] 40) = W at *
  obtain ⟨hal, hB1, hB2, hB3⟩ := boxes3 w _ _ _ _ W hW0.symm
  clear hW0
  have hW : Below w.heap.size w W.drew := hal.drew
  have p0 := blk_cell hB1 0 (.bool sx) rfl
  have p1 := blk_cell hB1 1 (.slice a1 (dig b64 x.num.natAbs).length c1) rfl
  have p2 := blk_cell hB1 2 (.slice a2 (dig b64 (dn x.den)).length c2) rfl
  have r0 := blk_cell hB2 0 (.bool sy) rfl
  have r1 := blk_cell hB2 1 (.slice a3 (dig b64 y.num.natAbs).length c3) rfl
  have r2 := blk_cell hB2 2 (.slice a4 (dig b64 (dn y.den)).length c4) rfl
  have HB : Hid (RB W (w.heap.size + 2)) := ⟨false, none, 0, 0, none, 0, 0, _, hB3⟩
  have hl3 := blk_lt hB3
  clear hB1 hB2 hB3
  go_region_held3 (fun w' => Below w.heap.size w w' ∧ RB w' (w.heap.size + 2) ∧ w'.cell? ⟨w.heap.size, 0, none⟩ = some (.bool sx) ∧ w'.cell? ⟨w.heap.size, 1, none⟩ = some (.slice a1 (dig b64 x.num.natAbs).length c1) ∧ w'.cell? ⟨w.heap.size, 2, none⟩ = some (.slice a2 (dig b64 (dn x.den)).length c2) ∧ w'.cell? ⟨w.heap.size + 1, 0, none⟩ = some (.bool sy) ∧ w'.cell? ⟨w.heap.size + 1, 1, none⟩ = some (.slice a3 (dig b64 y.num.natAbs).length c3) ∧ w'.cell? ⟨w.heap.size + 1, 2, none⟩ = some (.slice a4 (dig b64 (dn y.den)).length c4) ∧ w'.cell? ⟨w.heap.size + 2, 0, none⟩ = some (cellOf w' ⟨w.heap.size + 2, 0, none⟩) ∧ w'.cell? ⟨w.heap.size + 2, 1, none⟩ = some (cellOf w' ⟨w.heap.size + 2, 1, none⟩) ∧ w'.cell? ⟨w.heap.size + 2, 2, none⟩ = some (cellOf w' ⟨w.heap.size + 2, 2, none⟩) ∧ w'.frozen? ⟨w.heap.size + 2, 0, none⟩ = false ∧ w'.frozen? ⟨w.heap.size + 2, 1, none⟩ = false ∧ w'.frozen? ⟨w.heap.size + 2, 2, none⟩ = false)
    (first | exact hold6 hW p0 p1 p2 r0 r1 r2 HB.out | exact hold6_call (Nat.le_refl _) hbE (by assumption) | exact hold6_call (Nat.le_refl _) hbD (by assumption) | exact hold6_call (Nat.le_refl _) hbC (by assumption) | exact hold6_call (Nat.le_refl _) hbB (by assumption) | exact hold6_call (Nat.le_refl _) hbA (by assumption) | exact hold6_store _ _ _ _ _ _ _ (by omega) (by omega) (by omega) (by assumption) _ rfl)
    (first
      | (go_at_call_of 76 (Value.slice a1 (dig b64 x.num.natAbs).length c1); refine (times_any x.num.natAbs y.num.natAbs _ _ _ (N1.out.below (And.left (by assumption))) (N3.out.below (And.left (by assumption))) (by have := HLX.out.1; have := HLY.out.1; omega)).mono ?_; rintro e wA ⟨vA, rfl, hvA, hbA⟩)
      | (go_at_call_of 77 (Value.slice a2 (dig b64 (dn x.den)).length c2); (with_reducible refine (under_any x.den _ _ (N2.out.below (And.left (by assumption))) x.den_pos).mono ?_); rintro e wB ⟨vB, rfl, hvB, hbB⟩)
      | (go_at_call_of 77 (Value.slice a4 (dig b64 (dn y.den)).length c4); (with_reducible refine (under_any y.den _ _ (N4.out.below (And.left (by assumption))) y.den_pos).mono ?_); rintro e wC ⟨vC, rfl, hvC, hbC⟩)
      | (go_at_call 76; refine (times_any x.den y.den _ _ _ (hvB.below hbC) hvC (by have := HLX.out.2; have := HLY.out.2; omega)).mono ?_; rintro e wD ⟨vD, rfl, hvD, hbD⟩)
      | (go_at_call 68; refine (reduced_any _ (x.num.natAbs * y.num.natAbs) (x.den * y.den) _ _ _ (hvA.below (ext_trans hbB (ext_trans hbC hbD))) hvD (Nat.mul_pos x.den_pos y.den_pos) (by have := dig_length_mul b64_two x.num.natAbs y.num.natAbs; have := HLX.out.1; have := HLY.out.1; omega) (by have := dig_length_mul b64_two x.den y.den; have := HLX.out.2; have := HLY.out.2; omega)).mono ?_; rintro e wE ⟨vE, rfl, hvE, hbE⟩; obtain ⟨a5, c5, a6, c6, rfl, n5, n6⟩ := IsRat.opened hvE))
  have hE := ext_trans (ext_trans (ext_trans (ext_trans hbA hbB) hbC) hbD) hbE
  have hRB := RB.keep (a := W.drew) HB.out hE hl3
  obtain ⟨g0, g1, g2, f0', f1', f2'⟩ := hRB.cell
  have hx := hW.trans (hE.mono hW.size)
  have hBl := hRB.lt
  have He' := He.out
  generalize mkQ (!sx == sy) (x.num.natAbs * y.num.natAbs) (x.den * y.den) = q at *
  subst He'
  go_wp2_with fail
  refine bodyPost_ret (v := .agg #[.bool (decide ((x * y).num < 0)), .slice a5 (dig b64 (x * y).num.natAbs).length _, .slice a6 (dig b64 (dn (x * y).den)).length _]) (by simp [results, Tryz.results35, go_sem, g0, g1, g2]; first | done | exact ⟨rfl, rfl⟩ | rfl) rfl ⟨_, rfl, ?_, below_store3 hx (by omega)⟩
  exact IsRat.stored hRB n5 n6 rfl rfl

theorem mkQ_div (x y : Rat) (hy : y.num.natAbs ≠ 0) : mkQ (!(decide (x.num < 0) == decide (y.num < 0))) (x.num.natAbs * y.den) (x.den * y.num.natAbs) = x / y := by
  have hxd := x.den_pos
  have hyd := y.den_pos
  have h := new_plain (x.num * y.den) (x.den * y.num) (by
    refine Int.mul_ne_zero ?_ ?_ <;> omega)
  have e1 : (x.num * (y.den : Int)).natAbs = x.num.natAbs * y.den := by rw [Int.natAbs_mul]; rfl
  have e2 : ((x.den : Int) * y.num).natAbs = x.den * y.num.natAbs := by rw [Int.natAbs_mul]; rfl
  have e3 : decide (x.num * (y.den : Int) < 0) = decide (x.num < 0) := by
    rw [decide_eq_decide]
    constructor
    · intro h
      rcases Int.lt_or_le x.num 0 with h1 | h1
      · exact h1
      · have := Int.mul_nonneg h1 (show (0:Int) ≤ y.den by omega); omega
    · intro h; exact Int.mul_neg_of_neg_of_pos h (by omega)
  have e4 : decide ((x.den : Int) * y.num < 0) = decide (y.num < 0) := by
    rw [decide_eq_decide]
    constructor
    · intro h
      rcases Int.lt_or_le y.num 0 with h1 | h1
      · exact h1
      · have := Int.mul_nonneg (show (0:Int) ≤ x.den by omega) h1; omega
    · intro h; exact Int.mul_neg_of_pos_of_neg (by omega) h
  rw [e1, e2, e3, e4] at h
  rw [show (!(decide (x.num < 0) == decide (y.num < 0))) = (decide (x.num < 0) != decide (y.num < 0)) from rfl, h]
  have hx : x = Rat.divInt x.num x.den := (Rat.num_divInt_den x).symm
  have hy2 : y = Rat.divInt y.num y.den := (Rat.num_divInt_den y).symm
  conv => rhs; rw [hx, hy2]
  rw [← Rat.divInt_eq_div, Rat.div_def, Rat.inv_divInt, Rat.divInt_mul_divInt]

end Go.Proofs.YtmfochplnchgcaaGreat

/- SIZES OF FRACTIONS: of sums, products, quotients. -/
namespace Go.Proofs.YtmfochplnchgcaaGreat
open Go.RowKit

theorem mkQ_szR_sz (s : Bool) (n d k : Nat) (hd : 0 < d) (h1 : (dig b64 n).length ≤ k) (h2 : (dig b64 d).length ≤ k) : szR (mkQ s n d) k := by
  unfold szR
  rw [mkQ_num s n d hd, mkQ_den s n d hd]
  exact ⟨Nat.le_trans (dig_length_mono b64_two (Nat.div_le_self _ _)) h1, Nat.le_trans (dig_length_mono b64_two (Nat.div_le_self _ _)) h2⟩
theorem szR_mul {x y : Rat} {j k : Nat} (hx : szR x j) (hy : szR y k) : szR (x * y) (j + k) := by
  rw [← mkQ_mul]
  have h1 := dig_length_mul b64_two x.num.natAbs y.num.natAbs
  have h2 := dig_length_mul b64_two x.den y.den
  have := hx.1; have := hx.2; have := hy.1; have := hy.2
  exact mkQ_szR_sz _ _ _ _ (Nat.mul_pos x.den_pos y.den_pos) (by omega) (by omega)
theorem szR_div {x y : Rat} {j k : Nat} (hx : szR x j) (hy : szR y k) (h0 : y.num.natAbs ≠ 0) : szR (x / y) (j + k) := by
  rw [← mkQ_div x y h0]
  have h1 := dig_length_mul b64_two x.num.natAbs y.den
  have h2 := dig_length_mul b64_two x.den y.num.natAbs
  have := hx.1; have := hx.2; have := hy.1; have := hy.2
  exact mkQ_szR_sz _ _ _ _ (Nat.mul_pos x.den_pos (Nat.pos_of_ne_zero h0)) (by omega) (by omega)
theorem szR_neg {x : Rat} {j : Nat} (hx : szR x j) : szR (-x) j := ⟨by rw [natAbs_neg_num]; exact hx.1, hx.2⟩
theorem szR_mono {x : Rat} {j k : Nat} (h : szR x j) (hjk : j ≤ k) : szR x k := ⟨Nat.le_trans h.1 hjk, Nat.le_trans h.2 hjk⟩
theorem szR_add {x y : Rat} {j k : Nat} (hx : szR x j) (hy : szR y k) : szR (x + y) (j + k + 1) := by
  have hz : ∃ (s : Bool) (n : Nat), sg s n = sg (decide (x.num < 0)) (x.num.natAbs * y.den) + sg (decide (y.num < 0)) (y.num.natAbs * x.den) ∧ n ≤ x.num.natAbs * y.den + y.num.natAbs * x.den := by
    generalize hz : sg (decide (x.num < 0)) (x.num.natAbs * y.den) + sg (decide (y.num < 0)) (y.num.natAbs * x.den) = z
    refine ⟨decide (z < 0), z.natAbs, ?_, ?_⟩
    · unfold sg
      by_cases h : z < 0
      · simp [h]; omega
      · simp [h]; omega
    · have e1 := sg_natAbs (decide (x.num < 0)) (x.num.natAbs * y.den)
      have e2 := sg_natAbs (decide (y.num < 0)) (y.num.natAbs * x.den)
      omega
  obtain ⟨s, n, h, hn⟩ := hz
  rw [← mkQ_add x y s n h]
  have h1 := dig_length_mul b64_two x.num.natAbs y.den
  have h2 := dig_length_mul b64_two y.num.natAbs x.den
  have h3 := dig_length_mul b64_two x.den y.den
  have := hx.1; have := hx.2; have := hy.1; have := hy.2
  have h4 := dig_length_add b64_two (x.num.natAbs * y.den) (y.num.natAbs * x.den) (j + k) (by omega) (by omega)
  exact mkQ_szR_sz _ _ _ _ (Nat.mul_pos x.den_pos y.den_pos) (Nat.le_trans (dig_length_mono b64_two hn) h4) (by omega)
theorem szR_sub {x y : Rat} {j k : Nat} (hx : szR x j) (hy : szR y k) : szR (x - y) (j + k + 1) := by
  rw [Rat.sub_eq_add_neg]
  exact szR_add hx (szR_neg hy)
theorem szR_int {n : Int} {k : Nat} (h : n.natAbs < b64 ^ k) (hk : 1 ≤ k) : szR (n : Rat) k := by
  refine ⟨dig_length_le b64_two k _ (by simpa using h), Nat.le_trans (dig_length_le b64_two 1 _ ?_) hk⟩
  simp
  unfold b64
  omega

end Go.Proofs.YtmfochplnchgcaaGreat

/- Vitrified, PLAINLY: falls, the last one, found forward and backward; rows of fractions. -/
namespace Go.Proofs.YtmfochplnchgcaaGreat
open Go.RowKit

/-- Three cells read as a fraction. -/
def FrcAt (R : World → Value → Rat → Prop) (w : World) (b o : Nat) (q : Rat) : Prop :=
  ∃ v0 vn vd, w.cell? ⟨b, o, none⟩ = some v0 ∧ w.cell? ⟨b, o + 1, none⟩ = some vn ∧ w.cell? ⟨b, o + 2, none⟩ = some vd ∧ R w (.agg #[v0, vn, vd]) q
/-- The slice v reads as the fractions qs. -/
def FrcsOf (R : World → Value → Rat → Prop) (w : World) (v : Value) (qs : List Rat) : Prop :=
  ∃ ao cap, v = .slice ao qs.length cap ∧ (0 < qs.length → ∃ b off, ao = some ⟨b, off, none⟩ ∧ b < w.heap.size ∧ ∀ i, i < qs.length → FrcAt R w b (off + i * 3) (qs.getD i 0))
theorem FrcAt.below {R : World → Value → Rat → Prop} (hR : ∀ w w' v q, R w v q → Below w.heap.size w w' → R w' v q) {w w' : World} {b o : Nat} {q : Rat} (h : FrcAt R w b o q) (hb : Below w.heap.size w w') (hl : b < w.heap.size) : FrcAt R w' b o q := by
  obtain ⟨v0, vn, vd, h0, h1, h2, h4⟩ := h
  have c : ∀ j v, w.cell? ⟨b, j, none⟩ = some v → w'.cell? ⟨b, j, none⟩ = some v := fun j v h => (hb.cell (p := ⟨b, j, none⟩) hl).trans h
  exact ⟨v0, vn, vd, c _ _ h0, c _ _ h1, c _ _ h2, hR _ _ _ _ h4 hb⟩
theorem FrcsOf.below {R : World → Value → Rat → Prop} (hR : ∀ w w' v q, R w v q → Below w.heap.size w w' → R w' v q) {w w' : World} {v : Value} {qs : List Rat} (h : FrcsOf R w v qs) (hb : Below w.heap.size w w') : FrcsOf R w' v qs := by
  obtain ⟨ao, cap, rfl, h⟩ := h
  refine ⟨ao, cap, rfl, fun hl => ?_⟩
  obtain ⟨b, off, rfl, hlt, h⟩ := h hl
  exact ⟨b, off, rfl, Nat.lt_of_lt_of_le hlt hb.size, fun i hi => (h i hi).below hR hb hlt⟩

theorem dig32_le (n : Nat) : (dig b32 n).length ≤ 2 * (dig b64 n).length := by
  refine dig_length_le b32_two _ _ ?_
  rw [Nat.pow_mul, show b32 ^ 2 = b64 from by unfold b32 b64; decide]
  rcases Nat.lt_or_ge n (b64 ^ (dig b64 n).length) with h | h
  · exact h
  · exfalso
    have h0 : n / b64 ^ (dig b64 n).length ≠ 0 := by
      have hp : 0 < b64 ^ (dig b64 n).length := Nat.pow_pos (by unfold b64; omega)
      have := Nat.div_pos h hp
      omega
    have := (dig_length_gt b64_two (dig b64 n).length n).2 h0
    omega
theorem szQ_of {x : Rat} {k : Nat} (h : szR x k) : szQ x (2 * k) := ⟨Nat.le_trans (dig32_le _) (by have := h.1; omega), Nat.le_trans (dig32_le _) (by have := h.2; omega)⟩

/-- Between i and i + 1 the conductivity falls by more than the slope. -/
def fallAt (ts : List Int) (qs : List Rat) (s : Rat) (i : Nat) : Bool := decide (0 < cmpR (qs.getD i 0 - qs.getD (i + 1) 0) (s * ((ts.getD (i + 1) 0 - ts.getD i 0 : Int) : Rat)))
/-- The last fall ahead of n; -1: none. -/
def lastUp (f : Nat → Bool) : Nat → Int
  | 0 => -1
  | i + 1 => if f i then i else lastUp f i
theorem lastUp_skip {f : Nat → Bool} {i n : Nat} (hi : i ≤ n) (h : ∀ j, i ≤ j → j < n → f j = false) : lastUp f n = lastUp f i := by
  induction n with
  | zero => rw [show i = 0 from by omega]
  | succ n ih =>
    rcases Nat.lt_or_ge n i with hn | hn
    · rw [show i = n + 1 from by omega]
    · show (if f n then (n : Int) else lastUp f n) = _
      rw [h n hn (by omega)]
      exact ih hn (fun j h1 h2 => h j h1 (by omega))
theorem lastUp_range (f : Nat → Bool) : ∀ n, -1 ≤ lastUp f n ∧ lastUp f n < n
  | 0 => by show (-1 : Int) ≤ -1 ∧ (-1 : Int) < ((0 : Nat) : Int); omega
  | n + 1 => by
    have := lastUp_range f n
    unfold lastUp
    split <;> omega
/-- The error of time i. -/
def timeErr (ts : List Int) (i : Nat) : Int := if ts.getD i 0 < 0 ∨ 1073741824 < ts.getD i 0 then 1 else if 0 < i ∧ ts.getD i 0 ≤ ts.getD (i - 1) 0 then 7 else 0
def timesErr (ts : List Int) : Nat → Int
  | 0 => 0
  | i + 1 => if timesErr ts i = 0 then timeErr ts i else timesErr ts i
theorem timesErr_stay {ts : List Int} {i n : Nat} (h : timesErr ts i ≠ 0) (hn : i ≤ n) : timesErr ts n = timesErr ts i := by
  obtain ⟨k, rfl⟩ : ∃ k, n = i + k := ⟨n - i, by omega⟩
  clear hn
  induction k with
  | zero => rfl
  | succ k ih =>
    show (if timesErr ts (i + k) = 0 then timeErr ts (i + k) else timesErr ts (i + k)) = _
    rw [ih, if_neg h]
theorem timesErr_at {ts : List Int} {i n : Nat} (h : timesErr ts i = 0) (h1 : timeErr ts i ≠ 0) (hn : i < n) : timesErr ts n = timeErr ts i := by
  have e : timesErr ts (i + 1) = timeErr ts i := by show (if _ then _ else _) = _; rw [if_pos h]
  rw [timesErr_stay (i := i + 1) (by rw [e]; exact h1) (by omega), e]
theorem times_ok {ts : List Int} {n : Nat} (h : timesErr ts n = 0) {i : Nat} (hi : i < n) : timeErr ts i = 0 := by
  have h0 : timesErr ts i = 0 := by
    rcases Int.decEq (timesErr ts i) 0 with h2 | h2
    · rw [timesErr_stay h2 (by omega)] at h
      exact absurd h h2
    · exact h2
  rcases Int.decEq (timeErr ts i) 0 with h2 | h2
  · rw [timesErr_at h0 h2 hi] at h
    exact absurd h h2
  · exact h2
theorem times_in {ts : List Int} {n : Nat} (h : timesErr ts n = 0) {i : Nat} (hi : i < n) : 0 ≤ ts.getD i 0 ∧ ts.getD i 0 ≤ 1073741824 := by
  have := times_ok h hi
  unfold timeErr at this
  split at this
  · cases this
  · omega
/-- What Vitrified returns: the span and the error. -/
def vitOf (ts : List Int) (qs : List Rat) (s : Rat) : Int × Int × Int :=
  if ts.length < 2 ∨ 256 < ts.length ∨ qs.length ≠ ts.length then (0, 0, 4)
  else if s.num < 0 then (0, 0, 1)
  else if timesErr ts ts.length ≠ 0 then (0, 0, timesErr ts ts.length)
  else if lastUp (fallAt ts qs s) (ts.length - 1) < 0 ∨ lastUp (fallAt ts qs s) (ts.length - 1) = (ts.length : Int) - 2 then (0, 0, 5)
  else (ts.getD (lastUp (fallAt ts qs s) (ts.length - 1)).toNat 0, ts.getD ((lastUp (fallAt ts qs s) (ts.length - 1)).toNat + 1) 0, 0)
end Go.Proofs.YtmfochplnchgcaaGreat

/- THE WALKS of law05.light and cure.Vitrified. -/
namespace Go.Proofs.YtmfochplnchgcaaGreat
open Go.RowKit

def lightAt (p : Int × Int) : Bool := decide (p.1 ≤ 16777216) && (decide (-16777216 ≤ p.1) && decide (p.2 ≤ 16777216))
def lightUp (fs : List (Int × Int)) : Nat → Bool
  | 0 => true
  | i + 1 => lightUp fs i && lightAt (fs.getD i (0, 0))
theorem lightUp_false {fs : List (Int × Int)} {i n : Nat} (hi : i < n) (h : lightAt (fs.getD i (0, 0)) = false) : lightUp fs n = false := by
  induction n with
  | zero => omega
  | succ n ih =>
    show (lightUp fs n && _) = false
    rcases Nat.lt_or_ge i n with hn | hn
    · rw [ih hn]
      rfl
    · rw [show n = i from by omega, h]
      simp
theorem lightUp_at {fs : List (Int × Int)} {n : Nat} (h : lightUp fs n = true) {i : Nat} (hi : i < n) : lightAt (fs.getD i (0, 0)) = true := by
  cases hl : lightAt (fs.getD i (0, 0))
  · rw [lightUp_false hi hl] at h
    cases h
  · rfl
set_option maxHeartbeats 2000000 in
theorem light_any (fs : List (Int × Int)) (v : Value) (w : World) (h : PairsOf w v fs) (hlen : fs.length ≤ 300) : Calls Tryz.prog 8 #[v] w (RetBool (lightUp fs fs.length) w) := by
  obtain ⟨ao, cap, rfl, hE⟩ := h
  have HE := Lib.hid hE
  clear hE
  go_enter Tryz.func8, Tryz.ntmps8
  go_wp2_with fail
  go_loopw [7] (fun iv wr => ∃ (i : Nat), i ≤ fs.length ∧ iv = .int .i64 i ∧ Hid (lightUp fs i = true) ∧ Hid (Below w.heap.size w wr))
    (fun iv _ => fs.length - (intOf iv).toNat)
  case atStart => exact ⟨0, Nat.zero_le _, rfl, rfl, Below.refl _ _⟩
  case round =>
    obtain ⟨i, hi, rfl, HL, HB⟩ := hrel
    by_cases hlt : i < fs.length
    · obtain ⟨b, off, rfl, hbl, hc⟩ := HE.out (by omega)
      obtain ⟨g0, g1⟩ := (hc i hlt).below HB.out hbl
      have hlt' : (i : Int) < fs.length := by omega
      have hge' : (0 : Int) ≤ i := by omega
      have HLT := Lib.hid hlt
      have H1 : Hid (lightUp fs (i + 1) = (lightUp fs i && lightAt (fs.getD i (0, 0)))) := rfl
      have HNO : Hid (lightAt (fs.getD i (0, 0)) = false → lightUp fs fs.length = false) := fun h => lightUp_false HLT.out h
      generalize fs.getD i (0, 0) = p at *
      obtain ⟨n, d⟩ := p
      have g0' : wr.cell? ⟨b, off + i * 2, none⟩ = some (.int .i64 n) := g0
      have g1' : wr.cell? ⟨b, off + i * 2 + 1, none⟩ = some (.int .i64 d) := g1
      have hal := Lib.hid (HB.out.alloc HB.out.size (.cells #[.int .i64 n, .int .i64 d] 25))
      clear hc g0 g1 hlt
      by_cases c1 : n > 16777216
      · have t1 : decide (n > 16777216) = true := decide_eq_true c1
        have Hv := Lib.hid (HNO.out (by unfold lightAt; rw [decide_eq_false (show ¬ n ≤ 16777216 by omega)]; rfl))
        clear c1
        go_wp2_with fail
        go_ret
        exact ⟨by rw [Hv.out]; rfl, hal.out⟩
      · have t1 : decide (n > 16777216) = false := decide_eq_false c1
        by_cases c2 : n < -16777216
        · have t2 : decide (n < -16777216) = true := decide_eq_true c2
          have Hv := Lib.hid (HNO.out (by unfold lightAt; rw [decide_eq_false (show ¬ -16777216 ≤ n by omega)]; simp))
          clear c1 c2
          go_wp2_with fail
          go_ret
          exact ⟨by rw [Hv.out]; rfl, hal.out⟩
        · have t2 : decide (n < -16777216) = false := decide_eq_false c2
          by_cases c3 : d > 16777216
          · have t3 : decide (d > 16777216) = true := decide_eq_true c3
            have Hv := Lib.hid (HNO.out (by unfold lightAt; rw [decide_eq_false (show ¬ d ≤ 16777216 by omega)]; simp))
            clear c1 c2 c3
            go_wp2_with fail
            go_ret
            exact ⟨by rw [Hv.out]; rfl, hal.out⟩
          · have t3 : decide (d > 16777216) = false := decide_eq_false c3
            have Hn : Hid (lightUp fs (i + 1) = true) := by
              show _ = _
              rw [H1.out, HL.out]
              unfold lightAt
              rw [decide_eq_true (show n ≤ 16777216 by omega), decide_eq_true (show -16777216 ≤ n by omega), decide_eq_true (show d ≤ 16777216 by omega)]
              rfl
            clear c1 c2 c3
            go_wp2_with fail
            exact ⟨⟨i + 1, by have := HLT.out; omega, by go_num, Hn, hal⟩, meas_up HLT.out⟩
    · obtain rfl : i = fs.length := by omega
      go_wp2_with fail
      go_ret
      exact ⟨by rw [HL.out]; rfl, HB.out⟩
end Go.Proofs.YtmfochplnchgcaaGreat

/- LISTS MADE BY THE LAW: the walk of law05.list: two lists of fractions, appended to side by side; printed by wip/tools/gen_zd.py. -/
namespace Go.Proofs.YtmfochplnchgcaaGreat
open Go.RowKit

theorem IsRat.grown3 {w w' : World} {v : Value} {q : Rat} {row : Option Nat} (h : IsRat w v q) (hg : w.grownBy w' row) (hr : ∀ g, row = some g → NoDig w g) : IsRat w' v q := by
  obtain ⟨vn, vd, rfl, h1, h2⟩ := h
  exact ⟨vn, vd, rfl, IsRow.grown (.inl rfl) h1 hg hr, IsRow.grown (.inl rfl) h2 hg hr⟩
theorem IsR.grown3 {w w' : World} {v : Value} {q : Rat} {row : Option Nat} (h : IsR w v q) (hg : w.grownBy w' row) (hr : ∀ g, row = some g → NoDig w g) : IsR w' v q := by
  obtain ⟨vn, vd, d', rfl, h1, h2, h3⟩ := h
  exact ⟨vn, vd, d', rfl, IsRow.grown (.inr rfl) h1 hg hr, IsRow.grown (.inr rfl) h2 hg hr, h3⟩

/-- The values xs, three by three, read as the fractions es. -/
def FrcRow (R : World → Value → Rat → Prop) (w : World) (xs : List Value) (es : List Rat) : Prop :=
  xs.length = es.length * 3 ∧ ∀ j, j < es.length → ∃ v0 vn vd, xs[j * 3]? = some v0 ∧ xs[j * 3 + 1]? = some vn ∧ xs[j * 3 + 2]? = some vd ∧ R w (.agg #[v0, vn, vd]) (es.getD j 0)
theorem FrcRow.mono {R : World → Value → Rat → Prop} {w w' : World} {xs : List Value} {es : List Rat} (h : FrcRow R w xs es) (hr : ∀ v q, R w v q → R w' v q) : FrcRow R w' xs es :=
  ⟨h.1, fun j hj => by obtain ⟨v0, vn, vd, h0, h1, h2, h4⟩ := h.2 j hj; exact ⟨v0, vn, vd, h0, h1, h2, hr _ _ h4⟩⟩
theorem FrcRow.nil (R : World → Value → Rat → Prop) (w : World) : FrcRow R w [] [] := ⟨rfl, fun j hj => absurd hj (by simp)⟩
theorem FrcRow.snoc {R : World → Value → Rat → Prop} {w : World} {xs : List Value} {es : List Rat} (h : FrcRow R w xs es) {v0 vn vd : Value} {q : Rat} (hq : R w (.agg #[v0, vn, vd]) q) :
    FrcRow R w (xs ++ [v0, vn, vd]) (es ++ [q]) := by
  obtain ⟨hl, h⟩ := h
  refine ⟨by simp [hl]; omega, fun j hj => ?_⟩
  rcases Nat.lt_or_ge j es.length with h1 | h1
  · obtain ⟨u0, un, ud, h0, h2, h3, h5⟩ := h j h1
    have e : ∀ k, k < 3 → (xs ++ [v0, vn, vd])[j * 3 + k]? = xs[j * 3 + k]? := fun k hk => List.getElem?_append_left (by omega)
    have e2 : (es ++ [q]).getD j 0 = es.getD j 0 := by simp [List.getD, List.getElem?_append_left h1]
    rw [e2]
    exact ⟨u0, un, ud, by rw [← h0]; exact e 0 (by omega), by rw [← h2]; exact e 1 (by omega), by rw [← h3]; exact e 2 (by omega), h5⟩
  · obtain rfl : j = es.length := by simp at hj; omega
    have e : ∀ k, (xs ++ [v0, vn, vd])[es.length * 3 + k]? = ([v0, vn, vd] : List Value)[k]? := fun k => by rw [List.getElem?_append_right (by omega), hl]; congr 1; omega
    have e2 : (es ++ [q]).getD es.length 0 = q := by simp [List.getD]
    rw [e2]
    exact ⟨v0, vn, vd, e 0, e 1, e 2, hq⟩
theorem FrcsOf.ofRow {R : World → Value → Rat → Prop} {w : World} {base : Nat} {e : TypeId} {v : Value} {xs : List Value} {es : List Rat} (h : LRow w base e 3 v es.length xs) (ht : FrcRow R w xs es) : FrcsOf R w v es := by
  rcases Nat.eq_zero_or_pos es.length with h0 | hp
  · rcases h.1.2 with ⟨rfl, _⟩ | ⟨g, cap, cur, rfl, _⟩
    · exact ⟨none, 0, by rw [h0], fun h => absurd h (by omega)⟩
    · exact ⟨_, _, rfl, fun h => absurd h (by omega)⟩
  · obtain ⟨g, cap, rfl⟩ := ownsRow_some h.1 hp
    have hc : ∀ j u, xs[j]? = some u → w.cell? ((⟨g, 0, none⟩ : Addr).add j) = some u := h.1.cells (g := g) rfl
    have hlt : g < w.heap.size := (h.lt rfl).1
    refine ⟨_, _, rfl, fun _ => ⟨g, 0, rfl, hlt, fun i hi => ?_⟩⟩
    obtain ⟨v0, vn, vd, h0, h1, h2, h4⟩ := ht.2 i hi
    have ea : ∀ j, (⟨g, 0, none⟩ : Addr).add j = ⟨g, 0 + j, none⟩ := fun j => by unfold Addr.add; split <;> simp_all
    refine ⟨v0, vn, vd, ?_, ?_, ?_, h4⟩
    · rw [← ea]; exact hc _ _ h0
    · rw [show 0 + i * 3 + 1 = 0 + (i * 3 + 1) by omega, ← ea]; exact hc _ _ h1
    · rw [show 0 + i * 3 + 2 = 0 + (i * 3 + 2) by omega, ← ea]; exact hc _ _ h2
/-- Two rows that the call owns, of two types: they are two blocks. -/
theorem LRow.apart3 {w : World} {base : Nat} {eA eB : TypeId} {sA sB : Nat} {va vb : Value} {n m : Nat} {xs ys : List Value} (h : LRow w base eA sA va n xs) (k : LRow w base eB sB vb m ys) (hne : eA ≠ eB) : ∀ g, vb.ownBlock = some g → some g ≠ va.ownBlock := by
  intro g hg e
  rcases h.1.2 with ⟨rfl, _⟩ | ⟨g1, c1, cur1, rfl, _, hh1, _⟩
  · simp [Value.ownBlock] at e
  · rcases k.1.2 with ⟨rfl, _⟩ | ⟨g2, c2, cur2, rfl, _, hh2, _⟩
    · simp [Value.ownBlock] at hg
    · simp [Value.ownBlock] at e hg
      subst e hg
      rw [hh1] at hh2
      simp at hh2
      exact hne hh2.2

theorem ownBlock_base3 {w : World} {base : Nat} {e : TypeId} {size : Nat} {v : Value} {n : Nat} {xs : List Value} (h : w.ownsRow base e size v n xs) : ∀ k, v.ownBlock = some k → base ≤ k := by
  intro k hk
  rcases h.2 with ⟨rfl, _⟩ | ⟨g, cap, cur, rfl, hb, _⟩
  · simp [Value.ownBlock] at hk
  · simp [Value.ownBlock] at hk
    omega
/-- The two lists so far. -/
structure TF (w0 w : World) (va vb : Value) (xsA xsB : List Value) (esA esB : List Rat) : Prop where
  x : Below w0.heap.size w0 w
  la : LRow w w0.heap.size 40 3 va esA.length xsA
  lb : LRow w w0.heap.size 45 3 vb esB.length xsB
  ta : FrcRow IsRat w xsA esA
  tb : FrcRow IsR w xsB esB
theorem TF.below {w0 w w' : World} {va vb : Value} {xsA xsB : List Value} {esA esB : List Rat} (h : TF w0 w va vb xsA xsB esA esB) (hb : Below w.heap.size w w') : TF w0 w' va vb xsA xsB esA esB :=
  ⟨ext_trans h.x hb, h.la.below hb, h.lb.below hb, h.ta.mono fun _ _ hr => hr.below hb, h.tb.mono fun _ _ hr => hr.below hb⟩
theorem TF.alloc {w0 w : World} {va vb : Value} {xsA xsB : List Value} {esA esB : List Rat} (h : TF w0 w va vb xsA xsB esA esB) (o : Obj) : TF w0 (w.alloc o) va vb xsA xsB esA esB := h.below ((Below.refl _ _).alloc (Nat.le_refl _) _)
theorem TF.appendA {w0 w w' : World} {va va' vb : Value} {xsA xsB : List Value} {esA esB : List Rat} (h : TF w0 w va vb xsA xsB esA esB) {v0 v1 v2 : Value} {q : Rat} (hq : IsRat w (.agg #[v0, v1, v2]) q)
    (hL : LRow w' w0.heap.size 40 3 va' (esA.length + 1) (xsA ++ [v0, v1, v2])) (hg : w.grownBy w' va.ownBlock) : TF w0 w' va' vb (xsA ++ [v0, v1, v2]) xsB (esA ++ [q]) esB := by
  have hnd : ∀ g, va.ownBlock = some g → NoDig w g := h.la.2
  exact ⟨h.x.grown hg h.x.size (ownBlock_base3 h.la.1), by rw [List.length_append]; exact hL, h.lb.grown hg (LRow.apart3 h.la h.lb (by decide)), (h.ta.mono fun _ _ hr => hr.grown3 hg hnd).snoc (hq.grown3 hg hnd), h.tb.mono fun _ _ hr => hr.grown3 hg hnd⟩
theorem TF.appendB {w0 w w' : World} {va vb' vb : Value} {xsA xsB : List Value} {esA esB : List Rat} (h : TF w0 w va vb xsA xsB esA esB) {v0 v1 v2 : Value} {q : Rat} (hq : IsR w (.agg #[v0, v1, v2]) q)
    (hL : LRow w' w0.heap.size 45 3 vb' (esB.length + 1) (xsB ++ [v0, v1, v2])) (hg : w.grownBy w' vb.ownBlock) : TF w0 w' va vb' xsA (xsB ++ [v0, v1, v2]) esA (esB ++ [q]) := by
  have hnd : ∀ g, vb.ownBlock = some g → NoDig w g := h.lb.2
  exact ⟨h.x.grown hg h.x.size (ownBlock_base3 h.lb.1), h.la.grown hg (LRow.apart3 h.lb h.la (by decide)), by rw [List.length_append]; exact hL, h.ta.mono fun _ _ hr => hr.grown3 hg hnd, (h.tb.mono fun _ _ hr => hr.grown3 hg hnd).snoc (hq.grown3 hg hnd)⟩
theorem cell_new3 (w : World) (a b c : Value) (t : TypeId) : ∀ j u, [a, b, c][j]? = some u → (w.alloc (.cells #[a, b, c] t)).cell? ((⟨w.heap.size, 0, none⟩ : Addr).add j) = some u := by
  intro j u hj
  match j, hj with
  | 0, hj => simp at hj; subst hj; simp [Addr.add]
  | 1, hj => simp at hj; subst hj; simp [Addr.add]
  | 2, hj => simp at hj; subst hj; simp [Addr.add]
  | j + 3, hj => simp at hj
theorem info_ratio3 : (Tryz.prog.info? 40).map (fun i => (i.zero, i.size, i.bytes)) = some (some (.agg #[.bool false, .slice none 0 0, .slice none 0 0]), 3, 56) := by kernel_rfl
theorem info_r3 : (Tryz.prog.info? 45).map (fun i => (i.zero, i.size, i.bytes)) = some (some (.agg #[.bool false, .slice none 0 0, .slice none 0 0]), 3, 56) := by kernel_rfl
def boxF (n d : Int) (B : Nat) (w : World) : Prop := w.heap[B]? = some (.cells #[.int .i64 n, .int .i64 d] 25 (0, 0))
theorem boxF.all {n d : Int} {B : Nat} {w : World} (h : boxF n d B w) : boxF n d B w ∧ w.cell? ⟨B, 0, none⟩ = some (.int .i64 n) ∧ w.cell? ⟨B, 1, none⟩ = some (.int .i64 d) :=
  ⟨h, blk_cell h 0 _ rfl, blk_cell h 1 _ rfl⟩
theorem boxF.below {n d : Int} {B : Nat} {a b : World} (hb : Below a.heap.size a b) (h : boxF n d B a ∧ a.cell? ⟨B, 0, none⟩ = some (.int .i64 n) ∧ a.cell? ⟨B, 1, none⟩ = some (.int .i64 d)) : boxF n d B b ∧ b.cell? ⟨B, 0, none⟩ = some (.int .i64 n) ∧ b.cell? ⟨B, 1, none⟩ = some (.int .i64 d) :=
  boxF.all (blk_keep h.1 hb (blk_lt h.1))
theorem boxF.grown {n d : Int} {B : Nat} {a b : World} {row : Option Nat} (hg : a.grownBy b row) (hne : some B ≠ row) (h : boxF n d B a ∧ a.cell? ⟨B, 0, none⟩ = some (.int .i64 n) ∧ a.cell? ⟨B, 1, none⟩ = some (.int .i64 d)) : boxF n d B b ∧ b.cell? ⟨B, 0, none⟩ = some (.int .i64 n) ∧ b.cell? ⟨B, 1, none⟩ = some (.int .i64 d) :=
  boxF.all ((hg.block B (blk_lt h.1) hne).trans h.1)
def fracsQ (fs : List (Int × Int)) : List Rat := fs.map fun p => fracQ p.1 p.2
theorem fracsQ_take (fs : List (Int × Int)) (i : Nat) (hi : i < fs.length) : fracsQ (fs.take (i + 1)) = fracsQ (fs.take i) ++ [fracQ (fs.getD i (0, 0)).1 (fs.getD i (0, 0)).2] := by
  unfold fracsQ
  rw [List.take_add_one, List.map_append]
  simp [hi]
theorem fracsQ_length (fs : List (Int × Int)) (i : Nat) (hi : i ≤ fs.length) : (fracsQ (fs.take i)).length = i := by simp [fracsQ]; omega
def RetList (fs : List (Int × Int)) (w : World) (e : Ending) (w' : World) : Prop :=
  ∃ va vb, e = .returned (.tuple #[va, vb, .bool true]) ∧ FrcsOf IsRat w' va (fracsQ fs) ∧ FrcsOf IsR w' vb (fracsQ fs) ∧ Below w.heap.size w w'
def RetNoList (w : World) (e : Ending) (w' : World) : Prop := e = .returned (.tuple #[.slice none 0 0, .slice none 0 0, .bool false]) ∧ Below w.heap.size w w'
def i64P (p : Int × Int) : Prop := (-9223372036854775808 ≤ p.1 ∧ p.1 ≤ 9223372036854775807) ∧ -9223372036854775808 ≤ p.2 ∧ p.2 ≤ 9223372036854775807
theorem list_long (fs : List (Int × Int)) (v : Value) (w : World) (h : PairsOf w v fs) (hl : 300 < fs.length) : Calls Tryz.prog 7 #[v, .int .i64 300] w (RetNoList w) := by
  obtain ⟨ao, cap, rfl, _⟩ := h
  have t1 : decide ((fs.length : Int) > 300) = true := by simp; omega
  clear hl
  go_enter Tryz.func7, Tryz.ntmps7
  go_wp2_with fail
  go_ret3
  exact ⟨rfl, Below.refl _ _⟩
theorem list_heavy (fs : List (Int × Int)) (v : Value) (w : World) (h : PairsOf w v fs) (hl : fs.length ≤ 300) (hn : lightUp fs fs.length = false) : Calls Tryz.prog 7 #[v, .int .i64 300] w (RetNoList w) := by
  have HF := Lib.hid h
  obtain ⟨ao, cap, rfl, _⟩ := h
  have t1 : decide ((fs.length : Int) > 300) = false := by simp; omega
  have HL := Lib.hid hl
  clear hl
  go_enter Tryz.func7, Tryz.ntmps7
  go_wp2_with fail
  refine (light_any fs _ _ HF.out HL.out).mono ?_
  rintro e w1 ⟨rfl, hb⟩
  rw [hn]
  have HB := Lib.hid hb
  clear hb
  go_wp2_with fail
  go_ret3
  exact ⟨rfl, HB.out⟩
set_option maxRecDepth 100000 in
set_option maxHeartbeats 4000000 in
theorem list_any (fs : List (Int × Int)) (v : Value) (w : World) (h : PairsOf w v fs) (hl : fs.length ≤ 300) (hr : ∀ i, i < fs.length → i64P (fs.getD i (0, 0))) (hn : lightUp fs fs.length = true) : Calls Tryz.prog 7 #[v, .int .i64 300] w (RetList fs w) := by
  have HF := Lib.hid h
  obtain ⟨ao, cap, rfl, hE⟩ := h
  have HE := Lib.hid hE
  have HR := Lib.hid hr
  have t1 : decide ((fs.length : Int) > 300) = false := by simp; omega
  obtain ⟨iA, hiA, hzA, hsA, hyA⟩ := info_parts info_ratio3
  obtain ⟨iB, hiB, hzB, hsB, hyB⟩ := info_parts info_r3
  have hzd : ∀ u ∈ (Value.agg #[.bool false, .slice none 0 0, .slice none 0 0]).cells.toList, noDig u := by
    intro u hu
    simp [Value.cells] at hu
    rcases hu with rfl | rfl
    · exact noDig_bool _
    · exact noDig_slice _ _ _
  clear hE hr
  go_enter Tryz.func7, Tryz.ntmps7
  go_wp2_with fail
  refine (light_any fs _ _ HF.out hl).mono ?_
  rintro e w1 ⟨rfl, hb⟩
  rw [hn]
  have HB := Lib.hid hb
  clear hb hn
  go_wp2_with fail
  go_loopw [7, 8, 22] (fun va vb iv wr => ∃ (i : Nat) (xsA xsB : List Value), i ≤ fs.length ∧ iv = .int .i64 i ∧ TF w wr va vb xsA xsB (fracsQ (fs.take i)) (fracsQ (fs.take i)))
    (fun _ _ iv _ => fs.length - (intOf iv).toNat)
  case atStart => exact ⟨0, [], [], Nat.zero_le _, rfl, HB.out, LRow.nil _ _ _ _, LRow.nil _ _ _ _, FrcRow.nil _ _, FrcRow.nil _ _⟩
  case round =>
    obtain ⟨i, xsA, xsB, hi, rfl, hT⟩ := hrel
    have HT := Lib.hid hT
    by_cases hlt : i < fs.length
    · obtain ⟨b, off, rfl, hbl, hEE⟩ := HE.out (by omega)
      obtain ⟨g0, g1⟩ := (hEE i hlt).below hT.x hbl
      have hlt' : (i : Int) < fs.length := by omega
      have hge' : (0 : Int) ≤ i := by omega
      have hbl2 : b < wr.heap.size := Nat.lt_of_lt_of_le hbl hT.x.size
      have Htk := Lib.hid (fracsQ_take fs i hlt)
      have hln := fracsQ_length fs i hi
      have hrr := Lib.hid (HR.out i hlt)
      clear hEE hT
      generalize (fs.getD i (0, 0)) = p at *
      obtain ⟨n, d⟩ := p
      have g0' : wr.cell? ⟨b, off + i * 2, none⟩ = some (.int .i64 n) := g0
      have g1' : wr.cell? ⟨b, off + i * 2 + 1, none⟩ = some (.int .i64 d) := g1
      clear g0 g1
      generalize fracsQ (fs.take i) = es at *
      have hes : es.length ≤ 300 := by omega
      clear hln
      have hN : boxF n d wr.heap.size (wr.alloc (.cells #[.int .i64 n, .int .i64 d] 25)).drew := blk_new wr #[.int .i64 n, .int .i64 d] 25
      have HT0 := Lib.hid (HT.out.below (((Below.refl wr.heap.size wr).alloc (Nat.le_refl _) (.cells #[.int .i64 n, .int .i64 d] 25)).drew))
      have hAlt := Lib.hid (fun g (hg : u7.ownBlock = some g) => (HT.out.la.lt hg).1)
      have hBlt := Lib.hid (fun g (hg : u8.ownBlock = some g) => (HT.out.lb.lt hg).1)
      go_wp2_with fail
      go_region_held3 (fun w' => boxF n d wr.heap.size w' ∧ w'.cell? ⟨wr.heap.size, 0, none⟩ = some (.int .i64 n) ∧ w'.cell? ⟨wr.heap.size, 1, none⟩ = some (.int .i64 d))
        (first | exact hN.all | assumption | (refine boxF.below hbA ?_; assumption) | (refine boxF.below hbB ?_; assumption) | (refine boxF.below ((Below.refl _ _).alloc (Nat.le_refl _) _) ?_; assumption) | (refine boxF.grown hgrA (fun e => Nat.lt_irrefl _ (hAlt.out _ e.symm)) ?_; assumption) | (refine boxF.grown hgrB (fun e => Nat.lt_irrefl _ (hBlt.out _ e.symm)) ?_; assumption))
        (first
          | (go_at_call 11; refine (of_any n d _ hrr.out.1.1 hrr.out.1.2 hrr.out.2.1 hrr.out.2.2).mono ?_; rintro e wA ⟨vA, rfl, hvA, hbA⟩; obtain ⟨a1, c1, a2, c2, rfl, _, _⟩ := hvA.opened; have HVA := Lib.hid hvA; have HT1 := Lib.hid (HT0.out.below hbA); clear hvA)
          | (go_at_call 13; refine (qof_any n d _ hrr.out.1.1 hrr.out.1.2 hrr.out.2.1 hrr.out.2.2).mono ?_; rintro e wB ⟨vB, rfl, hvB, hbB⟩; obtain ⟨dB, a3, c3, a4, c4, rfl, _, _, _⟩ := hvB.opened; have HVB := Lib.hid hvB; have HT4 := Lib.hid (HT3.out.below hbB); clear hvB)
          | (refine step_append_lrow _ rfl (.tmp 26) (.tmp 29) 26 rfl w.heap.size 40 iA _ 3 56 Tryz.underlying26 hiA hzA hsA hyA rfl (by decide) hzd _ _ _ rfl (HT1.out.alloc _).la ⟨wA.heap.size, 0, none⟩ 1 1 [.bool (decide ((fracQ n d).num < 0)), .slice a1 (dig b64 (fracQ n d).num.natAbs).length c1, .slice a2 (dig b64 (dn (fracQ n d).den)).length c2] rfl rfl (cell_new3 _ _ _ _ _) (by simp [Value.oneCell']) (by intro u hu; simp at hu; rcases hu with rfl | rfl | rfl; exact noDig_bool _; exact noDig_slice _ _ _; exact noDig_slice _ _ _) (by omega) (by unfold maxLen; omega) (by omega) (HT1.out.alloc _).x.size ?_; intro gA capA w3 hL3 hgrA hatA; have HT3 := Lib.hid ((HT1.out.alloc _).appendA (HVA.out.below ((Below.refl _ _).alloc (Nat.le_refl _) _)) hL3 hgrA))
          | (refine step_append_lrow _ rfl (.tmp 31) (.tmp 34) 27 rfl w.heap.size 45 iB _ 3 56 Tryz.underlying27 hiB hzB hsB hyB rfl (by decide) hzd _ _ _ rfl (HT4.out.alloc _).lb ⟨wB.heap.size, 0, none⟩ 1 1 [.bool (decide ((fracQ n d).num < 0)), .slice a3 (dig b32 (fracQ n d).num.natAbs).length c3, .slice a4 (dig b32 dB).length c4] rfl rfl (cell_new3 _ _ _ _ _) (by simp [Value.oneCell']) (by intro u hu; simp at hu; rcases hu with rfl | rfl | rfl; exact noDig_bool _; exact noDig_slice _ _ _; exact noDig_slice _ _ _) (by omega) (by unfold maxLen; omega) (by omega) (HT4.out.alloc _).x.size ?_; intro gB capB w6 hL6 hgrB hatB; have HT6 := Lib.hid ((HT4.out.alloc _).appendB (HVB.out.below ((Below.refl _ _).alloc (Nat.le_refl _) _)) hL6 hgrB)))
      clear HT HT0 HT1 HT3 HT4 HVA HVB hL3 hL6 hgrA hgrB
      go_wp2_with fail
      exact ⟨⟨i + 1, _, _, by omega, by go_num, by rw [Htk.out]; exact HT6.out⟩, meas_up hlt⟩
    · obtain rfl : i = fs.length := by omega
      rw [List.take_length] at hT HT
      clear hT
      go_wp2_with fail
      go_ret3
      exact ⟨_, _, rfl, FrcsOf.ofRow HT.out.la HT.out.ta, FrcsOf.ofRow HT.out.lb HT.out.tb, HT.out.x⟩
end Go.Proofs.YtmfochplnchgcaaGreat

/- THE WALKS of a run's small functions. -/
namespace Go.Proofs.YtmfochplnchgcaaGreat
open Go.RowKit

abbrev rnV (x : Rn) : Value := .agg #[.int .i64 x.ph, .int .i64 x.be, .int .i64 x.mi, .int .i64 x.wa, .bool x.l0, .bool x.l1, .bool x.l2, .bool x.te]
abbrev ruV (r : Ru) : Value := .agg #[.int .i64 r.m0, .int .i64 r.m1, .int .i64 r.m2, .int .i64 r.pa, .int .i64 r.t00, .int .i64 r.t01, .int .i64 r.t02, .int .i64 r.t10, .int .i64 r.t11, .int .i64 r.t12, .int .i64 r.t20, .int .i64 r.t21, .int .i64 r.t22]
def RetRn (y : Rn) (w : World) (e : Ending) (w' : World) : Prop := e = .returned (rnV y) ∧ Below w.heap.size w w'

theorem below1 (w : World) (o : Obj) : Below w.heap.size w (w.alloc o) := (Below.refl w.heap.size w).alloc (Nat.le_refl _) o
theorem ba {W a : World} {o : Obj} (h : Below W.heap.size W a) : Below W.heap.size W (a.alloc o) := h.alloc h.size _
theorem below2 (w : World) (o o' : Obj) : Below w.heap.size w ((w.alloc o).alloc o') := ((Below.refl w.heap.size w).alloc (Nat.le_refl _) o).alloc (below1 w o).size o'
abbrev rnA (x : Rn) : Array Value := #[.int .i64 x.ph, .int .i64 x.be, .int .i64 x.mi, .int .i64 x.wa, .bool x.l0, .bool x.l1, .bool x.l2, .bool x.te]
abbrev ruA (r : Ru) : Array Value := #[.int .i64 r.m0, .int .i64 r.m1, .int .i64 r.m2, .int .i64 r.pa, .int .i64 r.t00, .int .i64 r.t01, .int .i64 r.t02, .int .i64 r.t10, .int .i64 r.t11, .int .i64 r.t12, .int .i64 r.t20, .int .i64 r.t21, .int .i64 r.t22]
def RetRnW (y : Rn) (W : World) (e : Ending) (w' : World) : Prop := e = .returned (rnV y) ∧ w' = W
def RetBW (b : Bool) (W : World) (e : Ending) (w' : World) : Prop := e = .returned (.bool b) ∧ w' = W
abbrev rnO (x : Rn) : Obj := .cells (rnA x) 89
abbrev ruO (r : Ru) : Obj := .cells (ruA r) 86
theorem in_any (x lo hi : Int) (w : World) : Calls Tryz.prog 71 #[.int .i64 x, .int .i64 lo, .int .i64 hi] w (RetBoolS (inR x lo hi) w) := by
  by_cases h1 : lo ≤ x
  · have t1 : decide (x ≥ lo) = true := decide_eq_true h1
    have e : inR x lo hi = decide (x ≤ hi) := by unfold inR; rw [decide_eq_true h1]; rfl
    rw [e]
    clear h1 e
    go_enter Tryz.func71, Tryz.ntmps71
    go_wp2_with fail
    go_ret
    exact ⟨rfl, rfl⟩
  · have t1 : decide (x ≥ lo) = false := decide_eq_false h1
    have e : inR x lo hi = false := by unfold inR; rw [decide_eq_false h1]; rfl
    rw [e]
    clear h1 e
    go_enter Tryz.func71, Tryz.ntmps71
    go_wp2_with fail
    go_ret
    exact ⟨rfl, rfl⟩

theorem goes_any (x : Rn) (w : World) : Calls Tryz.prog 137 #[rnV x] w (RetBW (goes x.ph) (w.alloc (rnO x))) := by
  go_enter Tryz.func137, Tryz.ntmps137
  go_wp2_with fail
  refine (in_any _ _ _ _).mono ?_
  rintro e w' ⟨rfl, rfl⟩
  go_wp2_with fail
  go_ret
  exact ⟨rfl, rfl⟩

theorem ended_any (x : Rn) (p : Int) (w : World) : Calls Tryz.prog 136 #[rnV x, .int .i64 p] w (RetRnW (ended x p) ((w.alloc (rnO (ended x p))).alloc (rnO (ended x p)))) := by
  go_enter Tryz.func136, Tryz.ntmps136
  go_wp2_with fail
  refine bodyPost_ret (v := rnV (ended x p)) (by simp [results, Tryz.results136, go_sem, ended]) rfl ?_
  exact ⟨rfl, rfl⟩

theorem ans0_any (x : Rn) (w : World) : Calls Tryz.prog 152 #[rnV x] w (RetRnW x ((w.alloc (rnO x)).alloc (rnO x))) := by
  go_enter Tryz.func152, Tryz.ntmps152
  go_wp2_with fail
  refine bodyPost_ret (v := rnV x) (by simp [results, Tryz.results152, go_sem]) rfl ?_
  exact ⟨rfl, rfl⟩
theorem ans1_any (x : Rn) (w : World) : Calls Tryz.prog 153 #[rnV x] w (RetRn { x with te := true } w) := by
  go_enter Tryz.func153, Tryz.ntmps153
  go_wp2_with fail
  refine bodyPost_ret (v := rnV { x with te := true }) (by simp [results, Tryz.results153, go_sem]) rfl ?_
  exact ⟨rfl, below2 _ _ _⟩
theorem ans3_any (x : Rn) (w : World) : Calls Tryz.prog 155 #[rnV x] w (RetRn (ended x 7) w) := by
  go_enter Tryz.func155, Tryz.ntmps155
  go_wp2_with fail
  refine (ended_any _ _ _).mono ?_
  rintro e w' ⟨rfl, rfl⟩
  go_wp2_with fail
  refine bodyPost_ret (v := rnV (ended x 7)) (by simp [results, Tryz.results155, go_sem]) rfl ?_
  refine ⟨rfl, ?_⟩
  exact ba (ba (below2 _ _ _))
theorem ans2_any (x : Rn) (w : World) : Calls Tryz.prog 154 #[rnV x] w (RetRn (if goes x.ph then { x with be := x.ph, ph := 4 } else x) w) := by
  cases hg : goes x.ph with
  | true =>
    go_enter Tryz.func154, Tryz.ntmps154
    go_wp2_with fail
    refine (goes_any _ _).mono ?_
    rintro e w' ⟨rfl, rfl⟩
    rw [hg]
    go_wp2_with fail
    refine bodyPost_ret (v := rnV { x with be := x.ph, ph := 4 }) (by simp [results, Tryz.results154, go_sem]) rfl ?_
    refine ⟨by simp, ?_⟩
    exact ba (below2 _ _ _)
  | false =>
    go_enter Tryz.func154, Tryz.ntmps154
    go_wp2_with fail
    refine (goes_any _ _).mono ?_
    rintro e w' ⟨rfl, rfl⟩
    rw [hg]
    go_wp2_with fail
    refine bodyPost_ret (v := rnV x) (by simp [results, Tryz.results154, go_sem]) rfl ?_
    refine ⟨by simp, ?_⟩
    exact ba (below2 _ _ _)
/-- The map of answers: under 0 to 3 the four functions. -/
def ansElem (v : Value) : Option (DataW Unit × List MemPlace) :=
  match v with
  | .func (.func n) a b => if a.size = 0 ∧ b.size = 0 then some (.lit (.int .i64 n), []) else none
  | .nilFunc => some (.lit (.int .i64 (-1)), [])
  | _ => none
theorem ansElem_inv {v : Value} {n : Nat} {ps : List MemPlace} (h : ansElem v = some (.lit (.int .i64 n), ps)) : v = .func (.func n) #[] #[] := by
  unfold ansElem at h
  split at h
  · rename_i m a b
    split at h
    · rename_i hs
      simp only [Option.some.injEq, Prod.mk.injEq, DataW.lit.injEq, Lit.int.injEq] at h
      have hm : m = n := Int.ofNat.inj h.1.2
      rw [Array.eq_empty_of_size_eq_zero hs.1, Array.eq_empty_of_size_eq_zero hs.2, hm]
    · cases h
  · simp only [Option.some.injEq, Prod.mk.injEq, DataW.lit.injEq, Lit.int.injEq] at h
    omega
  · cases h
theorem wpList_insert_own {H : Type} {P : Program} (w : World) {ops : Array Oper} {rest : List Oper} {o : Oper} {a : Act} {Q : Exit → Act → World → Prop}
    (hg : o.guard = none) (m x v : Operand) (t : TypeId) (hop : o.op = Op.insert t m x v)
    (k e : TypeId) (K : Go.Maps.Keyed P k) (ht : P.underlying t = some (.map k e)) (R : Value → Option (DataW H × List MemPlace)) (b n : Nat) (D : DataW H)
    (hm : a.eval m = .map (some b)) (hown : w.ownsMap P k R b n D) (hn : n < maxLen) (key val : Value) (kl : Lit) (hx : a.eval x = key) (hv : a.eval v = val) (hkey : keyOf P k key = some kl)
    (d : DataW H) (ps : List MemPlace) (hval : R val = some (d, ps))
    (hK : ∀ w', w'.ownsMap P k R b (n + 1) (D.put kl d) → w.grownBy w' (some b) → wpList P ops Q rest (a.put o.dst undef) w') :
    wpList P ops Q (o :: rest) a w := by
  refine wpList_plain hg fun K' hK' => ?_
  obtain ⟨w', hrun, r1, r2⟩ := hown.update K ht hn hkey hval
  unfold Oper.wp
  simp [execOp, hop, hm, hx, hv, hrun, Result.andThen]
  exact hK' _ _ (hK w' r1 r2)
def ansD : DataW Unit := .map [(.int .i64 0, .lit (.int .i64 (152 : Nat))), (.int .i64 1, .lit (.int .i64 (153 : Nat))), (.int .i64 2, .lit (.int .i64 (154 : Nat))), (.int .i64 3, .lit (.int .i64 (155 : Nat)))]
/-- Block M is the map of answers. -/
def AnsMap (w : World) (M : Nat) : Prop := w.ownsMap Tryz.prog 3 ansElem M 4 ansD
def RetAns (w : World) (e : Ending) (w' : World) : Prop := ∃ M, e = .returned (.map (some M)) ∧ AnsMap w' M ∧ Below w.heap.size w w'
theorem keyA (n : Int) (h1 : -9223372036854775808 ≤ n) (h2 : n ≤ 9223372036854775807) : keyOf Tryz.prog 3 (.int .i64 n) = some (.int .i64 n) := by
  refine Maps.keyOf_int_mk Tryz.underlying3 ?_
  have hmin : IntKind.i64.min = -9223372036854775808 := by decide
  have hmax : IntKind.i64.max = 9223372036854775807 := by decide
  simp only [Lit.wf, hmin, hmax, Bool.and_eq_true, decide_eq_true_eq]
  omega
set_option maxRecDepth 100000 in
set_option maxHeartbeats 1000000 in
theorem answers_any (w : World) : Calls Tryz.prog 138 #[] w (RetAns w) := by
  have hmk := fun w => run_makeMap (P := Tryz.prog) 179 w
  have K := Maps.int_keyed (P := Tryz.prog) Tryz.underlying3
  have ht := Tryz.underlying179
  have o0 := World.ownsMap_made w Tryz.prog 3 ansElem
  obtain ⟨w1, r1, o1, g1⟩ := o0.update K ht (by decide) (keyA 0 (by omega) (by omega)) (val := .func (.func 152) #[] #[]) rfl
  obtain ⟨w2, r2, o2, g2⟩ := o1.update K ht (by decide) (keyA 1 (by omega) (by omega)) (val := .func (.func 153) #[] #[]) rfl
  obtain ⟨w3, r3, o3, g3⟩ := o2.update K ht (by decide) (keyA 2 (by omega) (by omega)) (val := .func (.func 154) #[] #[]) rfl
  obtain ⟨w4, r4, o4, g4⟩ := o3.update K ht (by decide) (keyA 3 (by omega) (by omega)) (val := .func (.func 155) #[] #[]) rfl
  have hne : some w.heap.size ≠ some w.heap.size → False := fun h => h rfl
  have hb : Below w.heap.size w w4 := by
    have b1 := (below1 w (.map #[] 0)).grown g1 (below1 w (.map #[] 0)).size (by simp)
    have b2 := b1.grown g2 b1.size (by simp)
    have b3 := b2.grown g3 b2.size (by simp)
    exact b3.grown g4 b3.size (by simp)
  have O : Hid (AnsMap w4 w.heap.size) := o4
  clear K o0 o1 o2 o3 o4 g1 g2 g3 g4 ht
  go_enter Tryz.func138, Tryz.ntmps138
  go_wp2_with fail
  go_ret
  exact ⟨_, rfl, O.out, hb⟩
/-- What answer v makes of a run. -/
def ansR (v : Int) (x : Rn) : Rn := if v = 3 then ended x 7 else if v = 1 then { x with te := true } else if v = 2 then (if goes x.ph then { x with be := x.ph, ph := 4 } else x) else x
def ansF (v : Int) : Nat := if v = 3 then 155 else if v = 1 then 153 else if v = 2 then 154 else 152
theorem ans_any (v : Int) (hv : 0 ≤ v ∧ v ≤ 3) (x : Rn) (w : World) : Calls Tryz.prog (ansF v) #[rnV x] w (RetRn (ansR v x) w) := by
  rcases (show v = 0 ∨ v = 1 ∨ v = 2 ∨ v = 3 by omega) with rfl | rfl | rfl | rfl
  · refine (ans0_any x w).mono fun e w' ⟨h1, h2⟩ => ⟨h1, ?_⟩
    rw [h2]
    exact below2 _ _ _
  · exact ans1_any x w
  · exact ans2_any x w
  · exact ans3_any x w
theorem ans_look {w : World} {M : Nat} (h : AnsMap w M) (v : Int) (hv : 0 ≤ v ∧ v ≤ 3) : (Instr.lookup 179 (.map (some M)) (.int .i64 v) false).run Tryz.prog w = .ok (.func (.func (ansF v)) #[] #[]) w := by
  have hz : (zeroValue 178).run Tryz.prog w = .ok .nilFunc w := by kernel_rfl
  obtain ⟨u, ps, h1, h2⟩ := World.ownsMap.lookup h (Maps.int_keyed Tryz.underlying3) Tryz.underlying179 hz (zd := .lit (.int .i64 (-1))) (zp := []) rfl (keyA v (by omega) (by omega))
  rw [h1]
  have h3 : ansD.atKey (.int .i64 v) (.lit (.int .i64 (-1))) = .lit (.int .i64 (ansF v : Nat)) := by
    rcases (show v = 0 ∨ v = 1 ∨ v = 2 ∨ v = 3 by omega) with rfl | rfl | rfl | rfl <;> rfl
  rw [h3] at h2
  rw [ansElem_inv h2]
end Go.Proofs.YtmfochplnchgcaaGreat
