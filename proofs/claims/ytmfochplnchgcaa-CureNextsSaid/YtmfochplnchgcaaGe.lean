/- Part e of the lemmas and walks. -/
import Derived.Maps.Own
import Derived.Test.YtmfochplnchgcaaGa
import Derived.Test.YtmfochplnchgcaaGd

/- LOGS: what a slice of readings reads as; the walk of store.checkLog. -/
namespace Go.Proofs.Ytmfochplnchgcaa
open Go.RowKit

/-- Two cells read as a reading: a time and a temperature's bits. -/
def RdAt (w : World) (b o : Nat) (r : Int × Nat) : Prop := w.cell? ⟨b, o, none⟩ = some (.int .i64 r.1) ∧ w.cell? ⟨b, o + 1, none⟩ = some (.float .f32 r.2)
/-- The slice v reads as the log ls. -/
def LogOf (w : World) (v : Value) (ls : List (Int × Nat)) : Prop :=
  ∃ ao cap, v = .slice ao ls.length cap ∧ (0 < ls.length → ∃ b off, ao = some ⟨b, off, none⟩ ∧ b < w.heap.size ∧ ∀ i, i < ls.length → RdAt w b (off + i * 2) (ls.getD i (0, 0)))
theorem RdAt.below {w w' : World} {b o : Nat} {r : Int × Nat} (h : RdAt w b o r) (hb : Below w.heap.size w w') (hl : b < w.heap.size) : RdAt w' b o r :=
  ⟨(hb.cell (p := ⟨b, o, none⟩) hl).trans h.1, (hb.cell (p := ⟨b, o + 1, none⟩) hl).trans h.2⟩
theorem LogOf.below {w w' : World} {v : Value} {ls : List (Int × Nat)} (h : LogOf w v ls) (hb : Below w.heap.size w w') : LogOf w' v ls := by
  obtain ⟨ao, cap, rfl, h⟩ := h
  refine ⟨ao, cap, rfl, fun hl => ?_⟩
  obtain ⟨b, off, rfl, hlt, h⟩ := h hl
  exact ⟨b, off, rfl, Nat.lt_of_lt_of_le hlt hb.size, fun i hi => (h i hi).below hb hlt⟩

theorem run_store_f32 (a : Addr) (x : Nat) (m : Mode) (w : World) : (store a (.float .f32 x) m).run Try.prog w = stored Try.prog w a (.float .f32 x) m := run_store _ w a _ m rfl

/-- The error of reading i of a log. -/
def rdErr (ls : List (Int × Nat)) (i : Nat) : Int :=
  if timeB (ls.getD i (0, 0)).1 = false ∨ tempOk (ls.getD i (0, 0)).2 = false then 1
  else if 0 < i ∧ (ls.getD i (0, 0)).1 ≤ (ls.getD (i - 1) (0, 0)).1 then 7 else 0
/-- The error of a log. -/
def logErr (ls : List (Int × Nat)) : Int := if 256 < ls.length then 4 else firstErr (rdErr ls) ls.length

end Go.Proofs.Ytmfochplnchgcaa

/- THE WALK OF THE REFERENCE's CheckLog. -/
namespace Go.Proofs.Ytmfochplnchgcaa
open Go.RowKit

/-- The error of a temperature. -/
def tempE (b : Nat) : Int := if tempOk b = true then 0 else 1
end Go.Proofs.Ytmfochplnchgcaa

/- THE WALKS OF THE REFERENCE's both AND rateOf. -/
namespace Go.Proofs.Ytmfochplnchgcaa
open Go.RowKit

/-- How long two stretches have in common. -/
def bothI (f t a b : Int) : Int := max 0 (min t b - max f a)

end Go.Proofs.Ytmfochplnchgcaa

/- THE LIFE THAT A LOG TAKES: plain. -/
namespace Go.Proofs.Ytmfochplnchgcaa
open Go.RowKit

theorem firstErr_all {f : Nat → Int} {n : Nat} (h : firstErr f n = 0) : ∀ i, i < n → f i = 0 := by
  induction n with
  | zero => intro i hi; omega
  | succ n ih =>
    intro i hi
    have h0 : firstErr f n = 0 := by
      rcases Classical.em (firstErr f n = 0) with h1 | h1
      · exact h1
      · have := firstErr_stay h1 (Nat.le_succ n)
        rw [this] at h
        exact absurd h h1
    rw [firstErr_step h0] at h
    rcases Nat.lt_or_ge i n with h1 | h1
    · exact ih h0 i h1
    · obtain rfl : i = n := by omega
      exact h

theorem tab_ok {es : List (Rat × Int)} (h : tabErr es = 0) : 0 < es.length ∧ es.length ≤ 16 ∧ ∀ i, i < es.length → 0 ≤ (es.getD i (0, 0)).2 ∧ (es.getD i (0, 0)).2 ≤ 1000 := by
  unfold tabErr at h
  split at h
  · omega
  · rename_i hl
    refine ⟨by omega, by omega, fun i hi => ?_⟩
    have := firstErr_all h i hi
    unfold entErr at this
    split at this
    · omega
    · split at this
      · omega
      · omega

theorem rateUp_range {es : List (Rat × Int)} (h : ∀ i, i < es.length → 0 ≤ (es.getD i (0, 0)).2 ∧ (es.getD i (0, 0)).2 ≤ 1000) (T : Rat) : 0 ≤ rateUp es T ∧ rateUp es T ≤ 1000 := by
  have key : ∀ i, i ≤ es.length → 0 ≤ rateUp (es.take i) T ∧ rateUp (es.take i) T ≤ 1000 := by
    intro i
    induction i with
    | zero => intro _; simp [rateUp]
    | succ i ih =>
      intro hi
      rw [rateUp_take es T i (by omega)]
      split
      · exact h i (by omega)
      · exact ih (by omega)
  have := key es.length (Nat.le_refl _)
  rwa [List.take_length] at this

theorem log_ok {ls : List (Int × Nat)} (h : logErr ls = 0) : ls.length ≤ 256 ∧ ∀ i, i < ls.length → 0 ≤ (ls.getD i (0, 0)).1 ∧ (ls.getD i (0, 0)).1 ≤ 1073741824 ∧ tempOk (ls.getD i (0, 0)).2 = true := by
  unfold logErr at h
  split at h
  · omega
  · refine ⟨by omega, fun i hi => ?_⟩
    have := firstErr_all h i hi
    unfold rdErr at this
    split at this
    · omega
    · rename_i hn
      have h1 : timeB (ls.getD i (0, 0)).1 = true := by
        cases h : timeB (ls.getD i (0, 0)).1
        · exact absurd (.inl h) hn
        · rfl
      have h2 : tempOk (ls.getD i (0, 0)).2 = true := by
        cases h : tempOk (ls.getD i (0, 0)).2
        · exact absurd (.inr h) hn
        · rfl
      unfold timeB at h1
      simp at h1
      exact ⟨h1.1, h1.2, h2⟩

/-- The rate without a reading. -/
def hotI (es : List (Rat × Int)) : Int := (es.getD (es.length - 1) (0, 0)).2
/-- The rate ahead of reading i. -/
def rateI (es : List (Rat × Int)) (gap : Int) (ls : List (Int × Nat)) (i : Nat) : Int :=
  if 0 < i ∧ (ls.getD i (0, 0)).1 - (ls.getD (i - 1) (0, 0)).1 ≤ gap then max (rateUp es (tempQ (ls.getD (i - 1) (0, 0)).2)) (rateUp es (tempQ (ls.getD i (0, 0)).2)) else hotI es
/-- The time of the reading ahead of reading i. -/
def lastT (ls : List (Int × Nat)) (i : Nat) : Int := if i = 0 then 0 else (ls.getD (i - 1) (0, 0)).1
/-- The life lost ahead of reading i. -/
def usedI (es : List (Rat × Int)) (gap : Int) (ls : List (Int × Nat)) (f t : Int) : Nat → Int
  | 0 => 0
  | i + 1 => usedI es gap ls f t i + rateI es gap ls i * bothI f t (lastT ls i) (ls.getD i (0, 0)).1
/-- All the life lost. -/
def usedAll (es : List (Rat × Int)) (gap : Int) (ls : List (Int × Nat)) (f t : Int) : Int :=
  usedI es gap ls f t ls.length + hotI es * bothI f t (lastT ls ls.length) 1073741825

structure GoodLog (es : List (Rat × Int)) (ls : List (Int × Nat)) (f t : Int) : Prop where
  tab : tabErr es = 0
  log : logErr ls = 0
  f0 : 0 ≤ f
  f1 : f ≤ 1073741824
  t0 : 0 ≤ t
  t1 : t ≤ 1073741824

theorem GoodLog.hot {es : List (Rat × Int)} {ls : List (Int × Nat)} {f t : Int} (h : GoodLog es ls f t) : 0 ≤ hotI es ∧ hotI es ≤ 1000 := by
  obtain ⟨h1, h2, h3⟩ := tab_ok h.tab
  exact h3 _ (by omega)
theorem GoodLog.up {es : List (Rat × Int)} {ls : List (Int × Nat)} {f t : Int} (h : GoodLog es ls f t) (T : Rat) : 0 ≤ rateUp es T ∧ rateUp es T ≤ 1000 := rateUp_range (tab_ok h.tab).2.2 T
theorem GoodLog.rate {es : List (Rat × Int)} {ls : List (Int × Nat)} {f t : Int} (h : GoodLog es ls f t) (gap : Int) (i : Nat) : 0 ≤ rateI es gap ls i ∧ rateI es gap ls i ≤ 1000 := by
  unfold rateI
  split
  · have a := h.up (tempQ (ls.getD (i - 1) (0, 0)).2)
    have b := h.up (tempQ (ls.getD i (0, 0)).2)
    omega
  · exact h.hot
theorem GoodLog.last {es : List (Rat × Int)} {ls : List (Int × Nat)} {f t : Int} (h : GoodLog es ls f t) (i : Nat) (hi : i ≤ ls.length) : 0 ≤ lastT ls i ∧ lastT ls i ≤ 1073741824 := by
  unfold lastT
  split
  · omega
  · have := (log_ok h.log).2 (i - 1) (by omega)
    omega
theorem GoodLog.both {es : List (Rat × Int)} {ls : List (Int × Nat)} {f t : Int} (h : GoodLog es ls f t) (a b : Int) : 0 ≤ bothI f t a b ∧ bothI f t a b ≤ 1073741824 := by
  have := h.f0
  have := h.t1
  unfold bothI
  omega
theorem mul_range {x y : Int} (hx0 : 0 ≤ x) (hx : x ≤ 1000) (hy0 : 0 ≤ y) (hy : y ≤ 1073741824) : 0 ≤ x * y ∧ x * y ≤ 1073741824000 := by
  refine ⟨Int.mul_nonneg hx0 hy0, ?_⟩
  have a := Int.mul_le_mul_of_nonneg_right hx hy0
  have b := Int.mul_le_mul_of_nonneg_left hy (show (0 : Int) ≤ 1000 by omega)
  omega
theorem GoodLog.used {es : List (Rat × Int)} {ls : List (Int × Nat)} {f t : Int} (h : GoodLog es ls f t) (gap : Int) (i : Nat) : 0 ≤ usedI es gap ls f t i ∧ usedI es gap ls f t i ≤ 1073741824000 * i := by
  induction i with
  | zero => simp [usedI]
  | succ i ih =>
    have r := h.rate gap i
    have b := h.both (lastT ls i) (ls.getD i (0, 0)).1
    have m := mul_range r.1 r.2 b.1 b.2
    show 0 ≤ usedI es gap ls f t i + rateI es gap ls i * bothI f t (lastT ls i) (ls.getD i (0, 0)).1 ∧ usedI es gap ls f t i + rateI es gap ls i * bothI f t (lastT ls i) (ls.getD i (0, 0)).1 ≤ _
    generalize rateI es gap ls i * bothI f t (lastT ls i) (ls.getD i (0, 0)).1 = z at *
    omega

end Go.Proofs.Ytmfochplnchgcaa

/- THE WALK OF store.from. -/
namespace Go.Proofs.Ytmfochplnchgcaa
open Go.RowKit

theorem jobs_ok {js : List (Int × Int)} {ovens : Int} (h : jobsErr js ovens = 0) : GoodJobs js ovens := by
  unfold jobsErr at h
  split at h
  · omega
  · split at h
    · omega
    · rename_i h1 h2
      refine ⟨by omega, by omega, by omega, fun i hi => ?_⟩
      have := firstErr_all h i hi
      unfold jobErr at this
      split at this
      · omega
      · omega

/-- The jobs that are not ready ahead of r, of the first k. -/
def idxFrom (js : List (Int × Int)) (r : Int) : Nat → List Nat
  | 0 => []
  | k + 1 => if r ≤ (js.getD k (0, 0)).1 then idxFrom js r k ++ [k] else idxFrom js r k
def sumFrom (js : List (Int × Int)) (r : Int) : Nat → Int
  | 0 => 0
  | k + 1 => if r ≤ (js.getD k (0, 0)).1 then sumFrom js r k + (js.getD k (0, 0)).2 else sumFrom js r k
def timeFrom (js : List (Int × Int)) (ovens r : Int) : Int := r + (sumFrom js r js.length + ovens - 1) / ovens
theorem idxFrom_length (js : List (Int × Int)) (r : Int) (k : Nat) : (idxFrom js r k).length ≤ k := by
  induction k with
  | zero => simp [idxFrom]
  | succ k ih =>
    unfold idxFrom
    split
    · rw [List.length_append]; simp; omega
    · omega
theorem sumFrom_range {js : List (Int × Int)} {ovens : Int} (h : GoodJobs js ovens) (r : Int) (k : Nat) (hk : k ≤ js.length) : 0 ≤ sumFrom js r k ∧ sumFrom js r k ≤ 1000000 * k := by
  induction k with
  | zero => simp [sumFrom]
  | succ k ih =>
    have := ih (by omega)
    have := h.job k (by omega)
    unfold sumFrom
    split <;> omega

theorem info_int : (Try.prog.info? 3).map (fun i => (i.zero, i.size, i.bytes)) = some (some (.int .i64 0), 1, 8) := by kernel_rfl
/-- Indices as cells. -/
def idxCells (l : List Nat) : List Value := l.map (fun j : Nat => Value.int .i64 (j : Int))

/-- What a row of integers that the call owns reads as. -/
theorem LRow.isRow {w : World} {base : Nat} {e : TypeId} {v : Value} {l : List Nat} (h : LRow w base e 1 v l.length (idxCells l)) : IsRow .i64 w v l := by
  rcases Nat.eq_zero_or_pos l.length with h0 | hp
  · left
    have hl := List.eq_nil_of_length_eq_zero h0
    refine ⟨hl, ?_⟩
    rcases h.1.2 with ⟨rfl, _⟩ | ⟨g, cap, cur, rfl, _, _, _, hcm, _⟩
    · exact ⟨_, _, rfl, by unfold maxLen; omega, fun _ => rfl⟩
    · exact ⟨_, _, by rw [h0], hcm, by simp⟩
  · obtain ⟨g, cap, rfl⟩ := ownsRow_some h.1 hp
    obtain ⟨ho, h1, h2, _⟩ := Own.of_ownsRow (k := .i64) (ds := l) rfl h.1
    exact ho.isRowCap cap h1 h2

/-- What from hands back. -/
def RetIdx (l : List Nat) (n : Int) (w : World) (e : Ending) (w' : World) : Prop :=
  ∃ v, e = .returned (.tuple #[v, .int .i64 n]) ∧ IsRow .i64 w' v l ∧ Below w.heap.size w w'

theorem ownBlock_base {w : World} {base : Nat} {e : TypeId} {size : Nat} {v : Value} {n : Nat} {xs : List Value} (h : w.ownsRow base e size v n xs) : ∀ k, v.ownBlock = some k → base ≤ k := by
  intro k hk
  rcases h.2 with ⟨rfl, _⟩ | ⟨g, cap, cur, rfl, hb, _⟩
  · simp [Value.ownBlock] at hk
  · simp [Value.ownBlock] at hk
    omega

end Go.Proofs.Ytmfochplnchgcaa

/- THE WALK OF store.Bound. -/
namespace Go.Proofs.Ytmfochplnchgcaa
open Go.RowKit

/-- The best bound by the jobs that are not ready ahead of one of the first k, and that time. -/
def bestTo (js : List (Int × Int)) (ovens : Int) : Nat → Int × Int
  | 0 => (-1, 0)
  | k + 1 => if (bestTo js ovens k).1 < timeFrom js ovens (js.getD k (0, 0)).1 ∨ (timeFrom js ovens (js.getD k (0, 0)).1 = (bestTo js ovens k).1 ∧ (js.getD k (0, 0)).1 < (bestTo js ovens k).2)
    then (timeFrom js ovens (js.getD k (0, 0)).1, (js.getD k (0, 0)).1) else bestTo js ovens k
/-- The jobs that show it. -/
def proofTo (js : List (Int × Int)) (ovens : Int) (k : Nat) : List Nat := if k = 0 then [] else idxFrom js (bestTo js ovens k).2 js.length
/-- Then the best one by a job alone. -/
def topTo (js : List (Int × Int)) (ovens : Int) : Nat → Int × Option Nat
  | 0 => ((bestTo js ovens js.length).1, none)
  | k + 1 => if (topTo js ovens k).1 < (js.getD k (0, 0)).1 + (js.getD k (0, 0)).2 then ((js.getD k (0, 0)).1 + (js.getD k (0, 0)).2, some k) else topTo js ovens k
def shownBy (js : List (Int × Int)) (ovens : Int) (s : Option Nat) : List Nat := match s with | none => proofTo js ovens js.length | some i => [i]
def boundN (js : List (Int × Int)) (ovens : Int) : Int := if jobsErr js ovens = 0 then max (topTo js ovens js.length).1 0 else 0
def boundL (js : List (Int × Int)) (ovens : Int) : List Nat := if jobsErr js ovens = 0 then shownBy js ovens (topTo js ovens js.length).2 else []

theorem timeFrom_range {js : List (Int × Int)} {ovens : Int} (h : GoodJobs js ovens) {r : Int} (h0 : 0 ≤ r) (h1 : r ≤ 1000000) : 0 ≤ timeFrom js ovens r ∧ timeFrom js ovens r ≤ 100000000 := by
  have hs := sumFrom_range h r js.length (Nat.le_refl _)
  have := h.len
  have := h.o1
  have := h.o8
  have hq0 := Int.ediv_nonneg (show 0 ≤ sumFrom js r js.length + ovens - 1 by omega) (show 0 ≤ ovens by omega)
  have hq1 := Int.ediv_le_self ovens (show 0 ≤ sumFrom js r js.length + ovens - 1 by omega)
  unfold timeFrom
  omega
theorem bestTo_range {js : List (Int × Int)} {ovens : Int} (h : GoodJobs js ovens) (k : Nat) (hk : k ≤ js.length) : -1 ≤ (bestTo js ovens k).1 ∧ (bestTo js ovens k).1 ≤ 100000000 ∧ 0 ≤ (bestTo js ovens k).2 ∧ (bestTo js ovens k).2 ≤ 1000000 := by
  induction k with
  | zero => simp [bestTo]
  | succ k ih =>
    have := ih (by omega)
    have hj := h.job k (by omega)
    have := timeFrom_range h hj.1 hj.2.1
    unfold bestTo
    split
    · dsimp only; omega
    · exact ih (by omega)
theorem topTo_range {js : List (Int × Int)} {ovens : Int} (h : GoodJobs js ovens) (k : Nat) (hk : k ≤ js.length) : -1 ≤ (topTo js ovens k).1 ∧ (topTo js ovens k).1 ≤ 100000000 := by
  induction k with
  | zero => have := bestTo_range h js.length (Nat.le_refl _); exact ⟨this.1, this.2.1⟩
  | succ k ih =>
    have := ih (by omega)
    have hj := h.job k (by omega)
    unfold topTo
    split
    · dsimp only; omega
    · exact ih (by omega)

/-- What Bound hands back. -/
def RetBound (n : Int) (l : List Nat) (err : Int) (w : World) (e : Ending) (w' : World) : Prop :=
  ∃ v, e = .returned (.tuple #[.int .i64 n, v, .int .i64 err]) ∧ IsRow .i64 w' v l ∧ Below w.heap.size w w'

end Go.Proofs.Ytmfochplnchgcaa

/- TABLES MADE BY THE LAW: the walk of law06.table: two lists, appended to side by side. -/
namespace Go.Proofs.Ytmfochplnchgcaa
open Go.RowKit

theorem IsRat.grown {w w' : World} {v : Value} {q : Rat} {row : Option Nat} (h : IsRat w v q) (hg : w.grownBy w' row) (hr : ∀ g, row = some g → NoDig w g) : IsRat w' v q := by
  obtain ⟨vn, vd, rfl, h1, h2⟩ := h
  exact ⟨vn, vd, rfl, IsRow.grown (.inl rfl) h1 hg hr, IsRow.grown (.inl rfl) h2 hg hr⟩
theorem IsR.grown {w w' : World} {v : Value} {q : Rat} {row : Option Nat} (h : IsR w v q) (hg : w.grownBy w' row) (hr : ∀ g, row = some g → NoDig w g) : IsR w' v q := by
  obtain ⟨vn, vd, d', rfl, h1, h2, h3⟩ := h
  exact ⟨vn, vd, d', rfl, IsRow.grown (.inr rfl) h1 hg hr, IsRow.grown (.inr rfl) h2 hg hr, h3⟩

/-- The values xs, four by four, read as the table es. -/
def TabRow (R : World → Value → Rat → Prop) (w : World) (xs : List Value) (es : List (Rat × Int)) : Prop :=
  xs.length = es.length * 4 ∧ ∀ j, j < es.length → ∃ v0 vn vd, xs[j * 4]? = some v0 ∧ xs[j * 4 + 1]? = some vn ∧ xs[j * 4 + 2]? = some vd ∧ xs[j * 4 + 3]? = some (.int .i64 (es.getD j (0, 0)).2) ∧ R w (.agg #[v0, vn, vd]) (es.getD j (0, 0)).1
theorem TabRow.mono {R : World → Value → Rat → Prop} {w w' : World} {xs : List Value} {es : List (Rat × Int)} (h : TabRow R w xs es) (hr : ∀ v q, R w v q → R w' v q) : TabRow R w' xs es :=
  ⟨h.1, fun j hj => by obtain ⟨v0, vn, vd, h0, h1, h2, h3, h4⟩ := h.2 j hj; exact ⟨v0, vn, vd, h0, h1, h2, h3, hr _ _ h4⟩⟩
theorem TabRow.nil (R : World → Value → Rat → Prop) (w : World) : TabRow R w [] [] := ⟨rfl, fun j hj => absurd hj (by simp)⟩
theorem TabRow.snoc {R : World → Value → Rat → Prop} {w : World} {xs : List Value} {es : List (Rat × Int)} (h : TabRow R w xs es) {v0 vn vd : Value} {q : Rat} {r : Int} (hq : R w (.agg #[v0, vn, vd]) q) :
    TabRow R w (xs ++ [v0, vn, vd, .int .i64 r]) (es ++ [(q, r)]) := by
  obtain ⟨hl, h⟩ := h
  refine ⟨by simp [hl]; omega, fun j hj => ?_⟩
  rcases Nat.lt_or_ge j es.length with h1 | h1
  · obtain ⟨u0, un, ud, h0, h2, h3, h4, h5⟩ := h j h1
    have e : ∀ k, k < 4 → (xs ++ [v0, vn, vd, .int .i64 r])[j * 4 + k]? = xs[j * 4 + k]? := fun k hk => List.getElem?_append_left (by omega)
    have e2 : (es ++ [(q, r)]).getD j (0, 0) = es.getD j (0, 0) := by simp [List.getD, List.getElem?_append_left h1]
    rw [e2]
    exact ⟨u0, un, ud, by rw [← h0]; exact e 0 (by omega), by rw [← h2]; exact e 1 (by omega), by rw [← h3]; exact e 2 (by omega), by rw [← h4]; exact e 3 (by omega), h5⟩
  · obtain rfl : j = es.length := by simp at hj; omega
    have e : ∀ k, (xs ++ [v0, vn, vd, .int .i64 r])[es.length * 4 + k]? = ([v0, vn, vd, .int .i64 r] : List Value)[k]? := fun k => by rw [List.getElem?_append_right (by omega), hl]; congr 1; omega
    have e2 : (es ++ [(q, r)]).getD es.length (0, 0) = (q, r) := by simp [List.getD]
    rw [e2]
    exact ⟨v0, vn, vd, e 0, e 1, e 2, e 3, hq⟩
/-- A row that the call owns reads as a table. -/
theorem EntsOf.ofRow {R : World → Value → Rat → Prop} {w : World} {base : Nat} {e : TypeId} {v : Value} {xs : List Value} {es : List (Rat × Int)} (h : LRow w base e 4 v es.length xs) (ht : TabRow R w xs es) : EntsOf R w v es := by
  rcases Nat.eq_zero_or_pos es.length with h0 | hp
  · rcases h.1.2 with ⟨rfl, _⟩ | ⟨g, cap, cur, rfl, _⟩
    · exact ⟨none, 0, by rw [h0], fun h => absurd h (by omega)⟩
    · exact ⟨_, _, rfl, fun h => absurd h (by omega)⟩
  · obtain ⟨g, cap, rfl⟩ := ownsRow_some h.1 hp
    have hc : ∀ j u, xs[j]? = some u → w.cell? ((⟨g, 0, none⟩ : Addr).add j) = some u := h.1.cells (g := g) rfl
    have hlt : g < w.heap.size := (h.lt rfl).1
    refine ⟨_, _, rfl, fun _ => ⟨g, 0, rfl, hlt, fun i hi => ?_⟩⟩
    obtain ⟨v0, vn, vd, h0, h1, h2, h3, h4⟩ := ht.2 i hi
    have ea : ∀ j, (⟨g, 0, none⟩ : Addr).add j = ⟨g, 0 + j, none⟩ := fun j => by unfold Addr.add; split <;> simp_all
    refine ⟨v0, vn, vd, ?_, ?_, ?_, ?_, h4⟩
    · rw [← ea]; exact hc _ _ h0
    · rw [show 0 + i * 4 + 1 = 0 + (i * 4 + 1) by omega, ← ea]; exact hc _ _ h1
    · rw [show 0 + i * 4 + 2 = 0 + (i * 4 + 2) by omega, ← ea]; exact hc _ _ h2
    · rw [show 0 + i * 4 + 3 = 0 + (i * 4 + 3) by omega, ← ea]; exact hc _ _ h3

/-- Two rows that the call owns, of two types: they are two blocks. -/
theorem LRow.apart {w : World} {base : Nat} {eA eB : TypeId} {sA sB : Nat} {va vb : Value} {n m : Nat} {xs ys : List Value} (h : LRow w base eA sA va n xs) (k : LRow w base eB sB vb m ys) (hne : eA ≠ eB) : ∀ g, vb.ownBlock = some g → some g ≠ va.ownBlock := by
  intro g hg e
  rcases h.1.2 with ⟨rfl, _⟩ | ⟨g1, c1, cur1, rfl, _, hh1, _⟩
  · simp [Value.ownBlock] at e
  · rcases k.1.2 with ⟨rfl, _⟩ | ⟨g2, c2, cur2, rfl, _, hh2, _⟩
    · simp [Value.ownBlock] at hg
    · simp [Value.ownBlock] at e hg
      subst e hg
      rw [hh1] at hh2
      simp at hh2
      exact hne hh2.2

theorem cell_new4 (w : World) (a b c d : Value) (t : TypeId) : ∀ j u, [a, b, c, d][j]? = some u → (w.alloc (.cells #[a, b, c, d] t)).cell? ((⟨w.heap.size, 0, none⟩ : Addr).add j) = some u := by
  intro j u hj
  match j, hj with
  | 0, hj => simp at hj; subst hj; simp [Addr.add]
  | 1, hj => simp at hj; subst hj; simp [Addr.add]
  | 2, hj => simp at hj; subst hj; simp [Addr.add]
  | 3, hj => simp at hj; subst hj; simp [Addr.add]
  | j + 4, hj => simp at hj

/-- Three cells read as the law's entry. -/
def LawAt (w : World) (b o : Nat) (t : Int × Int × Int) : Prop := w.cell? ⟨b, o, none⟩ = some (.int .i64 t.1) ∧ w.cell? ⟨b, o + 1, none⟩ = some (.int .i64 t.2.1) ∧ w.cell? ⟨b, o + 2, none⟩ = some (.int .i64 t.2.2)
def LawsOf (w : World) (v : Value) (ts : List (Int × Int × Int)) : Prop :=
  ∃ ao cap, v = .slice ao ts.length cap ∧ (0 < ts.length → ∃ b off, ao = some ⟨b, off, none⟩ ∧ b < w.heap.size ∧ ∀ i, i < ts.length → LawAt w b (off + i * 3) (ts.getD i (0, 0, 0)))
theorem LawAt.below {w w' : World} {b o : Nat} {r : Int × Int × Int} (h : LawAt w b o r) (hb : Below w.heap.size w w') (hl : b < w.heap.size) : LawAt w' b o r :=
  ⟨(hb.cell (p := ⟨b, o, none⟩) hl).trans h.1, (hb.cell (p := ⟨b, o + 1, none⟩) hl).trans h.2.1, (hb.cell (p := ⟨b, o + 2, none⟩) hl).trans h.2.2⟩
theorem LawsOf.below {w w' : World} {v : Value} {ps : List (Int × Int × Int)} (h : LawsOf w v ps) (hb : Below w.heap.size w w') : LawsOf w' v ps := by
  obtain ⟨ao, cap, rfl, h⟩ := h
  refine ⟨ao, cap, rfl, fun hl => ?_⟩
  obtain ⟨b, off, rfl, hlt, h⟩ := h hl
  exact ⟨b, off, rfl, Nat.lt_of_lt_of_le hlt hb.size, fun i hi => (h i hi).below hb hlt⟩
def i64R (n : Int) : Prop := -9223372036854775808 ≤ n ∧ n ≤ 9223372036854775807
def lawsE (ts : List (Int × Int × Int)) : List (Rat × Int) := ts.map fun t => (fracQ t.1 t.2.1, t.2.2)
theorem lawsE_take (ts : List (Int × Int × Int)) (i : Nat) (hi : i < ts.length) : lawsE (ts.take (i + 1)) = lawsE (ts.take i) ++ [(fracQ (ts.getD i (0, 0, 0)).1 (ts.getD i (0, 0, 0)).2.1, (ts.getD i (0, 0, 0)).2.2)] := by
  unfold lawsE
  rw [List.take_add_one, List.map_append]
  simp [hi]
theorem lawsE_length (ts : List (Int × Int × Int)) (i : Nat) (hi : i ≤ ts.length) : (lawsE (ts.take i)).length = i := by simp [lawsE]; omega

/-- What table hands back. -/
def RetTab (ts : List (Int × Int × Int)) (w : World) (e : Ending) (w' : World) : Prop :=
  ∃ va vb, e = .returned (.tuple #[va, vb, .bool true]) ∧ EntsOf IsRat w' va (lawsE ts) ∧ EntsOf IsR w' vb (lawsE ts) ∧ Below w.heap.size w w'
def RetNoTab (w : World) (e : Ending) (w' : World) : Prop := e = .returned (.tuple #[.slice none 0 0, .slice none 0 0, .bool false]) ∧ Below w.heap.size w w'

end Go.Proofs.Ytmfochplnchgcaa

/- THE WALKS of a run's small functions. -/
namespace Go.Proofs.Ytmfochplnchgcaa
open Go.RowKit

abbrev rnV (x : Rn) : Value := .agg #[.int .i64 x.ph, .int .i64 x.be, .int .i64 x.mi, .int .i64 x.wa, .bool x.l0, .bool x.l1, .bool x.l2, .bool x.te]
abbrev ruV (r : Ru) : Value := .agg #[.int .i64 r.m0, .int .i64 r.m1, .int .i64 r.m2, .int .i64 r.pa, .int .i64 r.t00, .int .i64 r.t01, .int .i64 r.t02, .int .i64 r.t10, .int .i64 r.t11, .int .i64 r.t12, .int .i64 r.t20, .int .i64 r.t21, .int .i64 r.t22]
def RetRn (y : Rn) (w : World) (e : Ending) (w' : World) : Prop := e = .returned (rnV y) ∧ Below w.heap.size w w'

theorem below1 (w : World) (o : Obj) : Below w.heap.size w (w.alloc o) := (Below.refl w.heap.size w).alloc (Nat.le_refl _) o
theorem ba {W a : World} {o : Obj} (h : Below W.heap.size W a) : Below W.heap.size W (a.alloc o) := h.alloc h.size _
theorem below2 (w : World) (o o' : Obj) : Below w.heap.size w ((w.alloc o).alloc o') := ((Below.refl w.heap.size w).alloc (Nat.le_refl _) o).alloc (below1 w o).size o'
abbrev rnA (x : Rn) : Array Value := #[.int .i64 x.ph, .int .i64 x.be, .int .i64 x.mi, .int .i64 x.wa, .bool x.l0, .bool x.l1, .bool x.l2, .bool x.te]
abbrev ruA (r : Ru) : Array Value := #[.int .i64 r.m0, .int .i64 r.m1, .int .i64 r.m2, .int .i64 r.pa, .int .i64 r.t00, .int .i64 r.t01, .int .i64 r.t02, .int .i64 r.t10, .int .i64 r.t11, .int .i64 r.t12, .int .i64 r.t20, .int .i64 r.t21, .int .i64 r.t22]
def RetRnW (y : Rn) (W : World) (e : Ending) (w' : World) : Prop := e = .returned (rnV y) ∧ w' = W
def RetBW (b : Bool) (W : World) (e : Ending) (w' : World) : Prop := e = .returned (.bool b) ∧ w' = W
abbrev rnO (x : Rn) : Obj := .cells (rnA x) 30
abbrev ruO (r : Ru) : Obj := .cells (ruA r) 25
theorem in_any (x lo hi : Int) (w : World) : Calls Try.prog 30 #[.int .i64 x, .int .i64 lo, .int .i64 hi] w (RetBoolS (inR x lo hi) w) := by
  by_cases h1 : lo ≤ x
  · have t1 : decide (x ≥ lo) = true := decide_eq_true h1
    have e : inR x lo hi = decide (x ≤ hi) := by unfold inR; rw [decide_eq_true h1]; rfl
    rw [e]
    clear h1 e
    go_enter Try.func30, Try.ntmps30
    go_wp2_with fail
    go_ret
    exact ⟨rfl, rfl⟩
  · have t1 : decide (x ≥ lo) = false := decide_eq_false h1
    have e : inR x lo hi = false := by unfold inR; rw [decide_eq_false h1]; rfl
    rw [e]
    clear h1 e
    go_enter Try.func30, Try.ntmps30
    go_wp2_with fail
    go_ret
    exact ⟨rfl, rfl⟩

theorem goes_any (x : Rn) (w : World) : Calls Try.prog 59 #[rnV x] w (RetBW (goes x.ph) (w.alloc (rnO x))) := by
  go_enter Try.func59, Try.ntmps59
  go_wp2_with fail
  refine (in_any _ _ _ _).mono ?_
  rintro e w' ⟨rfl, rfl⟩
  go_wp2_with fail
  go_ret
  exact ⟨rfl, rfl⟩

theorem ended_any (x : Rn) (p : Int) (w : World) : Calls Try.prog 80 #[rnV x, .int .i64 p] w (RetRnW (ended x p) ((w.alloc (rnO (ended x p))).alloc (rnO (ended x p)))) := by
  go_enter Try.func80, Try.ntmps80
  go_wp2_with fail
  refine bodyPost_ret (v := rnV (ended x p)) (by simp [results, Try.results80, go_sem, ended]) rfl ?_
  exact ⟨rfl, rfl⟩

theorem ans0_any (x : Rn) (w : World) : Calls Try.prog 93 #[rnV x] w (RetRnW x ((w.alloc (rnO x)).alloc (rnO x))) := by
  go_enter Try.func93, Try.ntmps93
  go_wp2_with fail
  refine bodyPost_ret (v := rnV x) (by simp [results, Try.results93, go_sem]) rfl ?_
  exact ⟨rfl, rfl⟩
theorem ans1_any (x : Rn) (w : World) : Calls Try.prog 94 #[rnV x] w (RetRn { x with te := true } w) := by
  go_enter Try.func94, Try.ntmps94
  go_wp2_with fail
  refine bodyPost_ret (v := rnV { x with te := true }) (by simp [results, Try.results94, go_sem]) rfl ?_
  exact ⟨rfl, below2 _ _ _⟩
theorem ans3_any (x : Rn) (w : World) : Calls Try.prog 96 #[rnV x] w (RetRn (ended x 7) w) := by
  go_enter Try.func96, Try.ntmps96
  go_wp2_with fail
  refine (ended_any _ _ _).mono ?_
  rintro e w' ⟨rfl, rfl⟩
  go_wp2_with fail
  refine bodyPost_ret (v := rnV (ended x 7)) (by simp [results, Try.results96, go_sem]) rfl ?_
  refine ⟨rfl, ?_⟩
  exact ba (ba (below2 _ _ _))
theorem ans2_any (x : Rn) (w : World) : Calls Try.prog 95 #[rnV x] w (RetRn (if goes x.ph then { x with be := x.ph, ph := 4 } else x) w) := by
  cases hg : goes x.ph with
  | true =>
    go_enter Try.func95, Try.ntmps95
    go_wp2_with fail
    refine (goes_any _ _).mono ?_
    rintro e w' ⟨rfl, rfl⟩
    rw [hg]
    go_wp2_with fail
    refine bodyPost_ret (v := rnV { x with be := x.ph, ph := 4 }) (by simp [results, Try.results95, go_sem]) rfl ?_
    refine ⟨by simp, ?_⟩
    exact ba (below2 _ _ _)
  | false =>
    go_enter Try.func95, Try.ntmps95
    go_wp2_with fail
    refine (goes_any _ _).mono ?_
    rintro e w' ⟨rfl, rfl⟩
    rw [hg]
    go_wp2_with fail
    refine bodyPost_ret (v := rnV x) (by simp [results, Try.results95, go_sem]) rfl ?_
    refine ⟨by simp, ?_⟩
    exact ba (below2 _ _ _)
/-- The map of answers: under 0 to 3 the four functions. -/
def ansElem (v : Value) : Option (DataW Unit × List MemPlace) :=
  match v with
  | .func (.func n) a b => if a.size = 0 ∧ b.size = 0 then some (.lit (.int .i64 n), []) else none
  | .nilFunc => some (.lit (.int .i64 (-1)), [])
  | _ => none
theorem ansElem_inv {v : Value} {n : Nat} {ps : List MemPlace} (h : ansElem v = some (.lit (.int .i64 n), ps)) : v = .func (.func n) #[] #[] := by
  unfold ansElem at h
  split at h
  · rename_i m a b
    split at h
    · rename_i hs
      simp only [Option.some.injEq, Prod.mk.injEq, DataW.lit.injEq, Lit.int.injEq] at h
      have hm : m = n := Int.ofNat.inj h.1.2
      rw [Array.eq_empty_of_size_eq_zero hs.1, Array.eq_empty_of_size_eq_zero hs.2, hm]
    · cases h
  · simp only [Option.some.injEq, Prod.mk.injEq, DataW.lit.injEq, Lit.int.injEq] at h
    omega
  · cases h
theorem wpList_insert_own {H : Type} {P : Program} (w : World) {ops : Array Oper} {rest : List Oper} {o : Oper} {a : Act} {Q : Exit → Act → World → Prop}
    (hg : o.guard = none) (m x v : Operand) (t : TypeId) (hop : o.op = Op.insert t m x v)
    (k e : TypeId) (K : Go.Maps.Keyed P k) (ht : P.underlying t = some (.map k e)) (R : Value → Option (DataW H × List MemPlace)) (b n : Nat) (D : DataW H)
    (hm : a.eval m = .map (some b)) (hown : w.ownsMap P k R b n D) (hn : n < maxLen) (key val : Value) (kl : Lit) (hx : a.eval x = key) (hv : a.eval v = val) (hkey : keyOf P k key = some kl)
    (d : DataW H) (ps : List MemPlace) (hval : R val = some (d, ps))
    (hK : ∀ w', w'.ownsMap P k R b (n + 1) (D.put kl d) → w.grownBy w' (some b) → wpList P ops Q rest (a.put o.dst undef) w') :
    wpList P ops Q (o :: rest) a w := by
  refine wpList_plain hg fun K' hK' => ?_
  obtain ⟨w', hrun, r1, r2⟩ := hown.update K ht hn hkey hval
  unfold Oper.wp
  simp [execOp, hop, hm, hx, hv, hrun, Result.andThen]
  exact hK' _ _ (hK w' r1 r2)
def ansD : DataW Unit := .map [(.int .i64 0, .lit (.int .i64 (93 : Nat))), (.int .i64 1, .lit (.int .i64 (94 : Nat))), (.int .i64 2, .lit (.int .i64 (95 : Nat))), (.int .i64 3, .lit (.int .i64 (96 : Nat)))]
/-- Block M is the map of answers. -/
def AnsMap (w : World) (M : Nat) : Prop := w.ownsMap Try.prog 3 ansElem M 4 ansD
def RetAns (w : World) (e : Ending) (w' : World) : Prop := ∃ M, e = .returned (.map (some M)) ∧ AnsMap w' M ∧ Below w.heap.size w w'
theorem keyA (n : Int) (h1 : -9223372036854775808 ≤ n) (h2 : n ≤ 9223372036854775807) : keyOf Try.prog 3 (.int .i64 n) = some (.int .i64 n) := by
  refine Maps.keyOf_int_mk Try.underlying3 ?_
  have hmin : IntKind.i64.min = -9223372036854775808 := by decide
  have hmax : IntKind.i64.max = 9223372036854775807 := by decide
  simp only [Lit.wf, hmin, hmax, Bool.and_eq_true, decide_eq_true_eq]
  omega
set_option maxRecDepth 100000 in
set_option maxHeartbeats 1000000 in
theorem answers_any (w : World) : Calls Try.prog 81 #[] w (RetAns w) := by
  have hmk := fun w => run_makeMap (P := Try.prog) 116 w
  have K := Maps.int_keyed (P := Try.prog) Try.underlying3
  have ht := Try.underlying116
  have o0 := World.ownsMap_made w Try.prog 3 ansElem
  obtain ⟨w1, r1, o1, g1⟩ := o0.update K ht (by decide) (keyA 0 (by omega) (by omega)) (val := .func (.func 93) #[] #[]) rfl
  obtain ⟨w2, r2, o2, g2⟩ := o1.update K ht (by decide) (keyA 1 (by omega) (by omega)) (val := .func (.func 94) #[] #[]) rfl
  obtain ⟨w3, r3, o3, g3⟩ := o2.update K ht (by decide) (keyA 2 (by omega) (by omega)) (val := .func (.func 95) #[] #[]) rfl
  obtain ⟨w4, r4, o4, g4⟩ := o3.update K ht (by decide) (keyA 3 (by omega) (by omega)) (val := .func (.func 96) #[] #[]) rfl
  have hne : some w.heap.size ≠ some w.heap.size → False := fun h => h rfl
  have hb : Below w.heap.size w w4 := by
    have b1 := (below1 w (.map #[] 0)).grown g1 (below1 w (.map #[] 0)).size (by simp)
    have b2 := b1.grown g2 b1.size (by simp)
    have b3 := b2.grown g3 b2.size (by simp)
    exact b3.grown g4 b3.size (by simp)
  have O : Hid (AnsMap w4 w.heap.size) := o4
  clear K o0 o1 o2 o3 o4 g1 g2 g3 g4 ht
  go_enter Try.func81, Try.ntmps81
  go_wp2_with fail
  go_ret
  exact ⟨_, rfl, O.out, hb⟩
/-- What answer v makes of a run. -/
def ansR (v : Int) (x : Rn) : Rn := if v = 3 then ended x 7 else if v = 1 then { x with te := true } else if v = 2 then (if goes x.ph then { x with be := x.ph, ph := 4 } else x) else x
def ansF (v : Int) : Nat := if v = 3 then 96 else if v = 1 then 94 else if v = 2 then 95 else 93
theorem ans_any (v : Int) (hv : 0 ≤ v ∧ v ≤ 3) (x : Rn) (w : World) : Calls Try.prog (ansF v) #[rnV x] w (RetRn (ansR v x) w) := by
  rcases (show v = 0 ∨ v = 1 ∨ v = 2 ∨ v = 3 by omega) with rfl | rfl | rfl | rfl
  · refine (ans0_any x w).mono fun e w' ⟨h1, h2⟩ => ⟨h1, ?_⟩
    rw [h2]
    exact below2 _ _ _
  · exact ans1_any x w
  · exact ans2_any x w
  · exact ans3_any x w
theorem ans_look {w : World} {M : Nat} (h : AnsMap w M) (v : Int) (hv : 0 ≤ v ∧ v ≤ 3) : (Instr.lookup 116 (.map (some M)) (.int .i64 v) false).run Try.prog w = .ok (.func (.func (ansF v)) #[] #[]) w := by
  have hz : (zeroValue 115).run Try.prog w = .ok .nilFunc w := by kernel_rfl
  obtain ⟨u, ps, h1, h2⟩ := World.ownsMap.lookup h (Maps.int_keyed Try.underlying3) Try.underlying116 hz (zd := .lit (.int .i64 (-1))) (zp := []) rfl (keyA v (by omega) (by omega))
  rw [h1]
  have h3 : ansD.atKey (.int .i64 v) (.lit (.int .i64 (-1))) = .lit (.int .i64 (ansF v : Nat)) := by
    rcases (show v = 0 ∨ v = 1 ∨ v = 2 ∨ v = 3 by omega) with rfl | rfl | rfl | rfl <;> rfl
  rw [h3] at h2
  rw [ansElem_inv h2]
end Go.Proofs.Ytmfochplnchgcaa
