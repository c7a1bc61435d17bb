/- Part d of the lemmas and walks. -/
import Derived.Test.YtanmcbbnnjamoaaBc

namespace Go.Proofs.Ytanmcbbnnjamoaa
open Go.RowKit

/-! ### Spans as runs of readings -/
def addRun (l : List (Nat × Nat)) (i : Nat) : List (Nat × Nat) :=
 if 0 < l.length ∧ (l.getD (l.length - 1) (0, 0)).2 = i - 1 then l.set (l.length - 1) ((l.getD (l.length - 1) (0, 0)).1, i) else l ++ [(i - 1, i)]
def runsTo (J : Nat → Bool) : Nat → List (Nat × Nat)
 | 0 => []
 | i + 1 => if i = 0 then [] else if J i = true then addRun (runsTo J i) i else runsTo J i
structure Runs (J : Nat → Bool) (n : Nat) (l : List (Nat × Nat)) : Prop where
 run : ∀ k, k < l.length → (l.getD k (0, 0)).1 < (l.getD k (0, 0)).2 ∧ (l.getD k (0, 0)).2 < n ∧ ∀ m, (l.getD k (0, 0)).1 < m → m ≤ (l.getD k (0, 0)).2 → J m = true
 asc : ∀ k, k + 1 < l.length → (l.getD k (0, 0)).2 < (l.getD (k + 1) (0, 0)).1
 all : ∀ m, 0 < m → m < n → J m = true → ∃ k, k < l.length ∧ (l.getD k (0, 0)).1 < m ∧ m ≤ (l.getD k (0, 0)).2
 last : ∀ k, k < l.length → (l.getD k (0, 0)).2 ≤ (l.getD (l.length - 1) (0, 0)).2
theorem getD_set2 (l : List (Nat × Nat)) (b : Nat) (x : Nat × Nat) (k : Nat) : (l.set b x).getD k (0, 0) = if k = b ∧ b < l.length then x else l.getD k (0, 0) := by
 simp only [List.getD, List.getElem?_set]
 by_cases h : b = k
 ·
  subst h
  by_cases h2 : b < l.length
  ·
   simp [h2]
  ·
   simp [h2]
 ·
  have h2 : ¬ k = b := fun e => h e.symm
  simp [h, h2]
theorem getD_app2 (l : List (Nat × Nat)) (x : Nat × Nat) (k : Nat) : (l ++ [x]).getD k (0, 0) = if k < l.length then l.getD k (0, 0) else if k = l.length then x else (0, 0) := by
 simp only [List.getD, List.getElem?_append]
 split
 ·
  rfl
 ·
  by_cases h : k = l.length
  ·
   simp [h]
  ·
   rw [if_neg h]
   obtain ⟨m, hm⟩ : ∃ m, k - l.length = m + 1 := ⟨k - l.length - 1, by omega⟩
   rw [hm]
   rfl
theorem runs_of (J : Nat → Bool) (n : Nat) : Runs J n (runsTo J n) := by
 induction n with
 | zero => exact ⟨fun k hk => by simp [runsTo] at hk, fun k hk => by simp [runsTo] at hk, fun m h0 h1 => by omega, fun k hk => by simp [runsTo] at hk⟩
 | succ n ih =>
  unfold runsTo
  split
  ·
   rename_i h0
   exact ⟨fun k hk => by simp at hk, fun k hk => by simp at hk, fun m h1 h2 => by omega, fun k hk => by simp at hk⟩
  ·
   rename_i h0
   split
   ·
    rename_i hJ
    unfold addRun
    split
    ·
     rename_i hc
     obtain ⟨hl, he⟩ := hc
     generalize runsTo J n = l at *
     have hr := ih.run (l.length - 1) (by omega)
     rw [he] at hr
     refine ⟨fun k hk => ?_, fun k hk => ?_, fun m h1 h2 h3 => ?_, fun k hk => ?_⟩
     ·
      rw [List.length_set] at hk
      rw [getD_set2]
      split
      ·
       refine ⟨by dsimp only; omega, by dsimp only; omega, fun m h1 h2 => ?_⟩
       dsimp only at h1 h2
       rcases Nat.lt_or_ge m n with h | h
       ·
        exact hr.2.2 m h1 (by omega)
       ·
        obtain rfl : m = n := by omega
        exact hJ
      ·
       have := ih.run k hk
       exact ⟨this.1, by omega, this.2.2⟩
     ·
      rw [List.length_set] at hk
      rw [getD_set2, getD_set2, if_neg (by omega)]
      have := ih.asc k hk
      split
      ·
       rename_i h
       rw [← h.1]
       exact this
      ·
       exact this
     ·
      simp only [List.length_set]
      rcases Nat.lt_or_ge m n with h | h
      ·
       obtain ⟨k, hk, h4, h5⟩ := ih.all m h1 h h3
       refine ⟨k, hk, ?_⟩
       rw [getD_set2]
       split
       ·
        rename_i h6
        rw [h6.1] at h4 h5
        dsimp only
        omega
       ·
        exact ⟨h4, h5⟩
      ·
       obtain rfl : m = n := by omega
       refine ⟨l.length - 1, by omega, ?_⟩
       rw [getD_set2, if_pos ⟨rfl, by omega⟩]
       dsimp only
       omega
     ·
      simp only [List.length_set] at hk ⊢
      rw [getD_set2, getD_set2, if_pos (show l.length - 1 = l.length - 1 ∧ l.length - 1 < l.length by omega)]
      have := ih.last k hk
      split
      ·
       exact Nat.le_refl _
      ·
       dsimp only; omega
    ·
     rename_i hc
     generalize runsTo J n = l at *
     refine ⟨fun k hk => ?_, fun k hk => ?_, fun m h1 h2 h3 => ?_, fun k hk => ?_⟩
     ·
      simp at hk
      rw [getD_app2]
      split
      ·
       rename_i h
       have := ih.run k h
       exact ⟨this.1, by omega, this.2.2⟩
      ·
       rw [if_pos (by omega)]
       refine ⟨by dsimp only; omega, by dsimp only; omega, fun m h1 h2 => ?_⟩
       dsimp only at h1 h2
       obtain rfl : m = n := by omega
       exact hJ
     ·
      simp at hk
      rw [getD_app2, getD_app2, if_pos (by omega)]
      split
      ·
       rename_i h
       exact ih.asc k h
      ·
       rename_i h
       rw [if_pos (by omega)]
       have h4 := ih.run (l.length - 1) (by omega)
       have h5 : (l.getD (l.length - 1) (0, 0)).2 ≠ n - 1 := fun e => hc ⟨by omega, e⟩
       rw [show k = l.length - 1 by omega]
       dsimp only
       omega
     ·
      simp only [List.length_append, List.length_cons, List.length_nil]
      rcases Nat.lt_or_ge m n with h | h
      ·
       obtain ⟨k, hk, h4⟩ := ih.all m h1 h h3
       refine ⟨k, by omega, ?_⟩
       rw [getD_app2, if_pos hk]
       exact h4
      ·
       obtain rfl : m = n := by omega
       refine ⟨l.length, by omega, ?_⟩
       rw [getD_app2, if_neg (by omega), if_pos rfl]
       dsimp only
       omega
     ·
      simp only [List.length_append, List.length_cons, List.length_nil] at hk ⊢
      rw [getD_app2, getD_app2, if_neg (show ¬ l.length + (0 + 1) - 1 < l.length by omega), if_pos (show l.length + (0 + 1) - 1 = l.length by omega)]
      split
      ·
       rename_i h
       have := ih.run k h
       dsimp only
       omega
      ·
       rw [if_pos (by omega)]
       exact Nat.le_refl _
   ·
    rename_i hJ
    refine ⟨fun k hk => ?_, ih.asc, fun m h1 h2 h3 => ?_, ih.last⟩
    ·
     have := ih.run k hk
     exact ⟨this.1, by omega, this.2.2⟩
    ·
     rcases Nat.lt_or_ge m n with h | h
     ·
      exact ih.all m h1 h h3
     ·
      obtain rfl : m = n := by omega
      exact absurd h3 hJ
theorem runs_asc {J : Nat → Bool} {n : Nat} {l : List (Nat × Nat)} (h : Runs J n l) (i j : Nat) (hij : i < j) (hj : j < l.length) : (l.getD i (0, 0)).2 < (l.getD j (0, 0)).1 := by
 induction j with
 | zero => omega
 | succ j ih =>
  rcases Nat.lt_or_ge i j with h1 | h1
  ·
   have := ih h1 (by omega)
   have := h.asc j hj
   have := h.run j (by omega)
   omega
  ·
   obtain rfl : i = j := by omega
   exact h.asc i hj
theorem runs_in {J K : Nat → Bool} {n : Nat} {l m : List (Nat × Nat)} (h : Runs J n l) (k : Runs K n m) (hJK : ∀ i, J i = true → K i = true) (a : Nat) (ha : a < l.length) :
  ∃ b, b < m.length ∧ (m.getD b (0, 0)).1 ≤ (l.getD a (0, 0)).1 ∧ (l.getD a (0, 0)).2 ≤ (m.getD b (0, 0)).2 := by
 obtain ⟨h1, h2, h3⟩ := h.run a ha
 obtain ⟨b, hb, hb1, hb2⟩ := k.all ((l.getD a (0, 0)).1 + 1) (by omega) (by omega) (hJK _ (h3 _ (by omega) (by omega)))
 refine ⟨b, hb, by omega, ?_⟩
 have key : ∀ d, (l.getD a (0, 0)).1 + 1 + d ≤ (l.getD a (0, 0)).2 → (l.getD a (0, 0)).1 + 1 + d ≤ (m.getD b (0, 0)).2 := by
  intro d
  induction d with
  | zero => intro _; exact hb2
  | succ d ih =>
   intro hd
   have h4 := ih (by omega)
   rcases Nat.lt_or_ge ((l.getD a (0, 0)).1 + 1 + d) (m.getD b (0, 0)).2 with h5 | h5
   ·
    omega
   ·
    exfalso
    obtain ⟨c, hc, hc1, hc2⟩ := k.all ((l.getD a (0, 0)).1 + 1 + (d + 1)) (by omega) (by omega) (hJK _ (h3 _ (by omega) (by omega)))
    rcases Nat.lt_trichotomy b c with h6 | h6 | h6
    ·
     have := runs_asc k b c h6 hc
     have := k.run b hb
     omega
    ·
     subst h6; omega
    ·
     have := runs_asc k c b h6 hb
     have := k.run b hb
     omega
 have := key ((l.getD a (0, 0)).2 - ((l.getD a (0, 0)).1 + 1)) (by omega)
 omega

/-! ### The times of the readings -/
def tOf (xs : List (Int × Int × Nat)) (i : Nat) : Int := (xs.getD i (0, 0, 0)).1
def AscT (xs : List (Int × Int × Nat)) : Prop := ∀ i j, i < j → j < xs.length → tOf xs i < tOf xs j
def spanOf (xs : List (Int × Int × Nat)) (r : Nat × Nat) : Int × Int := (tOf xs r.1, tOf xs r.2)
theorem workTo_runs (xs : List (Int × Int × Nat)) (dust gap : Int) (x y : Rat) (ha : AscT xs) (n : Nat) (hn : n ≤ xs.length) :
  workTo xs dust gap x y n = (runsTo (joinB xs dust gap x y) n).map (spanOf xs) := by
 induction n with
 | zero => rfl
 | succ n ih =>
  have h1 := ih (by omega)
  have hr := runs_of (joinB xs dust gap x y) n
  unfold workTo runsTo
  split
  ·
   rfl
  ·
   rename_i h0
   split
   ·
    rw [h1]
    generalize runsTo (joinB xs dust gap x y) n = l at *
    unfold addSpan addRun
    have hg : ∀ k, k < l.length → (l.map (spanOf xs)).getD k (0, 0) = spanOf xs (l.getD k (0, 0)) := fun k hk => by simp [List.getD, hk]
    rw [List.length_map]
    by_cases hl : 0 < l.length
    ·
     rw [hg _ (by omega)]
     have h2 := hr.run (l.length - 1) (by omega)
     have hiff : (spanOf xs (l.getD (l.length - 1) (0, 0))).2 = (xs.getD (n - 1) (0, 0, 0)).1 ↔ (l.getD (l.length - 1) (0, 0)).2 = n - 1 := by
      show tOf xs (l.getD (l.length - 1) (0, 0)).2 = tOf xs (n - 1) ↔ _
      constructor
      ·
       intro e
       rcases Nat.lt_trichotomy (l.getD (l.length - 1) (0, 0)).2 (n - 1) with h3 | h3 | h3
       ·
        have := ha _ _ h3 (by omega); omega
       ·
        exact h3
       ·
        omega
      ·
       intro e; rw [e]
     by_cases he : (l.getD (l.length - 1) (0, 0)).2 = n - 1
     ·
      rw [if_pos ⟨hl, hiff.2 he⟩, if_pos ⟨hl, he⟩, List.map_set]
      rfl
     ·
      rw [if_neg (fun h => he (hiff.1 h.2)), if_neg (fun h => he h.2), List.map_append]
      rfl
    ·
     rw [if_neg (fun h => hl h.1), if_neg (fun h => hl h.1), List.map_append]
     rfl
   ·
    exact h1
structure SpanIs (xs : List (Int × Int × Nat)) (dust gap : Int) (x y : Rat) (s : Int × Int) (p q : Nat) : Prop where
 lt : p < q
 le : q < xs.length
 from_ : s.1 = tOf xs p
 to_ : s.2 = tOf xs q
 join : ∀ m, p < m → m ≤ q → joinB xs dust gap x y m = true
theorem SpanIs.inside {xs : List (Int × Int × Nat)} {dust gap : Int} {x y : Rat} {s : Int × Int} {p q : Nat} (h : SpanIs xs dust gap x y s p q) (ha : AscT xs) (i : Nat) (hi : i < xs.length) (h1 : s.1 ≤ tOf xs i) (h2 : tOf xs i ≤ s.2) : p ≤ i ∧ i ≤ q := by
 have hp := h.from_
 have hq := h.to_
 constructor
 ·
  rcases Nat.lt_or_ge i p with h3 | h3
  ·
   have := ha i p h3 (by have := h.le; have := h.lt; omega); omega
  ·
   exact h3
 ·
  rcases Nat.lt_or_ge q i with h3 | h3
  ·
   have := ha q i h3 hi; omega
  ·
   exact h3
theorem SpanIs.right {xs : List (Int × Int × Nat)} {dust gap : Int} {x y : Rat} {s : Int × Int} {p q : Nat} (h : SpanIs xs dust gap x y s p q) (i : Nat) (h1 : p ≤ i) (h2 : i ≤ q) : rightAt xs dust x y i = true := by
 rcases Nat.lt_or_ge p i with h3 | h3
 ·
  have := h.join i h3 h2
  unfold joinB at this
  simp only [Bool.and_eq_true] at this
  exact this.2.1
 ·
  obtain rfl : i = p := by omega
  have := h.join (i + 1) (by omega) h.lt
  unfold joinB at this
  simp only [Bool.and_eq_true] at this
  exact this.1
theorem SpanIs.near {xs : List (Int × Int × Nat)} {dust gap : Int} {x y : Rat} {s : Int × Int} {p q : Nat} (h : SpanIs xs dust gap x y s p q) (i : Nat) (h1 : p < i) (h2 : i ≤ q) : tOf xs i - tOf xs (i - 1) ≤ gap := by
 have := h.join i h1 h2
 unfold joinB at this
 simp only [Bool.and_eq_true, decide_eq_true_eq] at this
 exact this.2.2
def endsTo (xs : List (Int × Int × Nat)) (s : Int × Int) : Nat → Int
 | 0 => 0
 | k + 1 => if tOf xs k = s.1 ∨ tOf xs k = s.2 then endsTo xs s k + 1 else endsTo xs s k
theorem SpanIs.ends {xs : List (Int × Int × Nat)} {dust gap : Int} {x y : Rat} {s : Int × Int} {p q : Nat} (h : SpanIs xs dust gap x y s p q) (ha : AscT xs) (k : Nat) (hk : k ≤ xs.length) : endsTo xs s k = (if p < k then 1 else 0) + (if q < k then 1 else 0) := by
 have hlt := h.lt
 have hle := h.le
 have inj : ∀ i j, i < xs.length → j < xs.length → tOf xs i = tOf xs j → i = j := fun i j hi hj e => by
  rcases Nat.lt_trichotomy i j with h1 | h1 | h1
  ·
   have := ha i j h1 hj; omega
  ·
   exact h1
  ·
   have := ha j i h1 hi; omega
 induction k with
 | zero => rfl
 | succ k ih =>
  have h1 := ih (by omega)
  simp only [endsTo]
  rw [h1, h.from_, h.to_]
  by_cases e1 : k = p
  ·
   rw [if_pos (.inl (by rw [e1])), if_neg (by omega), if_neg (by omega), if_pos (by omega), if_neg (by omega)]; rfl
  ·
   by_cases e2 : k = q
   ·
    rw [if_pos (.inr (by rw [e2])), if_pos (by omega), if_neg (by omega), if_pos (by omega), if_pos (by omega)]; rfl
   ·
    rw [if_neg (fun h => by
     rcases h with h | h
     ·
      exact e1 (inj _ _ (by omega) (by omega) h)
     ·
      exact e2 (inj _ _ (by omega) (by omega) h))]
    congr 1
    ·
     by_cases h3 : p < k
     ·
      rw [if_pos h3, if_pos (by omega)]
     ·
      rw [if_neg h3, if_neg (by omega)]
    ·
     by_cases h3 : q < k
     ·
      rw [if_pos h3, if_pos (by omega)]
     ·
      rw [if_neg h3, if_neg (by omega)]
theorem work_span {xs : List (Int × Int × Nat)} {dust gap : Int} {x y : Rat} (ha : AscT xs) (k : Nat) (hk : k < (workTo xs dust gap x y xs.length).length) :
  ∃ p q, SpanIs xs dust gap x y ((workTo xs dust gap x y xs.length).getD k (0, 0)) p q ∧ (0 < k → ((workTo xs dust gap x y xs.length).getD (k - 1) (0, 0)).2 < tOf xs p) := by
 have hr := runs_of (joinB xs dust gap x y) xs.length
 have e := workTo_runs xs dust gap x y ha xs.length (Nat.le_refl _)
 rw [e] at hk ⊢
 generalize runsTo (joinB xs dust gap x y) xs.length = l at *
 rw [List.length_map] at hk
 have hg : ∀ k, k < l.length → (l.map (spanOf xs)).getD k (0, 0) = spanOf xs (l.getD k (0, 0)) := fun k hk => by simp [List.getD, hk]
 obtain ⟨h1, h2, h3⟩ := hr.run k hk
 rw [hg k hk]
 refine ⟨_, _, ⟨h1, h2, rfl, rfl, h3⟩, fun h0 => ?_⟩
 rw [hg (k - 1) (by omega)]
 have h4 := hr.asc (k - 1) (by omega)
 rw [show k - 1 + 1 = k by omega] at h4
 exact ha _ _ h4 (by omega)
theorem work_in {xs : List (Int × Int × Nat)} {d1 g1 d2 g2 : Int} {x1 y1 x2 y2 : Rat} (ha : AscT xs) (hJ : ∀ i, joinB xs d2 g2 x2 y2 i = true → joinB xs d1 g1 x1 y1 i = true) (k : Nat) (hk : k < (workTo xs d2 g2 x2 y2 xs.length).length) :
  ∃ m, m < (workTo xs d1 g1 x1 y1 xs.length).length ∧ ((workTo xs d1 g1 x1 y1 xs.length).getD m (0, 0)).1 ≤ ((workTo xs d2 g2 x2 y2 xs.length).getD k (0, 0)).1 ∧ ((workTo xs d2 g2 x2 y2 xs.length).getD k (0, 0)).2 ≤ ((workTo xs d1 g1 x1 y1 xs.length).getD m (0, 0)).2 := by
 rw [workTo_runs xs d1 g1 x1 y1 ha _ (Nat.le_refl _), workTo_runs xs d2 g2 x2 y2 ha _ (Nat.le_refl _)] at *
 have r1 := runs_of (joinB xs d1 g1 x1 y1) xs.length
 have r2 := runs_of (joinB xs d2 g2 x2 y2) xs.length
 generalize runsTo (joinB xs d1 g1 x1 y1) xs.length = l at *
 generalize runsTo (joinB xs d2 g2 x2 y2) xs.length = m at *
 have hg : ∀ (l : List (Nat × Nat)) k, k < l.length → (l.map (spanOf xs)).getD k (0, 0) = spanOf xs (l.getD k (0, 0)) := fun l k hk => by simp [List.getD, hk]
 rw [List.length_map] at hk
 obtain ⟨b, hb, h1, h2⟩ := runs_in r2 r1 hJ k hk
 have hr := r2.run k hk
 have hr1 := r1.run b hb
 have mono : ∀ i j, i ≤ j → j < xs.length → tOf xs i ≤ tOf xs j := fun i j hij hj => by
  rcases Nat.lt_or_ge i j with h | h
  ·
   exact Int.le_of_lt (ha i j h hj)
  ·
   obtain rfl : i = j := by omega
   exact Int.le_refl _
 refine ⟨b, by rw [List.length_map]; exact hb, ?_⟩
 rw [hg l b hb, hg m k hk]
 exact ⟨mono _ _ h1 (by omega), mono _ _ h2 (by omega)⟩

/-! ### The airs of StoreRooms -/
def dampB (n : Int) : Nat := (floatBits .quo .f32 (FloatKind.f32.nearest n) 1073741824).getD 0
theorem damp_all : ∀ n : Fin 64, (floatBits .quo .f32 (FloatKind.f32.nearest (n.val : Int)) 1073741824).isSome = true ∧ tempOk (dampB (n.val : Int)) = true := by decide +kernel
theorem damp_ok (n : Int) (h0 : 0 ≤ n) (h1 : n < 64) : floatBits .quo .f32 (FloatKind.f32.nearest n) 1073741824 = some (dampB n) ∧ tempOk (dampB n) = true := by
 obtain ⟨m, rfl⟩ : ∃ m : Nat, n = m := ⟨n.toNat, by omega⟩
 have := damp_all ⟨m, by omega⟩
 refine ⟨?_, this.2⟩
 have h := this.1
 unfold dampB
 dsimp only at h ⊢
 rw [Option.isSome_iff_exists] at h
 obtain ⟨r, hr⟩ := h
 rw [hr]
 rfl
def airT (ps : List (Int × Int × Int)) : Nat → Int
 | 0 => 0
 | i + 1 => airT ps i + (1 + (ps.getD i (0, 0, 0)).1 % 30)
def airOf (ps : List (Int × Int × Int)) (i : Nat) : Int × Int × Nat := (airT ps (i + 1), (ps.getD i (0, 0, 0)).2.1 % 50, dampB ((ps.getD i (0, 0, 0)).2.2 % 64))
def airsOf (ps : List (Int × Int × Int)) : List (Int × Int × Nat) := (List.range ps.length).map (airOf ps)
theorem airsOf_length (ps : List (Int × Int × Int)) : (airsOf ps).length = ps.length := by simp [airsOf]
theorem airsOf_get (ps : List (Int × Int × Int)) (i : Nat) (hi : i < ps.length) : (airsOf ps).getD i (0, 0, 0) = airOf ps i := by simp [airsOf, hi]
theorem airT_range (ps : List (Int × Int × Int)) (i : Nat) : 0 ≤ airT ps i ∧ airT ps i ≤ 30 * i := by
 induction i with
 | zero => simp [airT]
 | succ i ih => simp only [airT]; omega
theorem airT_asc (ps : List (Int × Int × Int)) (i j : Nat) (h : i < j) : airT ps i < airT ps j := by
 induction j with
 | zero => omega
 | succ j ih =>
  simp only [airT]
  rcases Nat.lt_or_ge i j with h1 | h1
  ·
   have := ih h1; omega
  ·
   obtain rfl : i = j := by omega
   omega
theorem airs_asc (ps : List (Int × Int × Int)) : AscT (airsOf ps) := by
 intro i j hij hj
 rw [airsOf_length] at hj
 unfold tOf
 rw [airsOf_get ps i (by omega), airsOf_get ps j hj]
 exact airT_asc ps (i + 1) (j + 1) (by omega)
theorem airs_good (ps : List (Int × Int × Int)) (hl : ps.length ≤ 20) (gap : Int) (x y : Rat) (hg : gapB gap = true) (hxy : cmpR x y ≤ 0) : workErr (airsOf ps) gap x y = 0 := by
 have hlen := airsOf_length ps
 unfold workErr
 rw [if_neg (by omega), if_neg (by rw [hg]; decide), if_neg (by omega), hlen]
 have key : ∀ k, k ≤ ps.length → firstErr (airErr (airsOf ps)) k = 0 := by
  intro k hk
  induction k with
  | zero => rfl
  | succ k ih =>
   rw [firstErr_step (ih (by omega))]
   unfold airErr
   have hr := airT_range ps (k + 1)
   have hd := (damp_ok ((ps.getD k (0, 0, 0)).2.2 % 64) (by omega) (by omega)).2
   have ht : timeB (airT ps (k + 1)) = true := by
    unfold timeB
    rw [decide_eq_true hr.1, decide_eq_true (by omega)]
    rfl
   rw [airsOf_get ps k (by omega)]
   unfold airOf
   dsimp only
   rw [if_neg (by rw [ht, hd]; simp; omega)]
   rcases Nat.eq_zero_or_pos k with h0 | h0
   ·
    rw [if_neg (by omega)]
   ·
    rw [airsOf_get ps (k - 1) (by omega)]
    unfold airOf
    dsimp only
    have := airT_asc ps (k - 1 + 1) (k + 1) (by omega)
    rw [if_neg (by omega)]
 exact key _ (Nat.le_refl _)
theorem strict_join {xs : List (Int × Int × Nat)} {d1 g1 d2 g2 : Int} {x1 y x2 : Rat} (hd : d2 ≤ d1) (hg : g2 ≤ g1) (hx : x1 ≤ x2) (i : Nat) (h : joinB xs d2 g2 x2 y i = true) : joinB xs d1 g1 x1 y i = true := by
 have key : ∀ i, rightAt xs d2 x2 y i = true → rightAt xs d1 x1 y i = true := by
  intro i h
  unfold rightAt rightP at h ⊢
  simp only [Bool.and_eq_true, decide_eq_true_eq] at h ⊢
  refine ⟨by omega, ?_, h.2.2⟩
  have h2 := h.2.1
  generalize tempQ (xs.getD i (0, 0, 0)).2.2 = t at *
  unfold cmpR at h2 ⊢
  split
  ·
   omega
  ·
   rename_i h3
   split
   ·
    rename_i h4
    exfalso
    split at h2
    ·
     rename_i h5
     exact Std.lt_irrefl (Std.lt_trans (Std.lt_of_lt_of_le h4 hx) h5)
    ·
     split at h2
     ·
      omega
     ·
      rename_i h5 h6
      exact h6 (Std.lt_of_lt_of_le h4 hx)
   ·
    omega
 unfold joinB at h ⊢
 simp only [Bool.and_eq_true, decide_eq_true_eq] at h ⊢
 exact ⟨key _ h.1, key _ h.2.1, by omega⟩

end Go.Proofs.Ytanmcbbnnjamoaa

namespace Go.Proofs.Ytanmcbbnnjamoaa
open Go.RowKit

theorem LRow.lit {w : World} {base : Nat} {e : TypeId} {size : Nat} (hb : base ≤ w.heap.size) (cs : Array Value) (n : Nat) (hm : n ≤ maxLen) (hs : cs.size = n * size) (hd : ∀ u ∈ cs.toList, noDig u) :
  LRow (w.alloc (.cells cs e)) base e size (.slice (some ⟨w.heap.size, 0, none⟩) n n) n cs.toList := by
 refine ⟨⟨by simpa using hs, .inr ⟨w.heap.size, n, cs, rfl, hb, heap_alloc_new w _, Nat.le_refl _, hm, hs, List.take_of_length_le (by rw [Array.length_toList, hs]; exact Nat.le_refl _)⟩⟩, fun g hg => ?_⟩
 obtain rfl : w.heap.size = g := by simpa [Value.ownBlock] using hg
 exact NoDig.of_block (heap_alloc_new w _) hd

end Go.Proofs.Ytanmcbbnnjamoaa

namespace Go.Proofs.Ytanmcbbnnjamoaa
open Go.RowKit

def CapOk (v : Value) : Prop := ∃ a l c, v = .slice a l c ∧ l ≤ c ∧ c ≤ maxLen

end Go.Proofs.Ytanmcbbnnjamoaa

namespace Go.Proofs.Ytanmcbbnnjamoaa
open Go.RowKit

theorem capOk_row {w : World} {base : Nat} {e : TypeId} {size : Nat} {v : Value} {n : Nat} {xs : List Value} (h : LRow w base e size v n xs) : CapOk v := by
 rcases h.1.2 with ⟨rfl, rfl⟩ | ⟨g, cap, cur, rfl, _, _, h1, h2, _⟩
 ·
  exact ⟨_, _, _, rfl, Nat.le_refl _, by unfold maxLen; omega⟩
 ·
  exact ⟨_, _, _, rfl, h1, h2⟩
end Go.Proofs.Ytanmcbbnnjamoaa

namespace Go.Proofs.Ytanmcbbnnjamoaa
open Go.RowKit

def Tri8At (w : World) (b o : Nat) (r : Int × Int × Int) : Prop := w.cell? ⟨b, o, none⟩ = some (.int .u8 r.1) ∧ w.cell? ⟨b, o + 1, none⟩ = some (.int .u8 r.2.1) ∧ w.cell? ⟨b, o + 2, none⟩ = some (.int .u8 r.2.2)
def byte (x : Int) : Prop := 0 ≤ x ∧ x ≤ 255
def Tri8 (w : World) (v : Value) (ps : List (Int × Int × Int)) : Prop :=
 ∃ ao cap, v = .slice ao ps.length cap ∧ (0 < ps.length → ∃ b off, ao = some ⟨b, off, none⟩ ∧ b < w.heap.size ∧ ∀ i, i < ps.length → Tri8At w b (off + i * 3) (ps.getD i (0, 0, 0)) ∧ byte (ps.getD i (0, 0, 0)).1 ∧ byte (ps.getD i (0, 0, 0)).2.1 ∧ byte (ps.getD i (0, 0, 0)).2.2)
theorem Tri8At.below {w w' : World} {b o : Nat} {r : Int × Int × Int} (h : Tri8At w b o r) (hb : Below w.heap.size w w') (hl : b < w.heap.size) : Tri8At w' b o r :=
 ⟨(hb.cell (p := ⟨b, o, none⟩) hl).trans h.1, (hb.cell (p := ⟨b, o + 1, none⟩) hl).trans h.2.1, (hb.cell (p := ⟨b, o + 2, none⟩) hl).trans h.2.2⟩

theorem Tri8.below {w w' : World} {v : Value} {ps : List (Int × Int × Int)} (h : Tri8 w v ps) (hb : Below w.heap.size w w') : Tri8 w' v ps := by
 obtain ⟨ao, cap, rfl, h⟩ := h
 refine ⟨ao, cap, rfl, fun hl => ?_⟩
 obtain ⟨b, off, rfl, hlt, h⟩ := h hl
 exact ⟨b, off, rfl, Nat.lt_of_lt_of_le hlt hb.size, fun i hi => ⟨(h i hi).1.below hb hlt, (h i hi).2⟩⟩

set_option maxHeartbeats 2000000 in
theorem num36_any (n : Int) (w : World) (h1 : -9223372036854775808 ≤ n) (h2 : n ≤ 9223372036854775807) : Calls Try.prog 11 #[.int .i64 n] w (RetRat (n : Rat) w) := by
 go_enter Try.func11, Try.ntmps11
 go_wp2_with fail
 refine (int_any n _ h1 h2).mono ?_
 rintro e w1 ⟨v, rfl, hv, hb⟩
 have hB := blk_new w #[.bool false, .slice none 0 0, .slice none 0 0] 40
 have hB1 := blk_keep hB hb (by simp)
 have hRB : RB w1 w.heap.size := ⟨false, none, 0, 0, none, 0, 0, _, hB1⟩
 obtain ⟨a5, c5, a6, c6, rfl, n5, n6⟩ := IsRat.opened hv
 obtain ⟨g0, g1, g2, f0', f1', f2'⟩ := hRB.cell
 have hx : Below w.heap.size w w1 := ((Below.refl _ _).alloc (Nat.le_refl _) _).trans (hb.mono (by simp))
 have hBl := hRB.lt
 generalize (n : Rat) = q at *
 go_wp2_with fail
 refine bodyPost_ret (v := .agg #[.bool (decide (q.num < 0)), .slice a5 (dig b64 q.num.natAbs).length _, .slice a6 (dig b64 (dn q.den)).length _]) (by simp [results, Try.results11, go_sem, g0, g1, g2]; first | done | exact ⟨rfl, rfl⟩ | rfl) rfl ⟨_, rfl, ?_, below_store3 hx (by omega)⟩
 exact IsRat.stored hRB n5 n6 rfl rfl

theorem info_air : (Try.prog.info? 49).map (fun i => (i.zero, i.size, i.bytes)) = some (some (.agg #[.int .i64 0, .int .i64 0, .float .f32 0]), 3, 24) := by kernel_rfl
theorem run_quo_f32 (n : Int) (r : Nat) (h : floatBits .quo .f32 (FloatKind.f32.nearest n) 1073741824 = some r) (w : World) : (binOp .quo 34 (.float .f32 (floatOfInt .f32 n)) (.float .f32 1073741824)).run Try.prog w = .ok (.float .f32 r) w := run_float_arith w .quo 34 .f32 _ _ r h
theorem int_szR (n : Int) (h1 : -1000000 ≤ n) (h2 : n ≤ 1000000) (k : Nat) (hk : 1 ≤ k) : szR (n : Rat) k := by
 have e : ∀ m : Nat, m < b64 → (dig b64 m).length ≤ k := fun m hm => Nat.le_trans (dig_length_le b64_two 1 m (by simpa using hm)) hk
 exact ⟨e _ (by simp; unfold b64; omega), e _ (by simp; unfold b64; omega)⟩
theorem airs_facts (ps : List (Int × Int × Int)) (hl : ps.length ≤ 20) (i : Nat) (hi : i < (airsOf ps).length) : (0 ≤ tOf (airsOf ps) i ∧ tOf (airsOf ps) i ≤ 1000) ∧ tempOk ((airsOf ps).getD i (0, 0, 0)).2.2 = true := by
 rw [airsOf_length] at hi
 unfold tOf
 rw [airsOf_get ps i hi]
 have := airT_range ps (i + 1)
 exact ⟨⟨this.1, by show airT ps (i + 1) ≤ 1000; omega⟩, (damp_ok _ (by omega) (by omega)).2⟩
theorem cmpR_int (a b : Int) : cmpR (a : Rat) (b : Rat) ≤ 0 ↔ a ≤ b := by
 unfold cmpR
 simp only [Rat.intCast_lt_intCast]
 split
 ·
  omega
 ·
  split <;> omega

def lastTo (L : List (Int × Int)) (i : Nat) : Int := if i = 0 then -1 else (L.getD (i - 1) (0, 0)).2
theorem endsTo_range (xs : List (Int × Int × Nat)) (s : Int × Int) (k : Nat) : 0 ≤ endsTo xs s k ∧ endsTo xs s k ≤ k := by
 induction k with
 | zero => simp [endsTo]
 | succ k ih => simp only [endsTo]; split <;> omega
theorem keepB15 {n : Nat} {W a b : World} {A0 A1 A2 A3 A4 A5 A6 A7 A8 A9 A10 A11 A12 A13 A14 : Addr} {v0 v1 v2 v3 v4 v5 v6 v7 v8 v9 v10 v11 v12 v13 v14 : Value} (hn : n ≤ W.heap.size) (hb : Below a.heap.size a b) (h : Below n W a ∧ a.cell? A0 = some v0 ∧ a.cell? A1 = some v1 ∧ a.cell? A2 = some v2 ∧ a.cell? A3 = some v3 ∧ a.cell? A4 = some v4 ∧ a.cell? A5 = some v5 ∧ a.cell? A6 = some v6 ∧ a.cell? A7 = some v7 ∧ a.cell? A8 = some v8 ∧ a.cell? A9 = some v9 ∧ a.cell? A10 = some v10 ∧ a.cell? A11 = some v11 ∧ a.cell? A12 = some v12 ∧ a.cell? A13 = some v13 ∧ a.cell? A14 = some v14) : Below n W b ∧ b.cell? A0 = some v0 ∧ b.cell? A1 = some v1 ∧ b.cell? A2 = some v2 ∧ b.cell? A3 = some v3 ∧ b.cell? A4 = some v4 ∧ b.cell? A5 = some v5 ∧ b.cell? A6 = some v6 ∧ b.cell? A7 = some v7 ∧ b.cell? A8 = some v8 ∧ b.cell? A9 = some v9 ∧ b.cell? A10 = some v10 ∧ b.cell? A11 = some v11 ∧ b.cell? A12 = some v12 ∧ b.cell? A13 = some v13 ∧ b.cell? A14 = some v14 := by
 obtain ⟨h, h0, h1, h2, h3, h4, h5, h6, h7, h8, h9, h10, h11, h12, h13, h14⟩ := h
 have e : ∀ A v, a.cell? A = some v → b.cell? A = some v := fun A v h => (hb.cell (World.block_lt_of_cell? (h := h))).trans h
 have hs := h.size
 exact ⟨h.trans (hb.mono (by omega)), e _ _ h0, e _ _ h1, e _ _ h2, e _ _ h3, e _ _ h4, e _ _ h5, e _ _ h6, e _ _ h7, e _ _ h8, e _ _ h9, e _ _ h10, e _ _ h11, e _ _ h12, e _ _ h13, e _ _ h14⟩
theorem keepB16 {n : Nat} {W a b : World} {A0 A1 A2 A3 A4 A5 A6 A7 A8 A9 A10 A11 A12 A13 A14 A15 : Addr} {v0 v1 v2 v3 v4 v5 v6 v7 v8 v9 v10 v11 v12 v13 v14 v15 : Value} (hn : n ≤ W.heap.size) (hb : Below a.heap.size a b) (h : Below n W a ∧ a.cell? A0 = some v0 ∧ a.cell? A1 = some v1 ∧ a.cell? A2 = some v2 ∧ a.cell? A3 = some v3 ∧ a.cell? A4 = some v4 ∧ a.cell? A5 = some v5 ∧ a.cell? A6 = some v6 ∧ a.cell? A7 = some v7 ∧ a.cell? A8 = some v8 ∧ a.cell? A9 = some v9 ∧ a.cell? A10 = some v10 ∧ a.cell? A11 = some v11 ∧ a.cell? A12 = some v12 ∧ a.cell? A13 = some v13 ∧ a.cell? A14 = some v14 ∧ a.cell? A15 = some v15) : Below n W b ∧ b.cell? A0 = some v0 ∧ b.cell? A1 = some v1 ∧ b.cell? A2 = some v2 ∧ b.cell? A3 = some v3 ∧ b.cell? A4 = some v4 ∧ b.cell? A5 = some v5 ∧ b.cell? A6 = some v6 ∧ b.cell? A7 = some v7 ∧ b.cell? A8 = some v8 ∧ b.cell? A9 = some v9 ∧ b.cell? A10 = some v10 ∧ b.cell? A11 = some v11 ∧ b.cell? A12 = some v12 ∧ b.cell? A13 = some v13 ∧ b.cell? A14 = some v14 ∧ b.cell? A15 = some v15 := by
 obtain ⟨h, h0, h1, h2, h3, h4, h5, h6, h7, h8, h9, h10, h11, h12, h13, h14, h15⟩ := h
 have e : ∀ A v, a.cell? A = some v → b.cell? A = some v := fun A v h => (hb.cell (World.block_lt_of_cell? (h := h))).trans h
 have hs := h.size
 exact ⟨h.trans (hb.mono (by omega)), e _ _ h0, e _ _ h1, e _ _ h2, e _ _ h3, e _ _ h4, e _ _ h5, e _ _ h6, e _ _ h7, e _ _ h8, e _ _ h9, e _ _ h10, e _ _ h11, e _ _ h12, e _ _ h13, e _ _ h14, e _ _ h15⟩
theorem keepB4 {n : Nat} {W a b : World} {A0 A1 A2 A3 : Addr} {v0 v1 v2 v3 : Value} (hn : n ≤ W.heap.size) (hb : Below a.heap.size a b) (h : Below n W a ∧ a.cell? A0 = some v0 ∧ a.cell? A1 = some v1 ∧ a.cell? A2 = some v2 ∧ a.cell? A3 = some v3) : Below n W b ∧ b.cell? A0 = some v0 ∧ b.cell? A1 = some v1 ∧ b.cell? A2 = some v2 ∧ b.cell? A3 = some v3 := by
 obtain ⟨h, h0, h1, h2, h3⟩ := h
 have e : ∀ A v, a.cell? A = some v → b.cell? A = some v := fun A v h => (hb.cell (World.block_lt_of_cell? (h := h))).trans h
 have hs := h.size
 exact ⟨h.trans (hb.mono (by omega)), e _ _ h0, e _ _ h1, e _ _ h2, e _ _ h3⟩
theorem keepB4a {n : Nat} {W a : World} {o o' : Obj} {BR B0 j0 j1 j2 j3 : Nat} {v0 v1 v2 v3 : Value} (hn : n ≤ a.heap.size) (h1 : BR < a.heap.size) (h2 : B0 < a.heap.size) (h : Below n W (a.alloc o) ∧ (a.alloc o).cell? ⟨BR, j0, none⟩ = some v0 ∧ (a.alloc o).cell? ⟨BR, j1, none⟩ = some v1 ∧ (a.alloc o).cell? ⟨BR, j2, none⟩ = some v2 ∧ (a.alloc o).cell? ⟨B0, j3, none⟩ = some v3) :
  Below n W (a.alloc o') ∧ (a.alloc o').cell? ⟨BR, j0, none⟩ = some v0 ∧ (a.alloc o').cell? ⟨BR, j1, none⟩ = some v1 ∧ (a.alloc o').cell? ⟨BR, j2, none⟩ = some v2 ∧ (a.alloc o').cell? ⟨B0, j3, none⟩ = some v3 := by
 have e : ∀ B j v, B < a.heap.size → (a.alloc o).cell? ⟨B, j, none⟩ = some v → (a.alloc o').cell? ⟨B, j, none⟩ = some v := fun B j v hB h => by
  rw [← h]
  exact World.cell?_of_block (a := ⟨B, j, none⟩) ((heap_alloc_old a o' hB).trans (heap_alloc_old a o hB).symm)
 obtain ⟨h0, k0, k1, k2, k3⟩ := h
 exact ⟨⟨h0.os, h0.tape, h0.output, by have := h0.size; simp at this ⊢; exact this, fun k hk => ((heap_alloc_old a o' (by omega)).trans (heap_alloc_old a o (by omega)).symm).trans (h0.block k hk)⟩, e _ _ _ h1 k0, e _ _ _ h1 k1, e _ _ _ h1 k2, e _ _ _ h2 k3⟩
theorem keepB4s {n : Nat} {W a : World} {N BR B0 j0 j1 j2 j3 : Nat} {v0 v1 v2 v3 u0 u1 u2 : Value} (hn : n ≤ N) (h1 : BR ≠ N) (h2 : B0 ≠ N) (h : Below n W a ∧ a.cell? ⟨BR, j0, none⟩ = some v0 ∧ a.cell? ⟨BR, j1, none⟩ = some v1 ∧ a.cell? ⟨BR, j2, none⟩ = some v2 ∧ a.cell? ⟨B0, j3, none⟩ = some v3) (b : World)
  (hb : b = ((a.setCell ⟨N, 0, none⟩ u0).setCell ⟨N, 1, none⟩ u1).setCell ⟨N, 2, none⟩ u2) : Below n W b ∧ b.cell? ⟨BR, j0, none⟩ = some v0 ∧ b.cell? ⟨BR, j1, none⟩ = some v1 ∧ b.cell? ⟨BR, j2, none⟩ = some v2 ∧ b.cell? ⟨B0, j3, none⟩ = some v3 := by
 subst hb
 have e : ∀ B j v, B ≠ N → a.cell? ⟨B, j, none⟩ = some v → (((a.setCell ⟨N, 0, none⟩ u0).setCell ⟨N, 1, none⟩ u1).setCell ⟨N, 2, none⟩ u2).cell? ⟨B, j, none⟩ = some v := fun B j v hne h => by
  rw [World.cell?_setCell_other, World.cell?_setCell_other, World.cell?_setCell_other, h]
  all_goals intro e; cases e; exact hne rfl
 obtain ⟨h0, k0, k1, k2, k3⟩ := h
 exact ⟨below_store3 h0 hn, e _ _ _ h1 k0, e _ _ _ h1 k1, e _ _ _ h1 k2, e _ _ _ h2 k3⟩
def plainV : Value → Bool
 | .int .u64 _ => false
 | .int .u32 _ => false
 | _ => true
theorem IsRow.set_plain {k : IntKind} {w : World} {v : Value} {ds : List Nat} {B T : Nat} {cs : Array Value} (hk : k = .u64 ∨ k = .u32) (h : IsRow k w v ds) (hB : w.heap[B]? = some (.cells cs T (0, 0))) (hn : cs.toList.all plainV = true) (j : Nat) (u : Value) :
  IsRow k (w.setCell ⟨B, j, none⟩ u) v ds := by
 rcases h with h | ⟨h0, b, off, cap, rfl, h1, h2, h3, h4⟩
 ·
  exact .inl h
 ·
  as_aux_lemma =>
  have hne : b ≠ B := by
   rintro rfl
   have := h4 0 h0
   rw [cell_of_row w b (off + 0) cs T (0, 0) hB] at this
   have hm := List.all_eq_true.1 hn _ (Array.mem_toList_iff.2 (Array.mem_of_getElem? this))
   rcases hk with rfl | rfl <;> exact absurd hm (by simp [plainV])
  refine .inr ⟨h0, b, off, cap, rfl, h1, h2, by simpa [World.setCell] using h3, fun i hi => ?_⟩
  rw [← h4 i hi]
  exact World.cell?_of_block (w := w) (heap_setCell_other w ⟨B, j, none⟩ b u hne)
theorem IsRat.setp {w : World} {v : Value} {q : Rat} {B T : Nat} {cs : Array Value} (h : IsRat w v q) (hB : w.heap[B]? = some (.cells cs T (0, 0))) (hn : cs.toList.all plainV = true) (j : Nat) (u : Value) : IsRat (w.setCell ⟨B, j, none⟩ u) v q := by
 obtain ⟨vn, vd, rfl, h1, h2⟩ := h
 exact ⟨vn, vd, rfl, IsRow.set_plain (.inl rfl) h1 hB hn j u, IsRow.set_plain (.inl rfl) h2 hB hn j u⟩
def SumBox (W0 : World) (q : Rat) (s : Value) (wx : World) : Prop :=
 ∃ (N : Nat) (b : Bool) (x : Option Addr) (i j : Nat) (y : Option Addr) (k l : Nat) (T : TypeId), s = .pointer (some ⟨N, 0, none⟩) ∧ W0.heap.size ≤ N ∧ Below W0.heap.size W0 wx ∧ wx.heap[N]? = some (.cells #[.bool b, .slice x i j, .slice y k l] T (0, 0)) ∧ IsRat wx (.agg #[.bool b, .slice x i j, .slice y k l]) q
theorem boxkeep {W w' : World} {cs : Array Value} {T : TypeId} (hb : Below (W.alloc (.cells cs T)).heap.size (W.alloc (.cells cs T)) w') : w'.heap[W.heap.size]? = some (.cells cs T (0, 0)) := blk_keep (blk_new W cs T) hb (by simp)
theorem boxkeepD {W w' : World} {cs : Array Value} {T : TypeId} (hb : Below (W.alloc (.cells cs T)).drew.heap.size (W.alloc (.cells cs T)).drew w') : w'.heap[W.heap.size]? = some (.cells cs T (0, 0)) := boxkeep (W := W) (cs := cs) (T := T) (w' := w') ⟨hb.os, hb.tape, hb.output, hb.size, hb.block⟩
theorem SumBox.of_alloc {W0 wB : World} {q : Rat} {b : Bool} {x y : Option Addr} {i j k l : Nat} {T : TypeId} (hb : Below W0.heap.size W0 (wB.alloc (.cells #[.bool b, .slice x i j, .slice y k l] T))) (hN : W0.heap.size ≤ wB.heap.size) (hv : IsRat wB (.agg #[.bool b, .slice x i j, .slice y k l]) q) :
  SumBox W0 q (.pointer (some ⟨wB.heap.size, 0, none⟩)) (wB.alloc (.cells #[.bool b, .slice x i j, .slice y k l] T)) :=
 ⟨_, b, x, i, j, y, k, l, T, rfl, hN, hb, blk_new _ _ _, hv.below ((Below.refl _ _).alloc (Nat.le_refl _) _)⟩
theorem SumBox.of_set {W0 wB : World} {q : Rat} {N : Nat} {b b0 : Bool} {x y x0 y0 : Option Addr} {i j k l i0 j0 k0 l0 : Nat} {T : TypeId} (hb : Below W0.heap.size W0 (((wB.setCell ⟨N, 0, none⟩ (.bool b)).setCell ⟨N, 1, none⟩ (.slice x i j)).setCell ⟨N, 2, none⟩ (.slice y k l))) (hN : W0.heap.size ≤ N) (hB : wB.heap[N]? = some (.cells #[.bool b0, .slice x0 i0 j0, .slice y0 k0 l0] T (0, 0))) (hv : IsRat wB (.agg #[.bool b, .slice x i j, .slice y k l]) q) :
  SumBox W0 q (.pointer (some ⟨N, 0, none⟩)) (((wB.setCell ⟨N, 0, none⟩ (.bool b)).setCell ⟨N, 1, none⟩ (.slice x i j)).setCell ⟨N, 2, none⟩ (.slice y k l)) := by
 obtain ⟨vn, vd, e, h1, h2⟩ := hv
 simp only [Value.agg.injEq, Array.mk.injEq, List.cons.injEq, Value.bool.injEq, and_true] at e
 obtain ⟨rfl, rfl, rfl⟩ := e
 exact ⟨N, _, x, i, j, y, k, l, T, rfl, hN, hb, by exact blk_set (blk_set (blk_set hB 0 _) 1 _) 2 _, ⟨_, _, rfl, store3 hB h1, store3 hB h2⟩⟩
def RuleBox (w : World) (B : Nat) (d : Int) (q1 : Bool) (x1 : Option Addr) (n1 k1 : Nat) (x2 : Option Addr) (n2 k2 : Nat) (q2 : Bool) (x3 : Option Addr) (n3 k3 : Nat) (x4 : Option Addr) (n4 k4 : Nat) (g : Int) : Prop :=
 ∃ T, w.heap[B]? = some (.cells #[.int .i64 d, .bool q1, .slice x1 n1 k1, .slice x2 n2 k2, .bool q2, .slice x3 n3 k3, .slice x4 n4 k4, .int .i64 g] T (0, 0))
theorem pair_not_rule {w : World} {B b o : Nat} {d g : Int} {q1 q2 : Bool} {x1 x2 x3 x4 : Option Addr} {n1 k1 n2 k2 n3 k3 n4 k4 : Nat} {r : Int × Int} (h : RuleBox w B d q1 x1 n1 k1 x2 n2 k2 q2 x3 n3 k3 x4 n4 k4 g) (hp : PairAt w b o r) : b ≠ B := by
 rintro rfl
 obtain ⟨T, h⟩ := h
 obtain ⟨h1, h2⟩ := hp
 rw [cell_of_row w b _ _ T (0, 0) h] at h1 h2
 match o, h1, h2 with
 | 0, h1, h2 => simp at h2
 | 1, h1, h2 => simp at h1
 | 2, h1, h2 => simp at h1
 | 3, h1, h2 => simp at h1
 | 4, h1, h2 => simp at h1
 | 5, h1, h2 => simp at h1
 | 6, h1, h2 => simp at h1
 | 7, h1, h2 => simp at h2
 | o + 8, h1, h2 => simp at h1
theorem PairsOf.off {w w' : World} {v : Value} {l : List (Int × Int)} {B : Nat} {d g : Int} {q1 q2 : Bool} {x1 x2 x3 x4 : Option Addr} {n1 k1 n2 k2 n3 k3 n4 k4 : Nat} (h : PairsOf w v l) (hB : RuleBox w B d q1 x1 n1 k1 x2 n2 k2 q2 x3 n3 k3 x4 n4 k4 g)
  (hw : ∀ b, b < w.heap.size → b ≠ B → w'.heap[b]? = w.heap[b]?) (hs : w.heap.size ≤ w'.heap.size) : PairsOf w' v l := by
 obtain ⟨ao, cap, rfl, h⟩ := h
 refine ⟨ao, cap, rfl, fun hl => ?_⟩
 obtain ⟨b, off, rfl, hlt, h⟩ := h hl
 have hne := pair_not_rule hB (h 0 hl)
 have hb := hw b hlt hne
 exact ⟨b, off, rfl, Nat.lt_of_lt_of_le hlt hs, fun i hi => ⟨(World.cell?_of_block (a := ⟨b, off + i * 2, none⟩) hb).trans (h i hi).1, (World.cell?_of_block (a := ⟨b, off + i * 2 + 1, none⟩) hb).trans (h i hi).2⟩⟩
def inTo (L : List (Int × Int)) (s : Int × Int) : Nat → Bool
 | 0 => false
 | k + 1 => inTo L s k || (decide ((L.getD k (0, 0)).1 ≤ s.1) && decide (s.2 ≤ (L.getD k (0, 0)).2))
theorem inTo_of {L : List (Int × Int)} {s : Int × Int} {m n : Nat} (hm : m < n) (h1 : (L.getD m (0, 0)).1 ≤ s.1) (h2 : s.2 ≤ (L.getD m (0, 0)).2) : inTo L s n = true := by
 induction n with
 | zero => omega
 | succ n ih =>
  simp only [inTo]
  rcases Nat.lt_or_ge m n with h | h
  ·
   rw [ih h]; rfl
  ·
   obtain rfl : m = n := by omega
   rw [decide_eq_true h1, decide_eq_true h2]
   simp

set_option maxRecDepth 100000 in
set_option maxHeartbeats 16000000 in
theorem storeRooms_any (ps : List (Int × Int × Int)) (dust low high gap s0 s1 s2 : Int) (vp : Value) (w : World) (hp : Tri8 w vp ps) (b1 : byte dust) (b2 : byte low) (b3 : byte high) (b4 : byte gap) (c0 : byte s0) (c1 : byte s1) (c2 : byte s2) :
  Calls Try.prog 4 #[vp, .int .u8 dust, .int .u8 low, .int .u8 high, .int .u8 gap, .agg #[.int .u8 s0, .int .u8 s1, .int .u8 s2]] w (RetBool true w) := by
 have HP := Lib.hid hp
 obtain ⟨aop, capp, rfl, hP⟩ := hp
 obtain ⟨d0, d1⟩ := b1
 obtain ⟨l0, l1⟩ := b2
 obtain ⟨h0, h1⟩ := b3
 obtain ⟨g0, g1⟩ := b4
 obtain ⟨s00, s01⟩ := c0
 obtain ⟨s10, s11⟩ := c1
 obtain ⟨s20, s21⟩ := c2
 have hal0 := (Below.refl w.heap.size w).alloc (Nat.le_refl _) (.cells #[.int .u8 s0, .int .u8 s1, .int .u8 s2] 23)
 clear hP
 by_cases c1 : 20 < ps.length
 ·
  as_aux_lemma =>
  have t1 : decide ((ps.length : Int) > 20) = true := by simp; omega
  clear c1
  go_enter Try.func4, Try.ntmps4
  go_wp2_with fail
  refine (awake_any _).mono ?_
  rintro e w1 ⟨rfl, hb1⟩
  go_wp2_with fail
  go_ret
  exact ⟨rfl, ext_trans hal0 hb1⟩
 ·
  have t1 : decide ((ps.length : Int) > 20) = false := by simp; omega
  have hlp : ps.length ≤ 20 := by omega
  obtain ⟨i0, hi0, hz0, hz1, hz2⟩ := info_parts info_air
  have hzd : ∀ u ∈ (Value.agg #[.int .i64 0, .int .i64 0, .float .f32 0]).cells.toList, noDig u := by
   intro u hu
   simp [Value.cells] at hu
   rcases hu with rfl | rfl
   ·
    exact noDig_i64 _
   ·
    exact noDig_f32 _
  have hsf := run_store_f32
  have hS0 := blk_new w #[.int .u8 s0, .int .u8 s1, .int .u8 s2] 23
  clear c1
  go_enter Try.func4, Try.ntmps4
  go_wp2_with fail
  have HP0 := Lib.hid (HP.out.below hal0)
  clear HP
  generalize hW0 : w.alloc (.cells #[.int .u8 s0, .int .u8 s1, .int .u8 s2] 23) = W0 at *
  generalize hB0 : w.heap.size = B0 at *
  have hX0 : Hid (Below w.heap.size w W0) := by show Below _ _ _; rw [hB0]; exact hal0
  have hSl := blk_lt hS0
  clear hW0 hal0
  have hB0l : Hid (w.heap.size ≤ B0) := by show _ ≤ _; omega
  clear hB0
  have Hlen := Lib.hid (airsOf_length ps)
  have Hget := Lib.hid (airsOf_get ps)
  go_loopw [13, 14, 42] (fun mv tv iv wr => ∃ (i : Nat), i ≤ ps.length ∧ iv = .int .i64 i ∧ tv = .int .i64 (airT ps i) ∧ LRow wr W0.heap.size 49 3 mv i (airCells ((airsOf ps).take i)) ∧ Below W0.heap.size W0 wr)
   (fun _ _ iv _ => ps.length - (intOf iv).toNat)
  case atStart => exact ⟨0, Nat.zero_le _, rfl, rfl, LRow.nil _ _ _ _, Below.refl _ _⟩
  case round =>
   obtain ⟨i, hi, rfl, rfl, hL, hbel⟩ := hrel
   by_cases hlt : i < ps.length
   ·
    as_aux_lemma =>
    obtain ⟨ao', cap', ea, hPE⟩ := HP0.out
    simp only [Value.slice.injEq, true_and] at ea
    obtain ⟨rfl, rfl⟩ := ea
    obtain ⟨b, off, rfl, hbl, hPP⟩ := hPE (by omega)
    obtain ⟨hg, ⟨hx0, hx1⟩, ⟨hy0, hy1⟩, hz0', hz1'⟩ := hPP i hlt
    obtain ⟨k0, k1, k2⟩ := hg.below hbel hbl
    have hlt' : (i : Int) < ps.length := by omega
    have hge' : (0 : Int) ≤ i := by omega
    as_aux_lemma =>
    have hbl2 : b < wr.heap.size := Nat.lt_of_lt_of_le hbl hbel.size
    have Htk : Hid (airCells ((airsOf ps).take (i + 1)) = airCells ((airsOf ps).take i) ++ [.int .i64 ((airsOf ps).getD i (0, 0, 0)).1, .int .i64 ((airsOf ps).getD i (0, 0, 0)).2.1, .float .f32 ((airsOf ps).getD i (0, 0, 0)).2.2]) := airCells_take _ i (by rw [Hlen.out]; exact hlt)
    have hgi := Hget.out i hlt
    rw [hgi] at Htk
    unfold airOf at Htk
    dsimp only at Htk
    have Ht1 : Hid (airT ps (i + 1) = airT ps i + (1 + (ps.getD i (0, 0, 0)).1 % 30)) := rfl
    rw [Ht1.out] at Htk
    as_aux_lemma =>
    have htr := airT_range ps i
    have hdm := (damp_ok ((ps.getD i (0, 0, 0)).2.2 % 64) (by omega) (by omega)).1
    have hq := run_quo_f32 _ _ hdm
    clear hPP hPE hgi hdm hg
    generalize airT ps i = T at *
    generalize (ps.getD i (0, 0, 0)).1 = x at *
    generalize (ps.getD i (0, 0, 0)).2.1 = y at *
    generalize (ps.getD i (0, 0, 0)).2.2 = z at *
    as_aux_lemma =>
    generalize dampB (z % 64) = D at *
    have hx1' := (Below.refl wr.heap.size wr).alloc (Nat.le_refl _) (.cells #[.int .u8 x, .int .u8 y, .int .u8 z] 23)
    have hx2' := hx1'.alloc hx1'.size (.cells #[.int .i64 (T + (1 + x % 30)), .int .i64 (y % 50), .float .f32 D] 49)
    have hcn := cell_new3 (wr.alloc (.cells #[.int .u8 x, .int .u8 y, .int .u8 z] 23)) (.int .i64 (T + (1 + x % 30))) (.int .i64 (y % 50)) (.float .f32 D) 49
    rw [World.size_alloc] at hcn
    have HCN := Lib.hid hcn
    have HL2 := Lib.hid (hL.below hx2')
    clear hcn hL hx1'
    as_aux_lemma =>
    go_wp2_with (at_builtin; refine wpList_append_lrow _ rfl (.tmp 53) (.tmp 65) 47 rfl W0.heap.size 49 i0 _ 3 24 Try.underlying47 hi0 hz0 hz1 hz2 rfl (by decide) hzd _ _ _ rfl HL2.out ⟨wr.heap.size + 1, 0, none⟩ 1 1 _ rfl rfl HCN.out (by simp [Value.oneCell']) (by intro u hu; simp at hu; rcases hu with rfl | rfl | rfl; exact noDig_i64 _; exact noDig_i64 _; exact noDig_f32 _) (by omega) (by unfold maxLen; omega) (by omega) (by simp; have := hbel.size; omega) ?_)
    intro g cap' w3 hL3 hgr hat
    have hx3 : Below W0.heap.size W0 w3 := (hbel.trans (hx2'.mono hbel.size)).grown hgr (by simp; have := hbel.size; omega) (ownBlock_base HL2.out.1)
    go_wp2_with fail
    exact ⟨⟨i + 1, by omega, by go_num, by rw [Ht1.out], by rw [Htk.out]; exact hL3, hx3⟩, meas_up hlt⟩
   ·
    obtain rfl : i = ps.length := by omega
    rw [← Hlen.out, List.take_length, Hlen.out] at hL
    have hP0 := AirsOf.ofRow (by rw [Hlen.out]; exact hL)
    have Hasc := Lib.hid (airs_asc ps)
    have Hok := Lib.hid (fun g x y hg hxy => airs_good ps hlp g x y hg hxy)
    have Htr := Lib.hid (fun i hi => (airs_facts ps hlp i hi).1)
    have Htm := Lib.hid (fun i hi => (airs_facts ps hlp i hi).2)
    have hCr : CapOk u13 := capOk_row hL
    rw [← Hlen.out]
    have hxl : (airsOf ps).length ≤ 20 := by rw [Hlen.out]; exact hlp
    generalize airsOf ps = xs at *
    have HA := Lib.hid hP0
    obtain ⟨aoa, capa, rfl, _⟩ := hP0
    clear hL hCr Hget
    have hr1 : low % 20 ≤ 19 := by omega
    have hr2 : high % 20 ≤ 19 := by omega
    have hr3 : 0 ≤ low % 20 := by omega
    have hr4 : 0 ≤ high % 20 := by omega
    have hr5 : 0 ≤ gap % 40 := by omega
    have hr6 : gap % 40 ≤ 39 := by omega
    have HN1 : Hid (∀ W, Calls Try.prog 11 #[.int .i64 (low % 20)] W (RetRat ((low % 20 : Int) : Rat) W)) := fun W => num36_any _ W (by omega) (by omega)
    have HN2 : Hid (∀ W, Calls Try.prog 11 #[.int .i64 (low % 20 + high % 20)] W (RetRat ((low % 20 + high % 20 : Int) : Rat) W)) := fun W => num36_any _ W (by omega) (by omega)
    go_wp2_with fail
    refine (HN1.out _).mono ?_
    rintro e w1 ⟨vl, rfl, hvl, hb1⟩
    go_wp2_with fail
    refine (HN2.out _).mono ?_
    rintro e w2 ⟨vm, rfl, hvm, hb2⟩
    obtain ⟨a1, k1, a2, k2, rfl, _, _⟩ := hvl.opened
    obtain ⟨a3, k3, a4, k4, rfl, _, _⟩ := hvm.opened
    have HVL := Lib.hid (hvl.below hb2)
    have HVM := Lib.hid hvm
    have hX1 := int_szR (low % 20) (by omega) (by omega) 68719476736 (by omega)
    have hY1 := int_szR (low % 20 + high % 20) (by omega) (by omega) 68719476736 (by omega)
    have hXY : cmpR ((low % 20 : Int) : Rat) ((low % 20 + high % 20 : Int) : Rat) ≤ 0 := (cmpR_int _ _).2 (by omega)
    have Hsum : Hid (((low % 20 : Int) : Rat) + ((s2 % 5 : Int) : Rat) = ((low % 20 + s2 % 5 : Int) : Rat)) := (Rat.intCast_add _ _).symm
    have Hlx : Hid (((low % 20 : Int) : Rat) ≤ ((low % 20 + s2 % 5 : Int) : Rat)) := Rat.intCast_le_intCast.2 (by omega)
    have hX2 := int_szR (low % 20 + s2 % 5) (by omega) (by omega) 68719476736 (by omega)
    have hS2 := int_szR (s2 % 5) (by omega) (by omega) 68719476736 (by omega)
    generalize ((low % 20 + s2 % 5 : Int) : Rat) = X2 at *
    generalize ((low % 20 + high % 20 : Int) : Rat) = Y at *
    generalize ((low % 20 : Int) : Rat) = X at *
    have big : ∀ q, szR q 68719476736 → szR q 274877906944 := fun q h => ⟨Nat.le_trans h.1 (by omega), Nat.le_trans h.2 (by omega)⟩
    have HSX := Lib.hid hX1
    have HSX2 := Lib.hid hX2
    have HSS2 := Lib.hid hS2
    have HBX := Lib.hid (big _ hX1)
    have HBY := Lib.hid (big _ hY1)
    have HBX2 := Lib.hid (big _ hX2)
    have HXY := Lib.hid hXY
    clear hX1 hX2 hY1 hS2 hXY big hvl hvm HN1 HN2
    generalize hn1 : (dig b64 X.num.natAbs).length = n1 at *
    generalize hn2 : (dig b64 (dn X.den)).length = n2 at *
    generalize hn3 : (dig b64 Y.num.natAbs).length = n3 at *
    generalize hn4 : (dig b64 (dn Y.den)).length = n4 at *
    generalize hq1 : decide (X.num < 0) = q1 at *
    generalize hq2 : decide (Y.num < 0) = q2 at *
    clear hn1 hn2 hn3 hn4 hq1 hq2
    have hxA := below_join hbel (below_join hb1 hb2)
    have hR := blk_new w2 #[.int .i64 dust, .bool q1, .slice a1 n1 k1, .slice a2 n2 k2, .bool q2, .slice a3 n3 k3, .slice a4 n4 k4, .int .i64 (1 + gap % 40)] 53
    have hxB := (Below.refl w2.heap.size w2).alloc (Nat.le_refl _) (.cells #[.int .i64 dust, .bool q1, .slice a1 n1 k1, .slice a2 n2 k2, .bool q2, .slice a3 n3 k3, .slice a4 n4 k4, .int .i64 (1 + gap % 40)] 53)
    have HA2 := Lib.hid (HA.out.below (below_join (below_join hb1 hb2) hxB))
    have HVL2 := Lib.hid (HVL.out.below hxB)
    have HVM2 := Lib.hid (HVM.out.below hxB)
    have hxC := below_join hxA hxB
    have HAw := Lib.hid (HA.out.below (below_join hb1 hb2))
    have HXw := Lib.hid HVL.out
    have HYw := Lib.hid HVM.out
    have HBw := Lib.hid hxB
    have HWw : Hid (Below w.heap.size w w2) := hX0.out.trans (hxA.mono hX0.out.size)
    have HBR : Hid (w.heap.size ≤ w2.heap.size) := HWw.out.size
    have HBR' := HBR
    have HSw := Lib.hid (blk_keep hS0 hxA hSl)
    have HSl2 : Hid (B0 < w2.heap.size) := Nat.lt_of_lt_of_le hSl hxA.size
    clear hb1 hb2 hxA hxB HA HVL HVM hbel
    have hg1 : gapB (1 + gap % 40) = true := by unfold gapB; rw [decide_eq_true (by omega), decide_eq_true (by omega)]; rfl
    have Hg1 := Lib.hid hg1
    clear hg1
    go_wp2_with fail
    have hRl := blk_lt hR
    generalize (w2.alloc (.cells #[.int .i64 dust, .bool q1, .slice a1 n1 k1, .slice a2 n2 k2, .bool q2, .slice a3 n3 k3, .slice a4 n4 k4, .int .i64 (1 + gap % 40)] 53)) = W3 at *
    generalize hBReq : w2.heap.size = BR at *
    have HBReq := Lib.hid hBReq
    clear hBReq
    refine (working_any xs dust (1 + gap % 40) X Y _ _ _ _ _ _ _ W3 HA2.out HVL2.out HVM2.out HBX.out HBY.out).mono ?_
    rintro e w4 ⟨va, rfl, hva, hb4⟩
    have Hw0 := Hok.out (1 + gap % 40) X Y Hg1.out HXY.out
    have HwL : workL xs dust (1 + gap % 40) X Y = workTo xs dust (1 + gap % 40) X Y xs.length := by unfold workL; rw [if_pos Hw0]
    rw [Hw0]
    rw [HwL] at hva
    have HVA := Lib.hid hva
    obtain ⟨aov, capv, rfl, _⟩ := hva
    have HAx := Lib.hid (HBw.out.trans (hb4.mono (Nat.le_of_lt hRl)))
    have hR4 := blk_keep hR hb4 hRl
    have HA4 := Lib.hid (HA2.out.below hb4)
    have HVL4 := Lib.hid (HVL2.out.below hb4)
    have HVM4 := Lib.hid (HVM2.out.below hb4)
    have hxD := below_join hxC hb4
    have hS4 := blk_keep hS0 hxD hSl
    have hRl4 := blk_lt hR4
    have hSl4 := blk_lt hS4
    clear HwL Hw0 hR HA2 HVL2 HVM2 hxC hb4 hRl
    go_wp2_with fail
    have hgp0 : 1 ≤ 1 + gap % 40 := by omega
    have hgp1 : 1 + gap % 40 ≤ 40 := by omega
    have HSPN : Hid (∀ k, k < (workTo xs dust (1 + gap % 40) X Y xs.length).length → ∃ p q, SpanIs xs dust (1 + gap % 40) X Y ((workTo xs dust (1 + gap % 40) X Y xs.length).getD k (0, 0)) p q ∧ (0 < k → ((workTo xs dust (1 + gap % 40) X Y xs.length).getD (k - 1) (0, 0)).2 < tOf xs p)) := fun k hk => work_span Hasc.out k hk
    have hLl := workTo_length xs dust (1 + gap % 40) X Y xs.length
    generalize hLw : workTo xs dust (1 + gap % 40) X Y xs.length = L at *
    have HLW := Lib.hid hLw
    have hLl2 : L.length ≤ 20 := by omega
    clear hLw hLl
    generalize 1 + gap % 40 = gp at *
    go_loopw [21, 99] (fun lv iv wr => ∃ (i : Nat), i ≤ L.length ∧ iv = .int .i64 i ∧ lv = .int .i64 (lastTo L i) ∧ Below w4.heap.size w4 wr) (fun _ iv _ => L.length - (intOf iv).toNat)
    case atStart => exact ⟨0, Nat.zero_le _, rfl, rfl, Below.refl _ _⟩
    case round =>
     obtain ⟨i, hi, rfl, rfl, hbel⟩ := hrel
     by_cases hlt : i < L.length
     ·
      obtain ⟨p, q, hsp, hprev⟩ := HSPN.out i hlt
      have hlt' : (i : Int) < L.length := by omega
      have hge' : (0 : Int) ≤ i := by omega
      obtain ⟨ao', cap', ea, hVE⟩ := HVA.out
      simp only [Value.slice.injEq, true_and] at ea
      obtain ⟨rfl, rfl⟩ := ea
      obtain ⟨bs, offs, rfl, hbs, hSS⟩ := hVE (by omega)
      obtain ⟨v0, v1⟩ := (hSS i hlt).below hbel hbs
      have hbs2 : bs < wr.heap.size := Nat.lt_of_lt_of_le hbs hbel.size
      have hlast : lastTo L i < (L.getD i (0, 0)).1 := by
       unfold lastTo
       split
       ·
        have := (Htr.out p (by have := hsp.le; have := hsp.lt; omega)).1
        rw [hsp.from_]
        omega
       ·
        rw [hsp.from_]
        exact hprev (by omega)
      have hfu : (L.getD i (0, 0)).1 < (L.getD i (0, 0)).2 := by
       rw [hsp.from_, hsp.to_]
       exact Hasc.out p q hsp.lt hsp.le
      have Hl1 : Hid (lastTo L (i + 1) = (L.getD i (0, 0)).2) := rfl
      have HSP := Lib.hid hsp
      have hf0 := (Htr.out p (by have := hsp.le; have := hsp.lt; omega)).1
      have hu1 := (Htr.out q hsp.le).2
      rw [← hsp.from_] at hf0
      rw [← hsp.to_] at hu1
      clear hSS hVE hsp hprev
      generalize hs1 : L.getD i (0, 0) = sp at *
      obtain ⟨f, u⟩ := sp
      dsimp only at *
      have Hs1 := Lib.hid hs1
      clear hs1
      generalize lastTo L i = lst at *
      have tl1 : decide (f ≤ lst) = false := decide_eq_false (by omega)
      have tl2 : decide (u ≤ f) = false := decide_eq_false (by omega)
      have hSB := blk_new wr #[.int .i64 f, .int .i64 u] 58
      have hxS := (Below.refl wr.heap.size wr).alloc (Nat.le_refl _) (.cells #[.int .i64 f, .int .i64 u] 58)
      have hx5 := below_join hbel hxS
      clear hlast
      go_wp2_with fail
      have hSBl := blk_lt hSB
      clear hxS hbel v0 v1 hbs2
      generalize (wr.alloc (.cells #[.int .i64 f, .int .i64 u] 58)) = W5 at *
      generalize wr.heap.size = BS at *
      go_loopw [24, 118] (fun nv kv wq => ∃ (k : Nat), k ≤ xs.length ∧ kv = .int .i64 k ∧ nv = .int .i64 (endsTo xs (f, u) k) ∧ Below W5.heap.size W5 wq) (fun _ kv _ => xs.length - (intOf kv).toNat)
      case atStart => exact ⟨0, Nat.zero_le _, rfl, rfl, Below.refl _ _⟩
      case round =>
       obtain ⟨k, hk, rfl, rfl, hbq⟩ := hrel
       have hx6 := below_join hx5 hbq
       by_cases hlk : k < xs.length
       ·
        obtain ⟨ao', cap', ea, hAE⟩ := HA4.out
        simp only [Value.slice.injEq, true_and] at ea
        obtain ⟨rfl, rfl⟩ := ea
        obtain ⟨b, off, rfl, hbl, hLL⟩ := hAE (by omega)
        obtain ⟨g0', g1', g2'⟩ := (hLL k hlk).below hx6 hbl
        have hlk' : (k : Int) < xs.length := by omega
        have hgk' : (0 : Int) ≤ k := by omega
        have hbl2 : b < wr.heap.size := Nat.lt_of_lt_of_le hbl hx6.size
        have htr := Htr.out k hlk
        have htm := Htm.out k hlk
        have Hri : Hid (rightAt xs dust X Y k = (decide ((xs.getD k (0, 0, 0)).2.1 ≤ dust) && (decide (cmpR X (tempQ (xs.getD k (0, 0, 0)).2.2) ≤ 0) && decide (cmpR (tempQ (xs.getD k (0, 0, 0)).2.2) Y ≤ 0)))) := rfl
        have Hen : Hid (tOf xs k = f ∨ tOf xs k = u → endsTo xs (f, u) (k + 1) = endsTo xs (f, u) k + 1) := fun h => by show (if tOf xs k = f ∨ tOf xs k = u then _ else _) = _; rw [if_pos h]
        have Hes : Hid (tOf xs k ≠ f → tOf xs k ≠ u → endsTo xs (f, u) (k + 1) = endsTo xs (f, u) k) := fun h1 h2 => by show (if tOf xs k = f ∨ tOf xs k = u then _ else _) = _; rw [if_neg (fun h => h.elim h1 h2)]
        have her := endsTo_range xs (f, u) k
        have Hin := Lib.hid (fun h1 h2 => HSP.out.inside Hasc.out k hlk h1 h2)
        have Hne := Lib.hid (fun h1 h2 => HSP.out.near k h1 h2)
        have Hrt := Lib.hid (fun h1 h2 => HSP.out.right k h1 h2)
        have Hfp : Hid (f = tOf xs p) := HSP.out.from_
        have HLL := Lib.hid hLL
        have Hkm : Hid (∀ m, m < k → tOf xs m < tOf xs k) := fun m hm => Hasc.out m k hm hlk
        have htk : tOf xs k = (xs.getD k (0, 0, 0)).1 := rfl
        rw [← htk] at g0'
        clear hLL hAE htk
        generalize htk : tOf xs k = ti at *
        generalize (xs.getD k (0, 0, 0)).2.1 = du at *
        generalize (xs.getD k (0, 0, 0)).2.2 = bt at *
        generalize endsTo xs (f, u) k = en at *
        have HTK := Lib.hid htk
        clear htk
        have hSBq := blk_keep hSB hbq hSBl
        have hxA := (Below.refl wr.heap.size wr).alloc (Nat.le_refl _) (.cells #[.int .i64 ti, .int .i64 du, .float .f32 bt] 49)
        have hAB := blk_new wr #[.int .i64 ti, .int .i64 du, .float .f32 bt] 49
        have hsf1 : (wr.alloc (.cells #[.int .i64 ti, .int .i64 du, .float .f32 bt] 49)).cell? ⟨BS, 0, none⟩ = some (.int .i64 f) := blk_cell (blk_keep hSBq hxA (blk_lt hSBq)) 0 _ rfl
        have hsf2 : (wr.alloc (.cells #[.int .i64 ti, .int .i64 du, .float .f32 bt] 49)).cell? ⟨BS, 1, none⟩ = some (.int .i64 u) := blk_cell (blk_keep hSBq hxA (blk_lt hSBq)) 1 _ rfl
        have hx7 := below_join hbq hxA
        by_cases hb1 : ti < f
        ·
         have tb1 : decide (ti < f) = true := decide_eq_true hb1
         have He1 := Lib.hid (Hes.out (by omega) (by omega))
         clear hb1
         go_wp2_with fail
         exact ⟨⟨k + 1, by omega, by go_num, by rw [He1.out], hx7⟩, meas_up hlk⟩
        ·
         have tb1 : decide (ti < f) = false := decide_eq_false hb1
         by_cases hb2 : u < ti
         ·
          have tb2 : decide (ti > u) = true := decide_eq_true hb2
          have He1 := Lib.hid (Hes.out (by omega) (by omega))
          clear hb1 hb2
          go_wp2_with fail
          exact ⟨⟨k + 1, by omega, by go_num, by rw [He1.out], hx7⟩, meas_up hlk⟩
         ·
          have tb2 : decide (ti > u) = false := decide_eq_false hb2
          obtain ⟨hpk, hkq⟩ := Hin.out (by omega) (by omega)
          have hrt := Hrt.out hpk hkq
          rw [Hri.out] at hrt
          simp only [Bool.and_eq_true, decide_eq_true_eq] at hrt
          obtain ⟨hrt1, hrt2, hrt3⟩ := hrt
          obtain ⟨r, hr, hrb, hrE⟩ := conv_fin bt htm
          have hcv := run_conv bt r hr
          have eq1 : tempQ bt = fval r := by unfold tempQ; rw [if_pos htm, hr]; rfl
          have HFl : Hid (∀ w, Calls Try.prog 9 #[.float .f64 r] w (RetRatE (tempQ bt) 0 w)) := by show ∀ w, _; rw [eq1]; exact fun w => float_ok r w hrb hrE
          have hsq := tempQ_szR bt
          have Hsq : Hid (szR (tempQ bt) 274877906944) := ⟨Nat.le_trans hsq.1 (by omega), Nat.le_trans hsq.2 (by omega)⟩
          have hc2 : ¬ cmpR (tempQ bt) X < 0 := by rw [cmpR_swap]; omega
          have td : decide (du > dust) = false := decide_eq_false (by omega)
          have hl1 : hrt1 = hrt1 := rfl
          clear hb1 hb2 hl1 hr hrb hrE eq1 hsq hrt2 htm Hri Hrt Hin
          generalize tempQ bt = Q at *
          go_wp2_with (simp only [hcv])
          refine (HFl.out _).mono ?_
          rintro e w7 ⟨vq, rfl, hvq, hb7⟩
          obtain ⟨a5, k5, a6, k6, rfl, _, _⟩ := hvq.opened
          have HQ := Lib.hid hvq
          clear hvq
          generalize hn5 : (dig b64 Q.num.natAbs).length = n5 at *
          generalize hn6 : (dig b64 (dn Q.den)).length = n6 at *
          generalize hq5 : decide (Q.num < 0) = q5 at *
          clear hn5 hn6 hq5
          have hxF := (Below.refl w7.heap.size w7).alloc (Nat.le_refl _) (.cells #[.bool q5, .slice a5 n5 k5, .slice a6 n6 k6] 40)
          have hFB := blk_new w7 #[.bool q5, .slice a5 n5 k5, .slice a6 n6 k6] 40
          have hx8 := below_join hx7 (below_join hb7 hxF)
          have hx9 := below_join hx5 hx8
          have hAB8 := blk_keep (blk_keep hAB hb7 (blk_lt hAB)) hxF (Nat.lt_of_lt_of_le (blk_lt hAB) hb7.size)
          have hSB8 := blk_keep hSB hx8 hSBl
          have hR8 := blk_keep hR4 hx9 hRl4
          have HX8 := Lib.hid (HVL4.out.below hx9)
          have HY8 := Lib.hid (HVM4.out.below hx9)
          have HQ8 := Lib.hid (HQ.out.below hxF)
          have pv0 : ∀ j, j < xs.length → (w7.alloc (.cells #[.bool q5, .slice a5 n5 k5, .slice a6 n6 k6] 40)).cell? ⟨b, off + j * 3, none⟩ = some (.int .i64 (tOf xs j)) := fun j hj => ((HLL.out j hj).below hx9 hbl).1
          have HPV := Lib.hid pv0
          have hbl8 : b < (w7.alloc (.cells #[.bool q5, .slice a5 n5 k5, .slice a6 n6 k6] 40)).heap.size := Nat.lt_of_lt_of_le hbl hx9.size
          clear pv0 hsf1 hsf2 hAB hxA hx7 hb7 hxF HQ hSBq g0' g1' g2' hbl2 hcv
          go_wp2_with fail
          generalize (w7.alloc (.cells #[.bool q5, .slice a5 n5 k5, .slice a6 n6 k6] 40)) = W8 at *
          generalize w7.heap.size = BF at *
          generalize wr.heap.size = BA at *
          have e0 : W8.drew.cell? ⟨BA, 0, none⟩ = some (.int .i64 ti) := blk_cell hAB8 0 _ rfl
          have e1 : W8.drew.cell? ⟨BA, 1, none⟩ = some (.int .i64 du) := blk_cell hAB8 1 _ rfl
          have l0 : W8.drew.cell? ⟨BF, 0, none⟩ = some (.bool q5) := blk_cell hFB 0 _ rfl
          have l1 : W8.drew.cell? ⟨BF, 1, none⟩ = some (.slice a5 n5 k5) := blk_cell hFB 1 _ rfl
          have l2 : W8.drew.cell? ⟨BF, 2, none⟩ = some (.slice a6 n6 k6) := blk_cell hFB 2 _ rfl
          have s0' : W8.drew.cell? ⟨BS, 0, none⟩ = some (.int .i64 f) := blk_cell hSB8 0 _ rfl
          have s1' : W8.drew.cell? ⟨BS, 1, none⟩ = some (.int .i64 u) := blk_cell hSB8 1 _ rfl
          have r0 : W8.drew.cell? ⟨BR, 0, none⟩ = some (.int .i64 dust) := blk_cell hR8 0 _ rfl
          have r1 : W8.drew.cell? ⟨BR, 1, none⟩ = some (.bool q1) := blk_cell hR8 1 _ rfl
          have r2 : W8.drew.cell? ⟨BR, 2, none⟩ = some (.slice a1 n1 k1) := blk_cell hR8 2 _ rfl
          have r3 : W8.drew.cell? ⟨BR, 3, none⟩ = some (.slice a2 n2 k2) := blk_cell hR8 3 _ rfl
          have r4 : W8.drew.cell? ⟨BR, 4, none⟩ = some (.bool q2) := blk_cell hR8 4 _ rfl
          have r5 : W8.drew.cell? ⟨BR, 5, none⟩ = some (.slice a3 n3 k3) := blk_cell hR8 5 _ rfl
          have r6 : W8.drew.cell? ⟨BR, 6, none⟩ = some (.slice a4 n4 k4) := blk_cell hR8 6 _ rfl
          have r7 : W8.drew.cell? ⟨BR, 7, none⟩ = some (.int .i64 gp) := blk_cell hR8 7 _ rfl
          have HX9 := HX8
          have HY9 := HY8
          have HQ9 := HQ8
          have HC1 : Hid (∀ W', IsRat W' (.agg #[.bool q5, .slice a5 n5 k5, .slice a6 n6 k6]) Q → IsRat W' (.agg #[.bool q1, .slice a1 n1 k1, .slice a2 n2 k2]) X → Calls Try.prog 14 #[.agg #[.bool q5, .slice a5 n5 k5, .slice a6 n6 k6], .agg #[.bool q1, .slice a1 n1 k1, .slice a2 n2 k2]] W' (RetInt (cmpR Q X) W')) := fun W' h1 h2 => cmpRat_any Q X _ _ W' h1 h2 Hsq.out HBX.out
          have HC2 : Hid (∀ W', IsRat W' (.agg #[.bool q5, .slice a5 n5 k5, .slice a6 n6 k6]) Q → IsRat W' (.agg #[.bool q2, .slice a3 n3 k3, .slice a4 n4 k4]) Y → Calls Try.prog 14 #[.agg #[.bool q5, .slice a5 n5 k5, .slice a6 n6 k6], .agg #[.bool q2, .slice a3 n3 k3, .slice a4 n4 k4]] W' (RetInt (cmpR Q Y) W')) := fun W' h1 h2 => cmpRat_any Q Y _ _ W' h1 h2 Hsq.out HBY.out
          generalize cmpR Q X = cx at *
          generalize cmpR Q Y = cy at *
          have tx : decide (cx < 0) = false := decide_eq_false (by omega)
          have ty : decide (cy > 0) = false := decide_eq_false (by omega)
          have Hcx : Hid (¬ cx < 0) := by show ¬ _; omega
          clear hAB8 hFB hSB8 hR8 hx9 HX8 HY8 HQ8 hc2 hrt3
          by_cases hpe : k = p
          ·
           have hef : ti = f := by rw [Hfp.out, ← hpe]; exact HTK.out.symm
           have tf : decide (ti > f) = false := decide_eq_false (by omega)
           have tef : (ti == f) = true := beq_iff_eq.2 hef
           clear hpe
           refine wp_region_held_drew (S := (fun w' => Below W8.heap.size W8 w' ∧ w'.cell? ⟨BA, 0, none⟩ = some (.int .i64 ti) ∧ w'.cell? ⟨BA, 1, none⟩ = some (.int .i64 du) ∧ w'.cell? ⟨BR, 0, none⟩ = some (.int .i64 dust) ∧ w'.cell? ⟨BR, 1, none⟩ = some (.bool q1) ∧ w'.cell? ⟨BR, 2, none⟩ = some (.slice a1 n1 k1) ∧ w'.cell? ⟨BR, 3, none⟩ = some (.slice a2 n2 k2) ∧ w'.cell? ⟨BR, 4, none⟩ = some (.bool q2) ∧ w'.cell? ⟨BR, 5, none⟩ = some (.slice a3 n3 k3) ∧ w'.cell? ⟨BR, 6, none⟩ = some (.slice a4 n4 k4) ∧ w'.cell? ⟨BR, 7, none⟩ = some (.int .i64 gp) ∧ w'.cell? ⟨BF, 0, none⟩ = some (.bool q5) ∧ w'.cell? ⟨BF, 1, none⟩ = some (.slice a5 n5 k5) ∧ w'.cell? ⟨BF, 2, none⟩ = some (.slice a6 n6 k6) ∧ w'.cell? ⟨BS, 0, none⟩ = some (.int .i64 f) ∧ w'.cell? ⟨BS, 1, none⟩ = some (.int .i64 u))) (by kernel_rfl) ⟨(Below.refl _ _).drew, e0, e1, r0, r1, r2, r3, r4, r5, r6, r7, l0, l1, l2, s0', s1'⟩ (fun hHeld => ?_)
           refine tk0 (i := 0) (v := ?va0) rfl (Or.inl ⟨by rfl, ?hya0⟩) (by assumption) ?rea0
           case hya0 => intro w hSw; (try dsimp only at hSw); (go_simp <;> with_reducible rfl)
           try simp only [na1, na2, na3, Act.put, na4, na5, na6]
           refine tk0 (i := 1) (v := ?va1) rfl (Or.inl ⟨by rfl, ?hya1⟩) (by assumption) ?rea1
           case hya1 => intro w hSw; (try dsimp only at hSw); (go_simp <;> with_reducible rfl)
           try simp only [na1, na2, na3, Act.put, na4, na5, na6]
           refine tk0 (i := 2) (v := ?va2) rfl (Or.inl ⟨by rfl, ?hya2⟩) (by assumption) ?rea2
           case hya2 => intro w hSw; (try dsimp only at hSw); (go_simp <;> with_reducible rfl)
           try simp only [na1, na2, na3, Act.put, na4, na5, na6]
           refine tk0 (i := 3) (v := ?va3) rfl (Or.inl ⟨by rfl, ?hya3⟩) (by assumption) ?rea3
           case hya3 => intro w hSw; (try dsimp only at hSw); (go_simp <;> with_reducible rfl)
           try simp only [na1, na2, na3, Act.put, na4, na5, na6]
           refine tk0 (i := 4) (v := ?va4) rfl (Or.inl ⟨by rfl, ?hya4⟩) (by assumption) ?rea4
           case hya4 => intro w hSw; (try dsimp only at hSw); (go_simp <;> with_reducible rfl)
           try simp only [na1, na2, na3, Act.put, na4, na5, na6]
           refine tk0 (i := 5) (v := ?va5) rfl (Or.inl ⟨by rfl, ?hya5⟩) (by assumption) ?rea5
           case hya5 => intro w hSw; (try dsimp only at hSw); (go_simp <;> with_reducible rfl)
           try simp only [na1, na2, na3, Act.put, na4, na5, na6]
           refine tk0 (i := 6) (v := ?va6) rfl (Or.inl ⟨by rfl, ?hya6⟩) (by assumption) ?rea6
           case hya6 => intro w hSw; (try dsimp only at hSw); (go_simp <;> with_reducible rfl)
           try simp only [na1, na2, na3, Act.put, na4, na5, na6]
           refine tk0 (i := 7) (v := ?va7) rfl (Or.inl ⟨by rfl, ?hya7⟩) (by assumption) ?rea7
           case hya7 => intro w hSw; (try dsimp only at hSw); (go_simp <;> with_reducible rfl)
           try simp only [na1, na2, na3, Act.put, na4, na5, na6]
           refine tk0 (i := 8) (v := ?va8) rfl (Or.inl ⟨by rfl, ?hya8⟩) (by assumption) ?rea8
           case hya8 => intro w hSw; (try dsimp only at hSw); (go_simp <;> with_reducible rfl)
           try simp only [na1, na2, na3, Act.put, na4, na5, na6]
           refine tk0 (i := 9) (v := ?va9) rfl (Or.inl ⟨by rfl, ?hya9⟩) (by assumption) ?rea9
           case hya9 => intro w hSw; (try dsimp only at hSw); (go_simp <;> with_reducible rfl)
           try simp only [na1, na2, na3, Act.put, na4, na5, na6]
           refine tk0 (i := 10) (v := ?va10) rfl (Or.inl ⟨by rfl, ?hya10⟩) (by assumption) ?rea10
           case hya10 => intro w hSw; (try dsimp only at hSw); (go_simp <;> with_reducible rfl)
           try simp only [na1, na2, na3, Act.put, na4, na5, na6]
           refine tk0 (i := 11) (v := ?va11) rfl (Or.inl ⟨by rfl, ?hya11⟩) (by assumption) ?rea11
           case hya11 => intro w hSw; (try dsimp only at hSw); (go_simp <;> with_reducible rfl)
           try simp only [na1, na2, na3, Act.put, na4, na5, na6]
           refine tk0 (i := 12) (v := ?va12) rfl (Or.inl ⟨by rfl, ?hya12⟩) (by assumption) ?rea12
           case hya12 => intro w hSw; (try dsimp only at hSw); (go_simp <;> with_reducible rfl)
           try simp only [na1, na2, na3, Act.put, na4, na5, na6]
           refine rd1 (i := 13) rfl (fun K hK => ?_)
           go_simp
           go_wp2_with (go_at_call 14; (with_reducible refine (HC1.out _ (HQ9.out.below (And.left (by assumption))) (HX9.out.below (And.left (by assumption)))).mono ?_); rintro e wA ⟨rfl, hbA⟩)
           refine hK.out _ _ (keepB15 (Nat.le_refl _) hbA hHeld) (fun hHeld2 => ?_)
           clear hK K hHeld
           refine tk0 (i := 14) (v := ?va14) rfl (Or.inl ⟨by rfl, ?hya14⟩) (by assumption) ?rea14
           case hya14 => intro w hSw; (try dsimp only at hSw); (go_simp <;> with_reducible rfl)
           try simp only [na1, na2, na3, Act.put, na4, na5, na6]
           refine tk0 (i := 15) (v := ?va15) rfl (Or.inl ⟨by rfl, ?hya15⟩) (by assumption) ?rea15
           case hya15 => intro w hSw; (try dsimp only at hSw); (go_simp <;> with_reducible rfl)
           try simp only [na1, na2, na3, Act.put, na4, na5, na6]
           refine tk0 (i := 16) (v := ?va16) rfl (Or.inl ⟨by rfl, ?hya16⟩) (by assumption) ?rea16
           case hya16 => intro w hSw; (try dsimp only at hSw); (go_simp <;> with_reducible rfl)
           try simp only [na1, na2, na3, Act.put, na4, na5, na6]
           refine tk0 (i := 17) (v := ?va17) rfl (Or.inl ⟨by rfl, ?hya17⟩) (by assumption) ?rea17
           case hya17 => intro w hSw; (try dsimp only at hSw); (go_simp <;> with_reducible rfl)
           try simp only [na1, na2, na3, Act.put, na4, na5, na6]
           refine tk0 (i := 18) (v := ?va18) rfl (Or.inl ⟨by rfl, ?hya18⟩) (by assumption) ?rea18
           case hya18 => intro w hSw; (try dsimp only at hSw); (go_simp <;> with_reducible rfl)
           try simp only [na1, na2, na3, Act.put, na4, na5, na6]
           refine tk0 (i := 19) (v := ?va19) rfl (Or.inl ⟨by rfl, ?hya19⟩) (by assumption) ?rea19
           case hya19 => intro w hSw; (try dsimp only at hSw); (go_simp <;> with_reducible rfl)
           try simp only [na1, na2, na3, Act.put, na4, na5, na6]
           refine rd1 (i := 20) rfl (fun K hK => ?_)
           go_simp
           go_wp2_with (go_at_call 14; (with_reducible refine (HC2.out _ (HQ9.out.below (And.left (by assumption))) (HY9.out.below (And.left (by assumption)))).mono ?_); rintro e wB ⟨rfl, hbB⟩)
           refine hK.out _ _ (keepB15 (Nat.le_refl _) hbB hHeld2) (fun hHeld3 => ?_)
           clear hK K hHeld2
           refine tk0 (i := 21) (v := ?va21) rfl (Or.inl ⟨by rfl, ?hya21⟩) (by assumption) ?rea21
           case hya21 => intro w hSw; (try dsimp only at hSw); (go_simp <;> with_reducible rfl)
           try simp only [na1, na2, na3, Act.put, na4, na5, na6]
           refine tk0 (i := 22) (v := ?va22) rfl (Or.inl ⟨by rfl, ?hya22⟩) (by assumption) ?rea22
           case hya22 => intro w hSw; (try dsimp only at hSw); (go_simp <;> with_reducible rfl)
           try simp only [na1, na2, na3, Act.put, na4, na5, na6]
           refine tk0 (i := 23) (v := ?va23) rfl (Or.inl ⟨by rfl, ?hya23⟩) (by assumption) ?rea23
           case hya23 => intro w hSw; (try dsimp only at hSw); (go_simp <;> with_reducible rfl)
           try simp only [na1, na2, na3, Act.put, na4, na5, na6]
           refine tk0 (i := 24) (v := ?va24) rfl (Or.inl ⟨by rfl, ?hya24⟩) (by assumption) ?rea24
           case hya24 => intro w hSw; (try dsimp only at hSw); (go_simp <;> with_reducible rfl)
           try simp only [na1, na2, na3, Act.put, na4, na5, na6]
           refine tk0 (i := 25) (v := ?va25) rfl (Or.inl ⟨by rfl, ?hya25⟩) (by assumption) ?rea25
           case hya25 => intro w hSw; (try dsimp only at hSw); (go_simp <;> with_reducible rfl)
           try simp only [na1, na2, na3, Act.put, na4, na5, na6]
           refine tk0 (i := 26) (v := ?va26) rfl (Or.inl ⟨by rfl, ?hya26⟩) (by assumption) ?rea26
           case hya26 => intro w hSw; (try dsimp only at hSw); (go_simp <;> with_reducible rfl)
           try simp only [na1, na2, na3, Act.put, na4, na5, na6]
           refine tk0 (i := 27) (v := ?va27) rfl (Or.inl ⟨by rfl, ?hya27⟩) (by assumption) ?rea27
           case hya27 => intro w hSw; (try dsimp only at hSw); (go_simp <;> with_reducible rfl)
           try simp only [na1, na2, na3, Act.put, na4, na5, na6]
           refine tk0 (i := 28) (v := ?va28) rfl (Or.inl ⟨by rfl, ?hya28⟩) (by assumption) ?rea28
           case hya28 => intro w hSw; (try dsimp only at hSw); (go_simp <;> with_reducible rfl)
           try simp only [na1, na2, na3, Act.put, na4, na5, na6]
           refine tk0 (i := 29) (v := ?va29) rfl (Or.inl ⟨by rfl, ?hya29⟩) (by assumption) ?rea29
           case hya29 => intro w hSw; (try dsimp only at hSw); (go_simp <;> with_reducible rfl)
           try simp only [na1, na2, na3, Act.put, na4, na5, na6]
           refine tk0 (i := 30) (v := undef) rfl (Or.inr ⟨by rfl, rfl⟩) (by assumption) ?_
           try simp only [na1, na2, na3, Act.put, na4, na5, na6]
           refine tk0 (i := 31) (v := undef) rfl (Or.inr ⟨by rfl, rfl⟩) (by assumption) ?_
           try simp only [na1, na2, na3, Act.put, na4, na5, na6]
           refine tk0 (i := 32) (v := undef) rfl (Or.inr ⟨by rfl, rfl⟩) (by assumption) ?_
           try simp only [na1, na2, na3, Act.put, na4, na5, na6]
           refine tk0 (i := 33) (v := undef) rfl (Or.inr ⟨by rfl, rfl⟩) (by assumption) ?_
           try simp only [na1, na2, na3, Act.put, na4, na5, na6]
           refine tk0 (i := 34) (v := undef) rfl (Or.inr ⟨by rfl, rfl⟩) (by assumption) ?_
           try simp only [na1, na2, na3, Act.put, na4, na5, na6]
           refine tk0 (i := 35) (v := undef) rfl (Or.inr ⟨by rfl, rfl⟩) (by assumption) ?_
           try simp only [na1, na2, na3, Act.put, na4, na5, na6]
           refine tk0 (i := 36) (v := undef) rfl (Or.inr ⟨by rfl, rfl⟩) (by assumption) ?_
           try simp only [na1, na2, na3, Act.put, na4, na5, na6]
           refine tk0 (i := 37) (v := undef) rfl (Or.inr ⟨by rfl, rfl⟩) (by assumption) ?_
           try simp only [na1, na2, na3, Act.put, na4, na5, na6]
           refine tk0 (i := 38) (v := undef) rfl (Or.inr ⟨by rfl, rfl⟩) (by assumption) ?_
           try simp only [na1, na2, na3, Act.put, na4, na5, na6]
           refine tk0 (i := 39) (v := undef) rfl (Or.inr ⟨by rfl, rfl⟩) (by assumption) ?_
           try simp only [na1, na2, na3, Act.put, na4, na5, na6]
           refine tk0 (i := 40) (v := undef) rfl (Or.inr ⟨by rfl, rfl⟩) (by assumption) ?_
           try simp only [na1, na2, na3, Act.put, na4, na5, na6]
           refine tk0 (i := 41) (v := undef) rfl (Or.inr ⟨by rfl, rfl⟩) (by assumption) ?_
           try simp only [na1, na2, na3, Act.put, na4, na5, na6]
           refine tk0 (i := 42) (v := ?va42) rfl (Or.inl ⟨by rfl, ?hya42⟩) (by assumption) ?rea42
           case hya42 => intro w hSw; (try dsimp only at hSw); (go_simp <;> with_reducible rfl)
           try simp only [na1, na2, na3, Act.put, na4, na5, na6]
           refine tk0 (i := 43) (v := ?va43) rfl (Or.inl ⟨by rfl, ?hya43⟩) (by assumption) ?rea43
           case hya43 => intro w hSw; (try dsimp only at hSw); (go_simp <;> with_reducible rfl)
           try simp only [na1, na2, na3, Act.put, na4, na5, na6]
           refine wpAnyH_done (by kernel_rfl) ?_ _
           obtain ⟨hxR, m0, -, -, -, -, -, -, -, -, -, -, -, -, m1, m2⟩ := hHeld3
           clear e0 e1 r0 r1 r2 r3 r4 r5 r6 r7 l0 l1 l2 s0' s1'
           have hxQ := Below.trans hx8 (Below.mono hxR hx8.size)
           clear hxR hbA hbB
           have He1 := Lib.hid (Hen.out (.inl hef))
           clear hef
           go_wp2_with fail
           exact ⟨⟨k + 1, by omega, by go_num, by rw [He1.out], hxQ⟩, meas_up hlk⟩
          ·
           have hkp : p < k := by omega
           have hfl : f < ti := by rw [Hfp.out]; exact Hkm.out p hkp
           have tf : decide (ti > f) = true := decide_eq_true hfl
           have tef : (ti == f) = false := beq_eq_false_iff_ne.2 (by omega)
           obtain ⟨j, hj⟩ : ∃ j, k = j + 1 := ⟨k - 1, by omega⟩
           have hnr := Hne.out hkp hkq
           have pv := HPV.out j (by omega)
           rw [show k - 1 = j by omega] at hnr
           have htj := Htr.out j (by omega)
           generalize tOf xs j = tj at *
           have e1' : IntKind.i64.wrap ((k : Int) - 1) = (j : Int) := by rw [show (k : Int) - 1 = (j : Int) by omega]; exact IntWalk.i64_in _ (by omega)
           have hj2 : (j : Int) < xs.length := by omega
           have hj0 : (0 : Int) ≤ j := by omega
           have hws : IntKind.i64.wrap (ti - tj) = ti - tj := IntWalk.i64_in _ (by omega)
           have tg : decide (ti - tj > gp) = false := decide_eq_false (by omega)
           have pv : W8.drew.cell? ⟨b, off + j * 3, none⟩ = some (.int .i64 tj) := pv
           clear hj hnr hpe
           go_region_held3 (fun w' => Below W8.heap.size W8 w' ∧ w'.cell? ⟨BA, 0, none⟩ = some (.int .i64 ti) ∧ w'.cell? ⟨BA, 1, none⟩ = some (.int .i64 du) ∧ w'.cell? ⟨BR, 0, none⟩ = some (.int .i64 dust) ∧ w'.cell? ⟨BR, 1, none⟩ = some (.bool q1) ∧ w'.cell? ⟨BR, 2, none⟩ = some (.slice a1 n1 k1) ∧ w'.cell? ⟨BR, 3, none⟩ = some (.slice a2 n2 k2) ∧ w'.cell? ⟨BR, 4, none⟩ = some (.bool q2) ∧ w'.cell? ⟨BR, 5, none⟩ = some (.slice a3 n3 k3) ∧ w'.cell? ⟨BR, 6, none⟩ = some (.slice a4 n4 k4) ∧ w'.cell? ⟨BR, 7, none⟩ = some (.int .i64 gp) ∧ w'.cell? ⟨BF, 0, none⟩ = some (.bool q5) ∧ w'.cell? ⟨BF, 1, none⟩ = some (.slice a5 n5 k5) ∧ w'.cell? ⟨BF, 2, none⟩ = some (.slice a6 n6 k6) ∧ w'.cell? ⟨BS, 0, none⟩ = some (.int .i64 f) ∧ w'.cell? ⟨BS, 1, none⟩ = some (.int .i64 u) ∧ w'.cell? ⟨b, off + j * 3, none⟩ = some (.int .i64 tj))
            (first | exact ⟨(Below.refl _ _).drew, e0, e1, r0, r1, r2, r3, r4, r5, r6, r7, l0, l1, l2, s0', s1', pv⟩ | assumption | (refine keepB16 (Nat.le_refl _) hbB ?_; assumption) | (refine keepB16 (Nat.le_refl _) hbA ?_; assumption))
            (first | (go_at_call 14; (with_reducible refine (HC1.out _ (HQ9.out.below (And.left (by assumption))) (HX9.out.below (And.left (by assumption)))).mono ?_); rintro e wA ⟨rfl, hbA⟩) | (go_at_call 14; (with_reducible refine (HC2.out _ (HQ9.out.below (And.left (by assumption))) (HY9.out.below (And.left (by assumption)))).mono ?_); rintro e wB ⟨rfl, hbB⟩))
           rename_i hS
           obtain ⟨hxR, m0, -, -, -, -, -, -, -, -, -, -, -, -, m1, m2, -⟩ := hS
           clear e0 e1 r0 r1 r2 r3 r4 r5 r6 r7 l0 l1 l2 s0' s1' pv
           have hxQ := Below.trans hx8 (Below.mono hxR hx8.size)
           clear hxR hbA hbB
           by_cases heu : ti = u
           ·
            have teu : (ti == u) = true := beq_iff_eq.2 heu
            have He1 := Lib.hid (Hen.out (.inr heu))
            clear heu
            go_wp2_with fail
            exact ⟨⟨k + 1, by omega, by go_num, by rw [He1.out], hxQ⟩, meas_up hlk⟩
           ·
            have teu : (ti == u) = false := beq_eq_false_iff_ne.2 heu
            have He1 := Lib.hid (Hes.out (by omega) heu)
            clear heu
            go_wp2_with fail
            exact ⟨⟨k + 1, by omega, by go_num, by rw [He1.out], hxQ⟩, meas_up hlk⟩
       ·
        obtain rfl : k = xs.length := by omega
        have hends := HSP.out.ends Hasc.out xs.length (Nat.le_refl _)
        rw [if_pos (by have := HSP.out.le; have := HSP.out.lt; omega), if_pos HSP.out.le] at hends
        rw [hends]
        clear hends
        go_wp2_with fail
        exact ⟨⟨i + 1, by omega, by go_num, by rw [Hl1.out], hx6⟩, meas_up hlt⟩
     ·
      obtain rfl : i = L.length := by omega
      clear HSPN
      have hRr := blk_keep hR4 hbel hRl4
      have HRB : Hid (RuleBox wr BR dust q1 a1 n1 k1 a2 n2 k2 q2 a3 n3 k3 a4 n4 k4 gp) := ⟨_, hRr⟩
      have HVAr := Lib.hid (HVA.out.below hbel)
      have HAr := Lib.hid (HAx.out.trans (hbel.mono (Nat.le_of_lt hRl4)))
      have hSr := blk_keep HSw.out HAr.out HSl2.out
      have m0 := blk_cell hRr 0 (.int .i64 dust) rfl
      as_aux_lemma =>
      have m7 := blk_cell hRr 7 (.int .i64 gp) rfl
      have fz0 := blk_frozen hRr 0
      have fz7 := blk_frozen hRr 7
      have p0 := blk_cell hSr 0 (.int .u8 s0) rfl
      have p1 := blk_cell hSr 1 (.int .u8 s1) rfl
      have hws1 : IntKind.i64.wrap (dust - s0 % 9) = dust - s0 % 9 := IntWalk.i64_in _ (by omega)
      have hws2 : IntKind.i64.wrap (gp - s1 % 9) = gp - s1 % 9 := IntWalk.i64_in _ (by omega)
      go_wp2_with fail
      as_aux_lemma =>
      go_region
      have hR10 : ((wr.setCell ⟨BR, 0, none⟩ (.int .i64 (max 0 (dust - s0 % 9)))).setCell ⟨BR, 7, none⟩ (.int .i64 (max 1 (gp - s1 % 9)))).drew.heap[BR]? = some (.cells #[.int .i64 (max 0 (dust - s0 % 9)), .bool q1, .slice a1 n1 k1, .slice a2 n2 k2, .bool q2, .slice a3 n3 k3, .slice a4 n4 k4, .int .i64 (max 1 (gp - s1 % 9))] 53 (0, 0)) := by exact blk_set (blk_set hRr 0 _) 7 _
      have hx10 : Below BR w2 ((wr.setCell ⟨BR, 0, none⟩ (.int .i64 (max 0 (dust - s0 % 9)))).setCell ⟨BR, 7, none⟩ (.int .i64 (max 1 (gp - s1 % 9)))).drew := ((HAr.out.setCell (p := ⟨BR, 0, none⟩) (Nat.le_refl _) _).setCell (p := ⟨BR, 7, none⟩) (Nat.le_refl _) _).drew
      have HVA10 : Hid (PairsOf ((wr.setCell ⟨BR, 0, none⟩ (.int .i64 (max 0 (dust - s0 % 9)))).setCell ⟨BR, 7, none⟩ (.int .i64 (max 1 (gp - s1 % 9)))).drew (.slice aov L.length capv) L) := HVAr.out.off HRB.out (fun b _ hne => by
       show ((wr.setCell _ _).setCell _ _).heap[b]? = _
       rw [heap_setCell_other _ ⟨BR, 7, none⟩ b _ hne, heap_setCell_other _ ⟨BR, 0, none⟩ b _ hne]) (by simp [World.setCell])
      have hD0 : max 0 (dust - s0 % 9) ≤ dust := by omega
      have hG0 : max 1 (gp - s1 % 9) ≤ gp := by omega
      have hG1 : 1 ≤ max 1 (gp - s1 % 9) := by omega
      clear m0 m7 fz0 fz7 p0 p1 hws1 hws2 hRr hSr HVAr HAr HRB hbel
      as_aux_lemma =>
      generalize ((wr.setCell ⟨BR, 0, none⟩ (.int .i64 (max 0 (dust - s0 % 9)))).setCell ⟨BR, 7, none⟩ (.int .i64 (max 1 (gp - s1 % 9)))).drew = W10 at *
      generalize max 0 (dust - s0 % 9) = D2 at *
      generalize max 1 (gp - s1 % 9) = G2 at *
      have hS10 := blk_keep HSw.out hx10 HSl2.out
      have hRl10 := blk_lt hR10
      have hx2 : Below w2.heap.size w2 W10 := by rw [HBReq.out]; exact hx10
      have HX10 := Lib.hid (HXw.out.below hx2)
      have HY10 := Lib.hid (HYw.out.below hx2)
      as_aux_lemma =>
      have HA10 := Lib.hid (HAw.out.below hx2)
      have HN3 : Hid (∀ W, Calls Try.prog 11 #[.int .i64 (s2 % 5)] W (RetRat ((s2 % 5 : Int) : Rat) W)) := fun W => num36_any _ W (by omega) (by omega)
      have c1' : W10.drew.cell? ⟨BR, 1, none⟩ = some (.bool q1) := blk_cell hR10 1 _ rfl
      have c2' : W10.drew.cell? ⟨BR, 2, none⟩ = some (.slice a1 n1 k1) := blk_cell hR10 2 _ rfl
      have c3' : W10.drew.cell? ⟨BR, 3, none⟩ = some (.slice a2 n2 k2) := blk_cell hR10 3 _ rfl
      have c4' : W10.drew.cell? ⟨B0, 2, none⟩ = some (.int .u8 s2) := blk_cell hS10 2 _ rfl
      have hBl10 := blk_lt hS10
      have hZZ := (Below.refl W10.heap.size W10).alloc (Nat.le_refl _) (.cells #[.bool false, .slice none 0 0, .slice none 0 0] 40)
      as_aux_lemma =>
      have d1' : (W10.alloc (.cells #[.bool false, .slice none 0 0, .slice none 0 0] 40)).drew.cell? ⟨BR, 1, none⟩ = some (.bool q1) := blk_cell (blk_keep hR10 hZZ hRl10) 1 _ rfl
      have d2' : (W10.alloc (.cells #[.bool false, .slice none 0 0, .slice none 0 0] 40)).drew.cell? ⟨BR, 2, none⟩ = some (.slice a1 n1 k1) := blk_cell (blk_keep hR10 hZZ hRl10) 2 _ rfl
      have d3' : (W10.alloc (.cells #[.bool false, .slice none 0 0, .slice none 0 0] 40)).drew.cell? ⟨BR, 3, none⟩ = some (.slice a2 n2 k2) := blk_cell (blk_keep hR10 hZZ hRl10) 3 _ rfl
      have d4' : (W10.alloc (.cells #[.bool false, .slice none 0 0, .slice none 0 0] 40)).drew.cell? ⟨B0, 2, none⟩ = some (.int .u8 s2) := blk_cell (blk_keep hS10 hZZ hBl10) 2 _ rfl
      clear hZZ
      have hds : W10.drew.heap.size = W10.heap.size := rfl
      have HDS := Lib.hid hds
      clear hds hx2
      go_upto_region 38 with fail
      go_cut [29] from 222 to 230 (fun s wx => SumBox W10 X2 s wx)
      case first =>
       as_aux_lemma =>
       have hS2r : s2 % 5 < 5 := by omega
       have hS2p : 0 ≤ s2 % 5 := by omega
       have ht5 : s2.tmod 5 = s2 % 5 := Int.tmod_eq_emod_of_nonneg s20
       have hw5 : IntKind.u8.wrap (s2 % 5) = s2 % 5 := by rw [IntKind.wrap_u8]; omega
       have hw6 : IntKind.i64.wrap (s2 % 5) = s2 % 5 := IntWalk.i64_in _ (by omega)
       go_region_held3 (fun w' => Below W10.heap.size W10 w' ∧ w'.cell? ⟨BR, 1, none⟩ = some (.bool q1) ∧ w'.cell? ⟨BR, 2, none⟩ = some (.slice a1 n1 k1) ∧ w'.cell? ⟨BR, 3, none⟩ = some (.slice a2 n2 k2) ∧ w'.cell? ⟨B0, 2, none⟩ = some (.int .u8 s2))
        (first | exact ⟨(Below.refl _ _).drew, c1', c2', c3', c4'⟩ | exact ⟨((Below.refl _ _).alloc (Nat.le_refl _) _).drew, d1', d2', d3', d4'⟩ | assumption | (refine keepB4 (Nat.le_refl _) hbB ?_; assumption) | (refine keepB4 (Nat.le_refl _) hbA ?_; assumption) | (refine keepB4 (Nat.le_refl _) ((Below.refl _ _).alloc (Nat.le_refl _) _) ?_; assumption) | exact keepB4a hWB (by omega) (by omega) (by assumption) | (refine keepB4s hNN (by omega) (by omega) (by assumption) _ rfl))
        (first
         | (go_at_call 11; refine (HN3.out _).mono ?_; rintro e wA ⟨vN, rfl, hvN, hbA⟩; obtain ⟨a7, k7, a8, k8, rfl, _, _⟩ := hvN.opened; have HVN := Lib.hid hvN; (first | (with_reducible have HNA := Lib.hid (boxkeepD hbA)) | (with_reducible have HNA := Lib.hid (boxkeep hbA)) | skip); clear hvN)
         | (go_at_call 15; (refine (addRat_any X ((s2 % 5 : Int) : Rat) _ _ _ (HX10.out.below (And.left (by assumption))) (by first | exact HVN.out | exact HVN.out.below ((Below.refl _ _).alloc (Nat.le_refl _) _)) HSX.out HSS2.out).mono ?_); rintro e wB ⟨vS, rfl, hvS, hbB⟩; obtain ⟨a9, k9, a10, k10, rfl, _, _⟩ := hvS.opened; have HVS := Lib.hid hvS; clear hvS; (have hWB : W10.heap.size ≤ wB.heap.size := by have q1 := hbA.size; have q2 := hbB.size; simp at q1 q2; omega); (first | ((with_reducible have hNB := boxkeep hbB); have hNN : W10.heap.size ≤ wA.heap.size := hbA.size) | (have hNB := blk_keep HNA.out hbB (blk_lt HNA.out); have hNN : W10.heap.size ≤ W10.heap.size := Nat.le_refl _) | skip); (try (have n0 := blk_cell hNB 0 _ rfl; have n1 := blk_cell hNB 1 _ rfl; have n2 := blk_cell hNB 2 _ rfl; have f0 := blk_frozen hNB 0; have f1 := blk_frozen hNB 1; have f2 := blk_frozen hNB 2))))
       all_goals
        rename_i hS
        have hbS := hS.1
        clear hS
        go_wp2_with fail
        go_meet
        rw [← Hsum.out]
        first | exact SumBox.of_alloc hbS hWB HVS.out | exact SumBox.of_set hbS hNN hNB HVS.out
      case rest =>
       as_aux_lemma =>
       obtain ⟨N, b7, x7, i7, j7, y7, k7, l7, T7, rfl, hN, hbc, hNB, hvN⟩ := hcut
       have HVN := Lib.hid hvN
       have hRc := blk_keep hR10 hbc hRl10
       have HVAc := Lib.hid (HVA10.out.below hbc)
       have hxc := hx10.trans (hbc.mono (Nat.le_of_lt hRl10))
       have HYc := Lib.hid (HY10.out.below hbc)
       have nn0 := blk_cell hNB 0 _ rfl
       have nn1 := blk_cell hNB 1 _ rfl
       as_aux_lemma =>
       have nn2 := blk_cell hNB 2 _ rfl
       have q4 := blk_cell hRc 4 (.bool q2) rfl
       have q5 := blk_cell hRc 5 (.slice a3 n3 k3) rfl
       have q6 := blk_cell hRc 6 (.slice a4 n4 k4) rfl
       have hRlc := blk_lt hRc
       have hNlc := blk_lt hNB
       have hneN : N ≠ BR := by omega
       clear hvN c1' c2' c3' c4' d1' d2' d3' d4' HVA10 hbc hS10
       as_aux_lemma =>
       go_wp2_with fail
       refine (cmpRat_any X2 Y _ _ _ HVN.out HYc.out HBX2.out HBY.out).mono ?_
       rintro e wd ⟨rfl, hbd⟩
       have hRd := blk_keep hRc hbd hRlc
       have hNd := blk_keep hNB hbd hNlc
       have HVAd := Lib.hid (HVAc.out.below hbd)
       have hbd0 := hbd
       have hxd := hxc.trans (hbd.mono (Nat.le_of_lt hRlc))
       as_aux_lemma =>
       have HRBd : Hid (RuleBox wd BR D2 q1 a1 n1 k1 a2 n2 k2 q2 a3 n3 k3 a4 n4 k4 G2) := ⟨_, hRd⟩
       have HG2 : Hid (gapB G2 = true) := by show _ = _; unfold gapB; rw [decide_eq_true (by omega), decide_eq_true (by omega)]; rfl
       clear nn0 nn1 nn2 q4 q5 q6 hRc hNB HVAc HYc HX10 HY10 HA10 hbd hx10
       by_cases hc : cmpR X2 Y ≤ 0
       ·
        as_aux_lemma =>
        have tc : decide (cmpR X2 Y ≤ 0) = true := decide_eq_true hc
        have HXY3 := Lib.hid hc
        have Hstr : Hid (∀ i, joinB xs D2 G2 X2 Y i = true → joinB xs dust gp X Y i = true) := fun i h => strict_join hD0 hG0 Hlx.out i h
        clear hc
        generalize cmpR X2 Y = cc at tc ⊢
        have nn0 := blk_cell hNd 0 _ rfl
        have nn1 := blk_cell hNd 1 _ rfl
        have nn2 := blk_cell hNd 2 _ rfl
        as_aux_lemma =>
        have m1 := blk_cell hRd 1 _ rfl
        have m2 := blk_cell hRd 2 _ rfl
        have m3 := blk_cell hRd 3 _ rfl
        have z1 := blk_frozen hRd 1
        have z2 := blk_frozen hRd 2
        have z3 := blk_frozen hRd 3
        have HVNd := Lib.hid (HVN.out.below hbd0)
        clear hbd0
        as_aux_lemma =>
        go_upto_region 41 with fail
        have hR5a := blk_set hRd 1 (.bool b7)
        have hR5b := blk_set hR5a 2 (.slice x7 i7 j7)
        have hR5 : ((((wd.setCell ⟨BR, 1, none⟩ (.bool b7)).setCell ⟨BR, 2, none⟩ (.slice x7 i7 j7)).setCell ⟨BR, 3, none⟩ (.slice y7 k7 l7))).heap[BR]? = some (.cells #[.int .i64 D2, .bool b7, .slice x7 i7 j7, .slice y7 k7 l7, .bool q2, .slice a3 n3 k3, .slice a4 n4 k4, .int .i64 G2] 53 (0, 0)) := by exact blk_set hR5b 3 _
        have HX5 := Lib.hid (((HVNd.out.setp hRd (by rfl) 1 (.bool b7)).setp hR5a (by rfl) 2 (.slice x7 i7 j7)).setp hR5b (by rfl) 3 (.slice y7 k7 l7))
        have hx5a : Below BR w2 ((((wd.setCell ⟨BR, 1, none⟩ (.bool b7)).setCell ⟨BR, 2, none⟩ (.slice x7 i7 j7)).setCell ⟨BR, 3, none⟩ (.slice y7 k7 l7))) := ((hxd.setCell (p := ⟨BR, 1, none⟩) (Nat.le_refl _) _).setCell (p := ⟨BR, 2, none⟩) (Nat.le_refl _) _).setCell (p := ⟨BR, 3, none⟩) (Nat.le_refl _) _
        have HVA5 : Hid (PairsOf ((((wd.setCell ⟨BR, 1, none⟩ (.bool b7)).setCell ⟨BR, 2, none⟩ (.slice x7 i7 j7)).setCell ⟨BR, 3, none⟩ (.slice y7 k7 l7))) (.slice aov L.length capv) L) := HVAd.out.off HRBd.out (fun b _ hne => by
         show (((wd.setCell _ _).setCell _ _).setCell _ _).heap[b]? = _
         rw [heap_setCell_other _ ⟨BR, 3, none⟩ b _ hne, heap_setCell_other _ ⟨BR, 2, none⟩ b _ hne, heap_setCell_other _ ⟨BR, 1, none⟩ b _ hne]) (by simp [World.setCell])
        clear nn0 nn1 nn2 m1 m2 m3 z1 z2 z3 hRd hNd HVNd hR5a hR5b HVAd HRBd hxd
        as_aux_lemma =>
        generalize ((((wd.setCell ⟨BR, 1, none⟩ (.bool b7)).setCell ⟨BR, 2, none⟩ (.slice x7 i7 j7)).setCell ⟨BR, 3, none⟩ (.slice y7 k7 l7))) = W5 at *
        have hxd2 : Below w2.heap.size w2 W5 := by rw [HBReq.out]; exact hx5a
        have HY5 := Lib.hid (HYw.out.below hxd2)
        have HA5 := Lib.hid (HAw.out.below hxd2)
        have hx5 : Below w.heap.size w W5 := HWw.out.trans (hxd2.mono (by rw [HBReq.out]; exact HBR'.out))
        have m0 := blk_cell hR5 0 (.int .i64 D2) rfl
        have m1 := blk_cell hR5 1 (.bool b7) rfl
        have m2 := blk_cell hR5 2 (.slice x7 i7 j7) rfl
        as_aux_lemma =>
        have m3 := blk_cell hR5 3 (.slice y7 k7 l7) rfl
        have m4 := blk_cell hR5 4 (.bool q2) rfl
        have m5 := blk_cell hR5 5 (.slice a3 n3 k3) rfl
        have m6 := blk_cell hR5 6 (.slice a4 n4 k4) rfl
        have m7 := blk_cell hR5 7 (.int .i64 G2) rfl
        clear hR5 hx5a hxd2
        have hWok := Hok.out G2 X2 Y HG2.out HXY3.out
        have HwL : workL xs D2 G2 X2 Y = workTo xs D2 G2 X2 Y xs.length := by unfold workL; rw [if_pos hWok]
        as_aux_lemma =>
        go_wp2_with fail
        refine (working_any xs D2 G2 X2 Y _ _ _ _ _ _ _ _ HA5.out HX5.out HY5.out HBX2.out HBY.out).mono ?_
        rintro e w9 ⟨vb, rfl, hvb, hb9⟩
        rw [hWok]
        rw [HwL] at hvb
        have HVB := Lib.hid hvb
        obtain ⟨aob, capb, rfl, _⟩ := hvb
        have HVA9 := Lib.hid (HVA5.out.below hb9)
        as_aux_lemma =>
        have hx9 := hx5.trans (hb9.mono hx5.size)
        have HIN : Hid (∀ k, k < (workTo xs D2 G2 X2 Y xs.length).length → inTo L ((workTo xs D2 G2 X2 Y xs.length).getD k (0, 0)) L.length = true) := fun k hk => by
         obtain ⟨m, hm, h1, h2⟩ := work_in Hasc.out Hstr.out k hk
         rw [HLW.out] at hm h1 h2
         exact inTo_of hm h1 h2
        have hMl := workTo_length xs D2 G2 X2 Y xs.length
        generalize workTo xs D2 G2 X2 Y xs.length = M at *
        have hMl2 : M.length ≤ 20 := by omega
        clear hMl HwL hWok hb9 HVA5 HA5 HX5 HY5 hx5
        go_wp2_with fail
        go_loopw [248] (fun iv wr => ∃ (i : Nat), i ≤ M.length ∧ iv = .int .i64 i ∧ Below w9.heap.size w9 wr) (fun iv _ => M.length - (intOf iv).toNat)
        case atStart => exact ⟨0, Nat.zero_le _, rfl, Below.refl _ _⟩
        case round =>
         as_aux_lemma =>
         obtain ⟨i, hi, rfl, hbel⟩ := hrel
         by_cases hlt : i < M.length
         ·
          as_aux_lemma =>
          have hlt' : (i : Int) < M.length := by omega
          have hge' : (0 : Int) ≤ i := by omega
          obtain ⟨ao', cap', ea, hVE⟩ := HVB.out
          simp only [Value.slice.injEq, true_and] at ea
          obtain ⟨rfl, rfl⟩ := ea
          obtain ⟨bs, offs, rfl, hbs, hSS⟩ := hVE (by omega)
          obtain ⟨v0, v1⟩ := (hSS i hlt).below hbel hbs
          have hbs2 : bs < wr.heap.size := Nat.lt_of_lt_of_le hbs hbel.size
          as_aux_lemma =>
          have hin := HIN.out i hlt
          clear hSS hVE
          generalize M.getD i (0, 0) = sp at *
          obtain ⟨f, u⟩ := sp
          dsimp only at v0 v1
          have Hin := Lib.hid hin
          have hSB := blk_new wr #[.int .i64 f, .int .i64 u] 58
          have hxS := (Below.refl wr.heap.size wr).alloc (Nat.le_refl _) (.cells #[.int .i64 f, .int .i64 u] 58)
          as_aux_lemma =>
          have hxb := below_join hbel hxS
          clear hin
          go_wp2_with fail
          have hSBl := blk_lt hSB
          clear hxS hbel v0 v1 hbs2
          generalize (wr.alloc (.cells #[.int .i64 f, .int .i64 u] 58)) = WA at *
          generalize wr.heap.size = BS at *
          go_loopw [33, 254] (fun nv kv wq => ∃ (k : Nat), k ≤ L.length ∧ kv = .int .i64 k ∧ nv = .bool (inTo L (f, u) k) ∧ Below WA.heap.size WA wq) (fun _ kv _ => L.length - (intOf kv).toNat)
          case atStart => exact ⟨0, Nat.zero_le _, rfl, rfl, Below.refl _ _⟩
          case round =>
           as_aux_lemma =>
           obtain ⟨k, hk, rfl, rfl, hbq⟩ := hrel
           have hxq := below_join hxb hbq
           by_cases hlk : k < L.length
           ·
            as_aux_lemma =>
            obtain ⟨ao', cap', ea, hAE⟩ := HVA9.out
            simp only [Value.slice.injEq, true_and] at ea
            obtain ⟨rfl, rfl⟩ := ea
            obtain ⟨b, off, rfl, hbl, hLL⟩ := hAE (by omega)
            obtain ⟨g0', g1'⟩ := (hLL k hlk).below hxq hbl
            have hlk' : (k : Int) < L.length := by omega
            have hgk' : (0 : Int) ≤ k := by omega
            have hbl2 : b < wr.heap.size := Nat.lt_of_lt_of_le hbl hxq.size
            as_aux_lemma =>
            have Hi1 : Hid (inTo L (f, u) (k + 1) = (inTo L (f, u) k || (decide ((L.getD k (0, 0)).1 ≤ f) && decide (u ≤ (L.getD k (0, 0)).2)))) := rfl
            clear hLL hAE
            generalize (L.getD k (0, 0)).1 = lf at *
            generalize (L.getD k (0, 0)).2 = lu at *
            generalize inTo L (f, u) k = ink at *
            have hSBq := blk_keep hSB hbq hSBl
            have hxT := (Below.refl wr.heap.size wr).alloc (Nat.le_refl _) (.cells #[.int .i64 lf, .int .i64 lu] 58)
            have hsf1 : (wr.alloc (.cells #[.int .i64 lf, .int .i64 lu] 58)).cell? ⟨BS, 0, none⟩ = some (.int .i64 f) := blk_cell (blk_keep hSBq hxT (blk_lt hSBq)) 0 _ rfl
            have hsf2 : (wr.alloc (.cells #[.int .i64 lf, .int .i64 lu] 58)).cell? ⟨BS, 1, none⟩ = some (.int .i64 u) := blk_cell (blk_keep hSBq hxT (blk_lt hSBq)) 1 _ rfl
            have hxU := below_join hbq hxT
            cases ink with
            | true =>
             have Hi2 : Hid (inTo L (f, u) (k + 1) = true) := by show _ = _; rw [Hi1.out]; rfl
             go_wp2_with fail
             exact ⟨⟨k + 1, by omega, by go_num, by rw [Hi2.out], hxU⟩, meas_up hlk⟩
            | false =>
             as_aux_lemma =>
             by_cases h1 : lf ≤ f
             ·
              as_aux_lemma =>
              have t1 : decide (lf ≤ f) = true := decide_eq_true h1
              by_cases h2 : u ≤ lu
              ·
               have t2 : decide (u ≤ lu) = true := decide_eq_true h2
               have Hi2 : Hid (inTo L (f, u) (k + 1) = true) := by show _ = _; rw [Hi1.out, t1, t2]; rfl
               clear h1 h2
               go_wp2_with fail
               exact ⟨⟨k + 1, by omega, by go_num, by rw [Hi2.out], hxU⟩, meas_up hlk⟩
              ·
               have t2 : decide (u ≤ lu) = false := decide_eq_false h2
               have Hi2 : Hid (inTo L (f, u) (k + 1) = false) := by show _ = _; rw [Hi1.out, t1, t2]; rfl
               clear h1 h2
               go_wp2_with fail
               exact ⟨⟨k + 1, by omega, by go_num, by rw [Hi2.out], hxU⟩, meas_up hlk⟩
             ·
              have t1 : decide (lf ≤ f) = false := decide_eq_false h1
              have Hi2 : Hid (inTo L (f, u) (k + 1) = false) := by show _ = _; rw [Hi1.out, t1]; rfl
              clear h1
              go_wp2_with fail
              exact ⟨⟨k + 1, by omega, by go_num, by rw [Hi2.out], hxU⟩, meas_up hlk⟩
           ·
            obtain rfl : k = L.length := by omega
            rw [Hin.out]
            go_wp2_with fail
            exact ⟨⟨i + 1, by omega, by go_num, hxq⟩, meas_up hlt⟩
         ·
          obtain rfl : i = M.length := by omega
          go_wp2_with fail
          refine (awake_any _).mono ?_
          rintro e wZ ⟨rfl, hbZ⟩
          go_wp2_with fail
          go_ret
          exact ⟨rfl, (hx9.trans (hbel.mono hx9.size)).trans (hbZ.mono (Nat.le_trans hx9.size hbel.size))⟩
       ·
        as_aux_lemma =>
        have tc : decide (cmpR X2 Y ≤ 0) = false := decide_eq_false hc
        clear hbd0
        have HXY3 := HXY
        have Hstr : Hid (∀ i, joinB xs D2 G2 X Y i = true → joinB xs dust gp X Y i = true) := fun i h => strict_join hD0 hG0 (Rat.le_refl) i h
        clear hc
        generalize cmpR X2 Y = cc at *
        have hxd2 : Below w2.heap.size w2 wd := by rw [HBReq.out]; exact hxd
        have HX5 := Lib.hid (HXw.out.below hxd2)
        as_aux_lemma =>
        have HY5 := Lib.hid (HYw.out.below hxd2)
        have HA5 := Lib.hid (HAw.out.below hxd2)
        have HVA5 := HVAd
        have hx5 : Below w.heap.size w wd := HWw.out.trans (hxd2.mono (by rw [HBReq.out]; exact HBR'.out))
        have m0 := blk_cell hRd 0 (.int .i64 D2) rfl
        have m1 := blk_cell hRd 1 (.bool q1) rfl
        have m2 := blk_cell hRd 2 (.slice a1 n1 k1) rfl
        have m3 := blk_cell hRd 3 (.slice a2 n2 k2) rfl
        as_aux_lemma =>
        have m4 := blk_cell hRd 4 (.bool q2) rfl
        have m5 := blk_cell hRd 5 (.slice a3 n3 k3) rfl
        have m6 := blk_cell hRd 6 (.slice a4 n4 k4) rfl
        have m7 := blk_cell hRd 7 (.int .i64 G2) rfl
        clear hRd hNd HVAd hxd hxd2 HRBd
        have hWok := Hok.out G2 X Y HG2.out HXY3.out
        have HwL : workL xs D2 G2 X Y = workTo xs D2 G2 X Y xs.length := by unfold workL; rw [if_pos hWok]
        go_wp2_with fail
        as_aux_lemma =>
        refine (working_any xs D2 G2 X Y _ _ _ _ _ _ _ _ HA5.out HX5.out HY5.out HBX.out HBY.out).mono ?_
        rintro e w9 ⟨vb, rfl, hvb, hb9⟩
        rw [hWok]
        rw [HwL] at hvb
        have HVB := Lib.hid hvb
        obtain ⟨aob, capb, rfl, _⟩ := hvb
        have HVA9 := Lib.hid (HVA5.out.below hb9)
        have hx9 := hx5.trans (hb9.mono hx5.size)
        as_aux_lemma =>
        have HIN : Hid (∀ k, k < (workTo xs D2 G2 X Y xs.length).length → inTo L ((workTo xs D2 G2 X Y xs.length).getD k (0, 0)) L.length = true) := fun k hk => by
         obtain ⟨m, hm, h1, h2⟩ := work_in Hasc.out Hstr.out k hk
         rw [HLW.out] at hm h1 h2
         exact inTo_of hm h1 h2
        have hMl := workTo_length xs D2 G2 X Y xs.length
        generalize workTo xs D2 G2 X Y xs.length = M at *
        have hMl2 : M.length ≤ 20 := by omega
        clear hMl HwL hWok hb9 HVA5 HA5 HX5 HY5 hx5
        go_wp2_with fail
        go_loopw [248] (fun iv wr => ∃ (i : Nat), i ≤ M.length ∧ iv = .int .i64 i ∧ Below w9.heap.size w9 wr) (fun iv _ => M.length - (intOf iv).toNat)
        case atStart => exact ⟨0, Nat.zero_le _, rfl, Below.refl _ _⟩
        case round =>
         as_aux_lemma =>
         obtain ⟨i, hi, rfl, hbel⟩ := hrel
         by_cases hlt : i < M.length
         ·
          as_aux_lemma =>
          have hlt' : (i : Int) < M.length := by omega
          have hge' : (0 : Int) ≤ i := by omega
          obtain ⟨ao', cap', ea, hVE⟩ := HVB.out
          simp only [Value.slice.injEq, true_and] at ea
          obtain ⟨rfl, rfl⟩ := ea
          obtain ⟨bs, offs, rfl, hbs, hSS⟩ := hVE (by omega)
          obtain ⟨v0, v1⟩ := (hSS i hlt).below hbel hbs
          have hbs2 : bs < wr.heap.size := Nat.lt_of_lt_of_le hbs hbel.size
          as_aux_lemma =>
          have hin := HIN.out i hlt
          clear hSS hVE
          generalize M.getD i (0, 0) = sp at *
          obtain ⟨f, u⟩ := sp
          dsimp only at v0 v1
          have Hin := Lib.hid hin
          have hSB := blk_new wr #[.int .i64 f, .int .i64 u] 58
          have hxS := (Below.refl wr.heap.size wr).alloc (Nat.le_refl _) (.cells #[.int .i64 f, .int .i64 u] 58)
          as_aux_lemma =>
          have hxb := below_join hbel hxS
          clear hin
          go_wp2_with fail
          have hSBl := blk_lt hSB
          clear hxS hbel v0 v1 hbs2
          generalize (wr.alloc (.cells #[.int .i64 f, .int .i64 u] 58)) = WA at *
          generalize wr.heap.size = BS at *
          go_loopw [33, 254] (fun nv kv wq => ∃ (k : Nat), k ≤ L.length ∧ kv = .int .i64 k ∧ nv = .bool (inTo L (f, u) k) ∧ Below WA.heap.size WA wq) (fun _ kv _ => L.length - (intOf kv).toNat)
          case atStart => exact ⟨0, Nat.zero_le _, rfl, rfl, Below.refl _ _⟩
          case round =>
           as_aux_lemma =>
           obtain ⟨k, hk, rfl, rfl, hbq⟩ := hrel
           have hxq := below_join hxb hbq
           by_cases hlk : k < L.length
           ·
            as_aux_lemma =>
            obtain ⟨ao', cap', ea, hAE⟩ := HVA9.out
            simp only [Value.slice.injEq, true_and] at ea
            obtain ⟨rfl, rfl⟩ := ea
            obtain ⟨b, off, rfl, hbl, hLL⟩ := hAE (by omega)
            obtain ⟨g0', g1'⟩ := (hLL k hlk).below hxq hbl
            have hlk' : (k : Int) < L.length := by omega
            have hgk' : (0 : Int) ≤ k := by omega
            have hbl2 : b < wr.heap.size := Nat.lt_of_lt_of_le hbl hxq.size
            as_aux_lemma =>
            have Hi1 : Hid (inTo L (f, u) (k + 1) = (inTo L (f, u) k || (decide ((L.getD k (0, 0)).1 ≤ f) && decide (u ≤ (L.getD k (0, 0)).2)))) := rfl
            clear hLL hAE
            generalize (L.getD k (0, 0)).1 = lf at *
            generalize (L.getD k (0, 0)).2 = lu at *
            generalize inTo L (f, u) k = ink at *
            have hSBq := blk_keep hSB hbq hSBl
            have hxT := (Below.refl wr.heap.size wr).alloc (Nat.le_refl _) (.cells #[.int .i64 lf, .int .i64 lu] 58)
            have hsf1 : (wr.alloc (.cells #[.int .i64 lf, .int .i64 lu] 58)).cell? ⟨BS, 0, none⟩ = some (.int .i64 f) := blk_cell (blk_keep hSBq hxT (blk_lt hSBq)) 0 _ rfl
            have hsf2 : (wr.alloc (.cells #[.int .i64 lf, .int .i64 lu] 58)).cell? ⟨BS, 1, none⟩ = some (.int .i64 u) := blk_cell (blk_keep hSBq hxT (blk_lt hSBq)) 1 _ rfl
            have hxU := below_join hbq hxT
            cases ink with
            | true =>
             have Hi2 : Hid (inTo L (f, u) (k + 1) = true) := by show _ = _; rw [Hi1.out]; rfl
             go_wp2_with fail
             exact ⟨⟨k + 1, by omega, by go_num, by rw [Hi2.out], hxU⟩, meas_up hlk⟩
            | false =>
             as_aux_lemma =>
             by_cases h1 : lf ≤ f
             ·
              as_aux_lemma =>
              have t1 : decide (lf ≤ f) = true := decide_eq_true h1
              by_cases h2 : u ≤ lu
              ·
               have t2 : decide (u ≤ lu) = true := decide_eq_true h2
               have Hi2 : Hid (inTo L (f, u) (k + 1) = true) := by show _ = _; rw [Hi1.out, t1, t2]; rfl
               clear h1 h2
               go_wp2_with fail
               exact ⟨⟨k + 1, by omega, by go_num, by rw [Hi2.out], hxU⟩, meas_up hlk⟩
              ·
               have t2 : decide (u ≤ lu) = false := decide_eq_false h2
               have Hi2 : Hid (inTo L (f, u) (k + 1) = false) := by show _ = _; rw [Hi1.out, t1, t2]; rfl
               clear h1 h2
               go_wp2_with fail
               exact ⟨⟨k + 1, by omega, by go_num, by rw [Hi2.out], hxU⟩, meas_up hlk⟩
             ·
              have t1 : decide (lf ≤ f) = false := decide_eq_false h1
              have Hi2 : Hid (inTo L (f, u) (k + 1) = false) := by show _ = _; rw [Hi1.out, t1]; rfl
              clear h1
              go_wp2_with fail
              exact ⟨⟨k + 1, by omega, by go_num, by rw [Hi2.out], hxU⟩, meas_up hlk⟩
           ·
            obtain rfl : k = L.length := by omega
            rw [Hin.out]
            go_wp2_with fail
            exact ⟨⟨i + 1, by omega, by go_num, hxq⟩, meas_up hlt⟩
         ·
          obtain rfl : i = M.length := by omega
          go_wp2_with fail
          refine (awake_any _).mono ?_
          rintro e wZ ⟨rfl, hbZ⟩
          go_wp2_with fail
          go_ret
          exact ⟨rfl, (hx9.trans (hbel.mono hx9.size)).trans (hbZ.mono (Nat.le_trans hx9.size hbel.size))⟩

end Go.Proofs.Ytanmcbbnnjamoaa
