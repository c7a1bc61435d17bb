/- Part d of the lemmas and walks. -/
import Derived.Laws.FloatArith
import Derived.Test.YtmfochplnchgcaaGa
import Derived.Test.YtmfochplnchgcaaGc

/- THE WALKS OF THE REFERENCE's FRACTIONS: Add. -/
namespace Go.Proofs.Ytmfochplnchgcaa
open Go.RowKit

theorem mkQ_add (x y : Rat) (s : Bool) (n : Nat) (h : sg s n = sg (decide (x.num < 0)) (x.num.natAbs * y.den) + sg (decide (y.num < 0)) (y.num.natAbs * x.den)) : mkQ s n (x.den * y.den) = x + y := by
  unfold mkQ
  rw [h, Rat.add_def, Rat.normalize_eq_mkRat]
  have e : ∀ (b : Bool) (m k : Nat), sg b (m * k) = sg b m * (k : Int) := fun b m k => by cases b <;> simp [sg, Int.neg_mul]
  rw [e, e, sg_self, sg_self]
theorem sg_add (s : Bool) (m n : Nat) : sg s (m + n) = sg s m + sg s n := by
  cases s <;> simp [sg] <;> omega
theorem sg_sub {s t : Bool} (h : (s == t) = false) {m n : Nat} (hle : n ≤ m) : sg s (m - n) = sg s m + sg t n := by
  cases s <;> cases t <;> simp [sg] at h ⊢ <;> omega

end Go.Proofs.Ytmfochplnchgcaa

/- THE WALKS OF THE REFERENCE's FRACTIONS: Sub, Cmp, two. -/
namespace Go.Proofs.Ytmfochplnchgcaa
open Go.RowKit

theorem sgnQ_sub (x y : Rat) : sgnQ (x - y) = cmpR x y := by
  unfold cmpR
  rcases sgnQ_cases (x - y) with ⟨h, e⟩ | ⟨h, e⟩ | ⟨h, e⟩
  · have h1 : x - y < 0 := by rw [Rat.lt_iff]; simpa using h
    rw [e, if_pos (by grind)]
  · have h1 : x - y = 0 := Rat.num_eq_zero.1 h
    rw [e, if_neg (by grind), if_neg (by grind)]
  · have h1 : 0 < x - y := by rw [Rat.lt_iff]; simpa using h
    rw [e, if_neg (by grind), if_pos (by grind)]

/-- A power of two: 2^a over 2^b, one of which is 1. -/
def pw2 (a b : Nat) : Rat := mkQ false (2 ^ a) (2 ^ b)
theorem pw2_neg (b : Nat) : (pw2 0 b).num.natAbs = 1 ∧ (pw2 0 b).den = 2 ^ b ∧ decide ((pw2 0 b).num < 0) = false := by
  unfold pw2
  rw [mkQ_num _ _ _ (Nat.two_pow_pos b), mkQ_den _ _ _ (Nat.two_pow_pos b), mkQ_neg _ _ _ (Nat.two_pow_pos b) (by simp)]
  simp
theorem pw2_pos (a : Nat) : (pw2 a 0).num.natAbs = 2 ^ a ∧ (pw2 a 0).den = 1 ∧ decide ((pw2 a 0).num < 0) = false := by
  unfold pw2
  rw [mkQ_num _ _ _ (Nat.two_pow_pos 0), mkQ_den _ _ _ (Nat.two_pow_pos 0), mkQ_neg _ _ _ (Nat.two_pow_pos 0) (by have := Nat.two_pow_pos a; omega)]
  simp

end Go.Proofs.Ytmfochplnchgcaa

/- THE WALKS OF math.IsNaN, Abs, IsInf. -/
namespace Go.Proofs.Ytmfochplnchgcaa
open Go.RowKit

theorem bits_andNot_sign (b : Nat) (hb : b < b64) : bits .andNot .u64 (b : Int) 9223372036854775808 = ((b % sgnW : Nat) : Int) := by
  unfold b64 at hb
  have h := u64_andNot_nat b 9223372036854775808 (by omega) (by omega)
  have e : b &&& (18446744073709551615 - 9223372036854775808) = b % sgnW := by
    unfold sgnW
    exact Nat.and_two_pow_sub_one_eq_mod b 63
  rw [e] at h
  exact h

/-- The parts of a float64's bits. -/
def fE (b : Nat) : Nat := b / bin52 % 2048
def fM0 (b : Nat) : Nat := b % bin52
def fM (b : Nat) : Nat := if fE b = 0 then fM0 b else fM0 b + bin52
def fE1 (b : Nat) : Nat := if fE b = 0 then 1 else fE b
def fS (b : Nat) : Bool := decide (b / sgnW = 1)
/-- The exact value of a float64's bits (of a finite number). -/
def fval (b : Nat) : Rat := mkQ (fS b) (fM b * 2 ^ (fE1 b - 1075)) (2 ^ (1075 - fE1 b))

theorem fE_2047 (b : Nat) (hb : b < b64) : fE b = 2047 ↔ infR ≤ b % sgnW := by
  unfold fE infR sgnW bin52
  unfold b64 at hb
  omega

theorem bits_m0 (b : Nat) (hb : b < b64) : bits .and .u64 (b : Int) 4503599627370495 = ((fM0 b : Nat) : Int) := by
  have h := bits_and_nat b 4503599627370495 hb (by unfold b64; omega)
  have e : b &&& 4503599627370495 = fM0 b := Nat.and_two_pow_sub_one_eq_mod b 52
  rw [e] at h
  exact h
theorem bits_e (b : Nat) (hb : b < b64) : bits .and .u64 ((b : Int) / 4503599627370496) 2047 = ((fE b : Nat) : Int) := by
  have h := bits_and_nat (b / 4503599627370496) 2047 (Nat.lt_of_le_of_lt (Nat.div_le_self _ _) hb) (by unfold b64; omega)
  have e : b / 4503599627370496 &&& 2047 = fE b := Nat.and_two_pow_sub_one_eq_mod _ 11
  rw [e] at h
  have e2 : ((b : Int) / 4503599627370496) = ((b / 4503599627370496 : Nat) : Int) := by simp
  rw [e2]
  exact h
theorem bits_m (b : Nat) : bits .or .u64 ((fM0 b : Nat) : Int) 4503599627370496 = ((fM0 b + bin52 : Nat) : Int) := by
  have hlt : fM0 b < bin52 := Nat.mod_lt _ (by unfold bin52; omega)
  have hlt' := hlt
  unfold bin52 at hlt'
  have h := bits_or_nat (fM0 b) 4503599627370496 (by unfold b64; omega) (by unfold b64; omega)
  have e : fM0 b ||| 4503599627370496 = fM0 b + bin52 := by
    have := or_disjoint 1 (fM0 b) 52 (by unfold bin52 at hlt; exact hlt)
    rw [show (1 * 2 ^ 52 : Nat) = 4503599627370496 from by simp] at this
    rw [Nat.or_comm, this]
    unfold bin52
    omega
  rw [e] at h
  exact h


theorem bits_s (b : Nat) : (((b : Int) / 9223372036854775808) == 1) = fS b := by
  unfold fS sgnW
  rw [Bool.eq_iff_iff]
  simp
  omega

theorem fM_lt (b : Nat) : fM b < 2 * bin52 := by
  have hlt : fM0 b < bin52 := Nat.mod_lt _ (by unfold bin52; omega)
  unfold fM; split <;> omega
theorem bin52_b64 : 2 * bin52 < b64 := by unfold bin52 b64; omega

/-- The words of a number times a power of two. -/
theorem dig_pow_le (m k j : Nat) (hm : m < b64) (hk : k ≤ 64 * j) : (dig b64 (m * 2 ^ k)).length ≤ j + 1 := by
  refine dig_length_le b64_two _ _ ?_
  have h1 : 2 ^ k ≤ b64 ^ j := by rw [b64_pow, ← Nat.pow_mul]; exact Nat.pow_le_pow_right (by omega) hk
  rw [Nat.pow_succ, Nat.mul_comm (b64 ^ j)]
  exact Nat.mul_lt_mul_of_lt_of_le hm h1 (Nat.pow_pos b64_pos)

end Go.Proofs.Ytmfochplnchgcaa

/- THE WALK OF THE REFERENCE's Float. -/
namespace Go.Proofs.Ytmfochplnchgcaa
open Go.RowKit

theorem RB.isRow {w : World} {B : Nat} (h : RB w B) {k : IntKind} {v : Value} {ds : List Nat} (hv : IsRow k w v ds) (neg : Bool) (x1 y1 : Option Addr) (i1 j1 k1 l1 : Nat) :
    IsRow k (((w.setCell ⟨B, 0, none⟩ (.bool neg)).setCell ⟨B, 1, none⟩ (.slice x1 i1 j1)).setCell ⟨B, 2, none⟩ (.slice y1 k1 l1)) v ds := by
  obtain ⟨b, x, i, j, y, k, l, T, h⟩ := h
  exact store3 h hv
theorem RB.far {w : World} {B B' : Nat} (h : RB w B) (hne : B' ≠ B) (neg : Bool) (x1 y1 : Option Addr) (i1 j1 k1 l1 : Nat) :
    RB (((w.setCell ⟨B', 0, none⟩ (.bool neg)).setCell ⟨B', 1, none⟩ (.slice x1 i1 j1)).setCell ⟨B', 2, none⟩ (.slice y1 k1 l1)) B := by
  obtain ⟨b, x, i, j, y, k, l, T, h⟩ := h
  exact ⟨b, x, i, j, y, k, l, T, by rw [heap_setCell_other _ _ _ _ (Ne.symm hne), heap_setCell_other _ _ _ _ (Ne.symm hne), heap_setCell_other _ _ _ _ (Ne.symm hne)]; exact h⟩
theorem mkQ_pw2 (m a b : Nat) : mkQ false m 1 * pw2 a b = mkQ false (m * 2 ^ a) (2 ^ b) := by
  unfold pw2 mkQ
  rw [Rat.mkRat_mul_mkRat, Nat.one_mul]
  have := sg_mul false false m (2 ^ a)
  simp only [BEq.rfl, Bool.not_true] at this
  rw [this]
theorem mkQ_negate (m d : Nat) : -mkQ false m d = mkQ true m d := by
  unfold mkQ sg
  rw [Rat.neg_mkRat]
  rfl
theorem pw2_size (a b : Nat) (ha : a ≤ 100000) (hb : b ≤ 100000) (h : a = 0 ∨ b = 0) : szQ (pw2 a b) 34359738368 := by
  have hl : ∀ k, k ≤ 100000 → (dig b32 (2 ^ k)).length ≤ 100000 := fun k hk => by
    have := dig_length_le b32_two (k / 32 + 1) (2 ^ k) (by rw [b32_pow32]; exact Nat.pow_lt_pow_right (by omega) (by omega))
    omega
  have h1 : (dig b32 1).length ≤ 1 := dig32_one
  rcases h with rfl | rfl
  · obtain ⟨e1, e2, _⟩ := pw2_neg b
    unfold szQ
    rw [e1, e2]
    have := hl b hb
    omega
  · obtain ⟨e1, e2, _⟩ := pw2_pos a
    unfold szQ
    rw [e1, e2]
    have := hl a ha
    omega
theorem mkQ_size (s : Bool) (n d k : Nat) (hd : 0 < d) (h1 : (dig b32 n).length ≤ k) (h2 : (dig b32 d).length ≤ k) : szQ (mkQ s n d) k := by
  unfold szQ
  rw [mkQ_num _ _ _ hd, mkQ_den _ _ _ hd]
  exact ⟨Nat.le_trans (dig_length_mono b32_two (Nat.div_le_self _ _)) h1, Nat.le_trans (dig_length_mono b32_two (Nat.div_le_self _ _)) h2⟩

end Go.Proofs.Ytmfochplnchgcaa

/- THE WALKS OF law01.Of AND OF THE REFERENCE's Of: an api.Frac as a fraction. -/
namespace Go.Proofs.Ytmfochplnchgcaa
open Go.RowKit

/-- What an api.Frac is worth. -/
def fracQ (n d : Int) : Rat := if d ≤ 0 then (n : Rat) else (n : Rat) / (d : Rat)

theorem fracQ_bits (n d : Int) (h1 : -9223372036854775808 ≤ n) (h2 : n ≤ 9223372036854775807) (h3 : -9223372036854775808 ≤ d) (h4 : d ≤ 9223372036854775807) : (fracQ n d).num.natAbs < b64 ∧ (fracQ n d).den < b64 := by
  unfold fracQ
  split
  · rename_i h
    exact ⟨by simp; unfold b64; omega, by simp; unfold b64; omega⟩
  · rename_i h
    rw [← new_plain n d (by omega)]
    have hd : 0 < d.natAbs := by omega
    rw [mkQ_num _ _ _ hd, mkQ_den _ _ _ hd]
    exact ⟨Nat.lt_of_le_of_lt (Nat.div_le_self _ _) (by unfold b64; omega), Nat.lt_of_le_of_lt (Nat.div_le_self _ _) (by unfold b64; omega)⟩
theorem fracQ_szR (n d : Int) (h1 : -9223372036854775808 ≤ n) (h2 : n ≤ 9223372036854775807) (h3 : -9223372036854775808 ≤ d) (h4 : d ≤ 9223372036854775807) : szR (fracQ n d) 1 := by
  obtain ⟨a, b⟩ := fracQ_bits n d h1 h2 h3 h4
  exact ⟨dig_length_le b64_two 1 _ (by simpa using a), dig_length_le b64_two 1 _ (by simpa using b)⟩
theorem fracQ_szQ (n d : Int) (h1 : -9223372036854775808 ≤ n) (h2 : n ≤ 9223372036854775807) (h3 : -9223372036854775808 ≤ d) (h4 : d ≤ 9223372036854775807) : szQ (fracQ n d) 2 := by
  obtain ⟨a, b⟩ := fracQ_bits n d h1 h2 h3 h4
  unfold b64 at a b
  exact ⟨dig_length_le b32_two 2 _ (by unfold b32; omega), dig_length_le b32_two 2 _ (by unfold b32; omega)⟩

end Go.Proofs.Ytmfochplnchgcaa

/- TABLES: what a slice of entries reads as; the walks of store.rate. -/
namespace Go.Proofs.Ytmfochplnchgcaa
open Go.RowKit

/-- Four cells read as an entry: a fraction and a rate. -/
def EntAt (R : World → Value → Rat → Prop) (w : World) (b o : Nat) (e : Rat × Int) : Prop :=
  ∃ v0 vn vd, w.cell? ⟨b, o, none⟩ = some v0 ∧ w.cell? ⟨b, o + 1, none⟩ = some vn ∧ w.cell? ⟨b, o + 2, none⟩ = some vd ∧ w.cell? ⟨b, o + 3, none⟩ = some (.int .i64 e.2) ∧ R w (.agg #[v0, vn, vd]) e.1
/-- The slice v reads as the table es. -/
def EntsOf (R : World → Value → Rat → Prop) (w : World) (v : Value) (es : List (Rat × Int)) : Prop :=
  ∃ ao cap, v = .slice ao es.length cap ∧ (0 < es.length → ∃ b off, ao = some ⟨b, off, none⟩ ∧ b < w.heap.size ∧ ∀ i, i < es.length → EntAt R w b (off + i * 4) (es.getD i (0, 0)))

theorem EntAt.below {R : World → Value → Rat → Prop} (hR : ∀ w w' v q, R w v q → Below w.heap.size w w' → R w' v q) {w w' : World} {b o : Nat} {e : Rat × Int} (h : EntAt R w b o e) (hb : Below w.heap.size w w') (hl : b < w.heap.size) : EntAt R w' b o e := by
  obtain ⟨v0, vn, vd, h0, h1, h2, h3, h4⟩ := h
  have c : ∀ j v, w.cell? ⟨b, j, none⟩ = some v → w'.cell? ⟨b, j, none⟩ = some v := fun j v h => (hb.cell (p := ⟨b, j, none⟩) hl).trans h
  exact ⟨v0, vn, vd, c _ _ h0, c _ _ h1, c _ _ h2, c _ _ h3, hR _ _ _ _ h4 hb⟩
theorem EntsOf.below {R : World → Value → Rat → Prop} (hR : ∀ w w' v q, R w v q → Below w.heap.size w w' → R w' v q) {w w' : World} {v : Value} {es : List (Rat × Int)} (h : EntsOf R w v es) (hb : Below w.heap.size w w') : EntsOf R w' v es := by
  obtain ⟨ao, cap, rfl, h⟩ := h
  refine ⟨ao, cap, rfl, fun hl => ?_⟩
  obtain ⟨b, off, rfl, hlt, h⟩ := h hl
  exact ⟨b, off, rfl, Nat.lt_of_lt_of_le hlt hb.size, fun i hi => (h i hi).below hR hb hlt⟩

/-- The rate at a temperature: that of the last entry from which on it holds. -/
def rateUp (es : List (Rat × Int)) (T : Rat) : Int := es.foldl (fun acc e => if cmpR e.1 T ≤ 0 then e.2 else acc) 0
theorem rateUp_take (es : List (Rat × Int)) (T : Rat) (i : Nat) (hi : i < es.length) :
    rateUp (es.take (i + 1)) T = if cmpR (es.getD i (0, 0)).1 T ≤ 0 then (es.getD i (0, 0)).2 else rateUp (es.take i) T := by
  unfold rateUp
  rw [List.take_add_one, List.foldl_append]
  simp [hi]

theorem IsRat.belowAll : ∀ (w w' : World) (v : Value) (q : Rat), IsRat w v q → Below w.heap.size w w' → IsRat w' v q := fun _ _ _ _ h hb => h.below hb
theorem IsR.belowAll : ∀ (w w' : World) (v : Value) (q : Rat), IsR w v q → Below w.heap.size w w' → IsR w' v q := fun _ _ _ _ h hb => h.below hb

end Go.Proofs.Ytmfochplnchgcaa

/- THE WALK OF store.CheckTable. -/
namespace Go.Proofs.Ytmfochplnchgcaa
open Go.RowKit

/-- The first answer that is not 0 of the first n. -/
def firstErr (f : Nat → Int) : Nat → Int
  | 0 => 0
  | k + 1 => if firstErr f k = 0 then f k else firstErr f k
theorem firstErr_step {f : Nat → Int} {i : Nat} (h : firstErr f i = 0) : firstErr f (i + 1) = f i := by simp [firstErr, h]
theorem firstErr_stay {f : Nat → Int} {i n : Nat} (h : firstErr f i ≠ 0) (hn : i ≤ n) : firstErr f n = firstErr f i := by
  obtain ⟨k, rfl⟩ : ∃ k, n = i + k := ⟨n - i, by omega⟩
  induction k with
  | zero => rfl
  | succ k ih =>
    have := ih (by omega)
    show (if firstErr f (i + k) = 0 then f (i + k) else firstErr f (i + k)) = _
    rw [this, if_neg h]

/-- The error of entry i of a table. -/
def entErr (es : List (Rat × Int)) (i : Nat) : Int :=
  if 0 < i ∧ cmpR (es.getD i (0, 0)).1 (es.getD (i - 1) (0, 0)).1 ≤ 0 then 7
  else if (es.getD i (0, 0)).2 < 0 ∨ 1000 < (es.getD i (0, 0)).2 ∨ (0 < i ∧ (es.getD i (0, 0)).2 < (es.getD (i - 1) (0, 0)).2) then 1 else 0
/-- The error of a table. -/
def tabErr (es : List (Rat × Int)) : Int := if es.length < 1 ∨ 16 < es.length then 4 else firstErr (entErr es) es.length

theorem keepA6 {n : Nat} {W a b : World} {A0 A1 A2 A3 A4 A5 : Addr} {v0 v1 v2 v3 v4 v5 : Value} (hn : n ≤ W.heap.size) (hb : Below a.heap.size a b)
    (h : Below n W a ∧ a.cell? A0 = some v0 ∧ a.cell? A1 = some v1 ∧ a.cell? A2 = some v2 ∧ a.cell? A3 = some v3 ∧ a.cell? A4 = some v4 ∧ a.cell? A5 = some v5) :
    Below n W b ∧ b.cell? A0 = some v0 ∧ b.cell? A1 = some v1 ∧ b.cell? A2 = some v2 ∧ b.cell? A3 = some v3 ∧ b.cell? A4 = some v4 ∧ b.cell? A5 = some v5 := by
  obtain ⟨h0, h1, h2, h3, h4, h5, h6⟩ := h
  have e : ∀ A v, a.cell? A = some v → b.cell? A = some v := fun A v h => (hb.cell (World.block_lt_of_cell? (h := h))).trans h
  have hs := h0.size
  exact ⟨h0.trans (hb.mono (by omega)), e _ _ h1, e _ _ h2, e _ _ h3, e _ _ h4, e _ _ h5, e _ _ h6⟩

theorem keepA8 {n : Nat} {W a b : World} {A0 A1 A2 A3 A4 A5 A6 A7 : Addr} {v0 v1 v2 v3 v4 v5 v6 v7 : Value} (hn : n ≤ W.heap.size) (hb : Below a.heap.size a b)
    (h : Below n W a ∧ a.cell? A0 = some v0 ∧ a.cell? A1 = some v1 ∧ a.cell? A2 = some v2 ∧ a.cell? A3 = some v3 ∧ a.cell? A4 = some v4 ∧ a.cell? A5 = some v5 ∧ a.cell? A6 = some v6 ∧ a.cell? A7 = some v7) :
    Below n W b ∧ b.cell? A0 = some v0 ∧ b.cell? A1 = some v1 ∧ b.cell? A2 = some v2 ∧ b.cell? A3 = some v3 ∧ b.cell? A4 = some v4 ∧ b.cell? A5 = some v5 ∧ b.cell? A6 = some v6 ∧ b.cell? A7 = some v7 := by
  obtain ⟨h0, h1, h2, h3, h4, h5, h6, h7, h8⟩ := h
  have e : ∀ A v, a.cell? A = some v → b.cell? A = some v := fun A v h => (hb.cell (World.block_lt_of_cell? (h := h))).trans h
  have hs := h0.size
  exact ⟨h0.trans (hb.mono (by omega)), e _ _ h1, e _ _ h2, e _ _ h3, e _ _ h4, e _ _ h5, e _ _ h6, e _ _ h7, e _ _ h8⟩

end Go.Proofs.Ytmfochplnchgcaa

/- JOBS: what a slice of pairs of integers reads as; the walks of store.checkJobs and store.from. -/
namespace Go.Proofs.Ytmfochplnchgcaa
open Go.RowKit

/-- Two cells read as a pair of integers. -/
def PairAt (w : World) (b o : Nat) (r : Int × Int) : Prop := w.cell? ⟨b, o, none⟩ = some (.int .i64 r.1) ∧ w.cell? ⟨b, o + 1, none⟩ = some (.int .i64 r.2)
/-- The slice v reads as the pairs ps. -/
def PairsOf (w : World) (v : Value) (ps : List (Int × Int)) : Prop :=
  ∃ ao cap, v = .slice ao ps.length cap ∧ (0 < ps.length → ∃ b off, ao = some ⟨b, off, none⟩ ∧ b < w.heap.size ∧ ∀ i, i < ps.length → PairAt w b (off + i * 2) (ps.getD i (0, 0)))
theorem PairAt.below {w w' : World} {b o : Nat} {r : Int × Int} (h : PairAt w b o r) (hb : Below w.heap.size w w') (hl : b < w.heap.size) : PairAt w' b o r :=
  ⟨(hb.cell (p := ⟨b, o, none⟩) hl).trans h.1, (hb.cell (p := ⟨b, o + 1, none⟩) hl).trans h.2⟩
theorem PairsOf.below {w w' : World} {v : Value} {ps : List (Int × Int)} (h : PairsOf w v ps) (hb : Below w.heap.size w w') : PairsOf w' v ps := by
  obtain ⟨ao, cap, rfl, h⟩ := h
  refine ⟨ao, cap, rfl, fun hl => ?_⟩
  obtain ⟨b, off, rfl, hlt, h⟩ := h hl
  exact ⟨b, off, rfl, Nat.lt_of_lt_of_le hlt hb.size, fun i hi => (h i hi).below hb hlt⟩

/-- The error of job i. -/
def jobErr (js : List (Int × Int)) (i : Nat) : Int :=
  if (js.getD i (0, 0)).1 < 0 ∨ 1000000 < (js.getD i (0, 0)).1 ∨ (js.getD i (0, 0)).2 < 0 ∨ 1000000 < (js.getD i (0, 0)).2 then 1 else 0
/-- The error of jobs. -/
def jobsErr (js : List (Int × Int)) (ovens : Int) : Int :=
  if 64 < js.length then 4 else if ovens < 1 ∨ 8 < ovens then 1 else firstErr (jobErr js) js.length

structure GoodJobs (js : List (Int × Int)) (ovens : Int) : Prop where
  len : js.length ≤ 64
  o1 : 1 ≤ ovens
  o8 : ovens ≤ 8
  job : ∀ i, i < js.length → 0 ≤ (js.getD i (0, 0)).1 ∧ (js.getD i (0, 0)).1 ≤ 1000000 ∧ 0 ≤ (js.getD i (0, 0)).2 ∧ (js.getD i (0, 0)).2 ≤ 1000000

end Go.Proofs.Ytmfochplnchgcaa

/- THE WALK OF THE REFERENCE's CheckTable. -/
namespace Go.Proofs.Ytmfochplnchgcaa
open Go.RowKit

end Go.Proofs.Ytmfochplnchgcaa

/- THE WALKS OF isGap, isTime, RateAt (both). -/
namespace Go.Proofs.Ytmfochplnchgcaa
open Go.RowKit

def gapB (n : Int) : Bool := decide (1 ≤ n) && decide (n ≤ 86400)
def timeB (n : Int) : Bool := decide (0 ≤ n) && decide (n ≤ 1073741824)
def RetBoolS (b : Bool) (w : World) (e : Ending) (w' : World) : Prop := e = .returned (.bool b) ∧ w = w'
def RetIE (n err : Int) (w : World) (e : Ending) (w' : World) : Prop := e = .returned (.tuple #[.int .i64 n, .int .i64 err]) ∧ Below w.heap.size w w'

/-- What RateAt tells of a temperature. -/
def rateV (es : List (Rat × Int)) (T : Rat) : Int := if tabErr es = 0 then rateUp es T else 0

end Go.Proofs.Ytmfochplnchgcaa

/- THE WALK OF THE REFERENCE's RateAt. -/
namespace Go.Proofs.Ytmfochplnchgcaa
open Go.RowKit

end Go.Proofs.Ytmfochplnchgcaa

/- float32 TO float64: a finite number stays finite, an infinity an infinity, a NaN gives some NaN. Plain, and the operation's equations. -/
namespace Go.Proofs.Ytmfochplnchgcaa
open Go.RowKit

def sgn32 : Nat := 2147483648
def inf32 : Nat := 2139095040
def bin23 : Nat := 8388608
theorem f32_sign : Ieee.single.signWeight = sgn32 := by decide +kernel
theorem f32_inf : Ieee.single.infRung = inf32 := by decide +kernel
theorem f32_bin : Ieee.single.binade = bin23 := by decide +kernel
theorem f32_least : Ieee.single.leastPlace = -149 := by decide +kernel

/-- The float32 is a finite number. -/
def tempOk (b : Nat) : Bool := decide (b % sgn32 < inf32)

theorem cut_zero (neg : Bool) (n : Nat) : Ieee.Toward.even.cut neg n 0 = n := by
  unfold Ieee.Toward.cut
  have e : min 0 (n.log2 + 2) = 0 := by omega
  simp only [e]
  have e1 : (1 <<< 0 : Nat) = 1 := rfl
  rw [e1]
  simp [Nat.mod_one]

theorem word_double (s : Bool) (r : Nat) (hr : r ≤ infR) : Ieee.double.word s r < b64 ∧ (fE (Ieee.double.word s r) = 2047 ↔ r = infR) ∧ (Ieee.double.word s r) % sgnW = r := by
  unfold Ieee.Format.word
  rw [f64_sign]
  unfold infR at *
  unfold fE sgnW b64 bin52
  cases s
  · simp only [Bool.false_eq_true, if_false]
    omega
  · simp only [if_true]
    omega

/-- A number of at most 24 bits, not too great, is a finite float64. -/
theorem nearest_double (s : Bool) (m : Nat) (p : Int) (hm : m < 16777216) (hp1 : -149 ≤ p) (hp2 : p ≤ 104) : ∃ r, r < infR ∧ Ieee.double.nearest s m p = Ieee.double.word s r := by
  unfold Ieee.Format.nearest
  by_cases h0 : m = 0
  · exact ⟨0, by unfold infR; omega, by rw [if_pos h0]⟩
  · rw [if_neg h0]
    have hlog : m.log2 < 24 := (Nat.log2_lt h0).2 hm
    have hself := Nat.lt_log2_self (n := m)
    rw [f64_least, f64_bin, f64_inf]
    have hf : (Ieee.double.fractionBits : Int) = 52 := rfl
    rw [hf]
    generalize hl : max (p + (m.log2 : Int) - 52) (-1074) = last
    have h1 : last ≤ p := by omega
    have h2 : last ≤ 75 := by omega
    have h3 : -1074 ≤ last := by omega
    have e1 : (last - p).toNat = 0 := by omega
    simp only [e1, cut_zero]
    have hk : (p - last).toNat + m.log2 ≤ 52 := by omega
    have hsh : m <<< (p - last).toNat < 9007199254740992 := by
      rw [Nat.shiftLeft_eq]
      have a : m * 2 ^ (p - last).toNat < 2 ^ (m.log2 + 1) * 2 ^ (p - last).toNat := Nat.mul_lt_mul_of_pos_right hself (Nat.two_pow_pos _)
      rw [← Nat.pow_add] at a
      have c : 2 ^ (m.log2 + 1 + (p - last).toNat) ≤ 2 ^ 53 := Nat.pow_le_pow_right (by omega) (by omega)
      have d : (2 : Nat) ^ 53 = 9007199254740992 := by decide
      omega
    generalize m <<< (p - last).toNat = kept at *
    have ht : (last - -1074).toNat ≤ 1149 := by omega
    generalize (last - -1074).toNat = t at *
    refine ⟨min (t * bin52 + kept) infR, ?_, rfl⟩
    have : t * bin52 ≤ 1149 * bin52 := Nat.mul_le_mul_right _ ht
    have hI : infR = 2047 * bin52 := by decide
    have hK : kept < 2 * bin52 := by
      have : (9007199254740992 : Nat) = 2 * bin52 := by decide
      omega
    have hP : 0 < bin52 := by decide
    generalize t * bin52 = A at *
    generalize bin52 = B at *
    omega

theorem conv_fin (b : Nat) (h : tempOk b = true) : ∃ r, floatToFloatBits .f32 b .f64 = some r ∧ r < b64 ∧ fE r ≠ 2047 := by
  have h1 : b % sgn32 < inf32 := by simpa [tempOk] using h
  obtain ⟨s, m, p, hd, hm, hp1, hp2⟩ : ∃ s m p, FloatKind.f32.decode b = .number s m p ∧ m < 16777216 ∧ -149 ≤ p ∧ p ≤ 104 := by
    show ∃ s m p, Ieee.single.read b = .number s m p ∧ _
    unfold Ieee.Format.read
    rw [f32_sign, f32_inf, f32_bin, f32_least]
    generalize b % sgn32 = r at *
    generalize (b / sgn32 % 2 == 1) = sg
    simp only []
    by_cases h2 : r < bin23
    · rw [if_pos h2]
      exact ⟨_, _, _, rfl, by unfold bin23 at h2; omega, by omega, by omega⟩
    · rw [if_neg h2, if_pos h1]
      refine ⟨_, _, _, rfl, ?_, ?_, ?_⟩
      · unfold bin23; omega
      · omega
      · unfold inf32 at h1; unfold bin23 at *; omega
  obtain ⟨r, hr, he⟩ := nearest_double s m p hm hp1 hp2
  have he' : FloatKind.f64.encode (.number s m p) = Ieee.double.word s r := he
  obtain ⟨w1, w2, w3⟩ := word_double s r (Nat.le_of_lt hr)
  have hfin : (FloatKind.f64.decode (Ieee.double.word s r)).isInfinity = false := by
    show (Ieee.double.read (Ieee.double.word s r)).isInfinity = false
    unfold Ieee.Format.read
    rw [f64_sign, f64_inf, f64_bin, f64_least, w3]
    simp only []
    by_cases h2 : r < bin52
    · rw [if_pos h2]; rfl
    · rw [if_neg h2, if_pos hr]; rfl
  refine ⟨Ieee.double.word s r, ?_, w1, fun h => ?_⟩
  · unfold floatToFloatBits
    rw [if_neg (by decide), hd]
    simp only []
    rw [he', hfin]
    rfl
  · have := w2.1 h; omega

theorem conv_inf (b : Nat) (h : b % sgn32 = inf32) : ∃ r, floatToFloatBits .f32 b .f64 = some r ∧ r < b64 ∧ fE r = 2047 := by
  obtain ⟨s, hd⟩ : ∃ s, FloatKind.f32.decode b = .infinity s := by
    show ∃ s, Ieee.single.read b = .infinity s
    unfold Ieee.Format.read
    rw [f32_sign, f32_inf, f32_bin, f32_least, h]
    simp only []
    rw [if_neg (by unfold inf32 bin23; omega), if_neg (by omega), if_pos trivial]
    exact ⟨_, rfl⟩
  obtain ⟨w1, w2, _⟩ := word_double s infR (Nat.le_refl _)
  refine ⟨Ieee.double.word s infR, ?_, w1, w2.2 rfl⟩
  unfold floatToFloatBits
  rw [if_neg (by decide), hd]
  simp only []
  show some (Ieee.double.write (.infinity s)) = _
  unfold Ieee.Format.write
  rw [f64_inf]

theorem conv_nan (b : Nat) (h1 : ¬ b % sgn32 < inf32) (h2 : b % sgn32 ≠ inf32) : ∃ s t, FloatKind.f32.decode b = .nan s t := by
  show ∃ s t, Ieee.single.read b = .nan s t
  unfold Ieee.Format.read
  rw [f32_sign, f32_inf, f32_bin, f32_least]
  simp only []
  rw [if_neg (by unfold inf32 at h1; unfold bin23; omega), if_neg h1, if_neg h2]
  exact ⟨_, _, rfl⟩

/-- The NaN that the conversion draws. -/
def nanOf (b : Nat) (w : World) : Nat := (Question.nanConv .f64 b).cut (w.tape w.drawn (.nanConv .f64 b))
theorem nanOf_ok (b : Nat) (w : World) : nanOf b w < b64 ∧ fE (nanOf b w) = 2047 := by
  unfold nanOf Question.cut
  simp only []
  generalize w.tape w.drawn (.nanConv .f64 b) = t
  have h1 : (t / 2) % (2 ^ 52 - 1) < 4503599627370495 := Nat.mod_lt _ (by omega)
  generalize (t / 2) % (2 ^ 52 - 1) = x at *
  have h2 : t % 2 < 2 := Nat.mod_lt _ (by omega)
  generalize t % 2 = y at *
  unfold fE b64 bin52
  omega

end Go.Proofs.Ytmfochplnchgcaa

/- THE WALK OF store.exact: a reading's temperature as a fraction. -/
namespace Go.Proofs.Ytmfochplnchgcaa
open Go.RowKit

/-- A float32's value; 0 for what is no number. -/
def tempQ (b : Nat) : Rat := if tempOk b = true then fval ((floatToFloatBits .f32 b .f64).getD 0) else 0
def RetRB (q : Rat) (ok : Bool) (w : World) (e : Ending) (w' : World) : Prop :=
  ∃ v, e = .returned (.tuple #[v, .bool ok]) ∧ IsRat w' v q ∧ Below w.heap.size w w'

theorem fval_parts (b : Nat) (hE : fE b ≠ 2047) : (dig b64 (fM b * 2 ^ (fE1 b - 1075))).length ≤ 17 ∧ (dig b64 (2 ^ (1075 - fE1 b))).length ≤ 18 := by
  have hM := Nat.lt_trans (fM_lt b) bin52_b64
  have hE1 : fE1 b ≤ 2047 := by
    unfold fE1
    split
    · omega
    · have := Nat.mod_lt (b / bin52) (show 0 < 2048 by omega)
      unfold fE at *
      omega
  refine ⟨dig_pow_le _ _ 16 hM (by omega), ?_⟩
  have := dig_pow_le 1 (1075 - fE1 b) 17 (by unfold b64; omega) (by omega)
  rwa [Nat.one_mul] at this
theorem mkQ_szR (s : Bool) (n d k : Nat) (hd : 0 < d) (h1 : (dig b64 n).length ≤ k) (h2 : (dig b64 d).length ≤ k) : szR (mkQ s n d) k := by
  unfold szR
  rw [mkQ_num _ _ _ hd, mkQ_den _ _ _ hd]
  exact ⟨Nat.le_trans (dig_length_mono b64_two (Nat.div_le_self _ _)) h1, Nat.le_trans (dig_length_mono b64_two (Nat.div_le_self _ _)) h2⟩
theorem fval_szR (b : Nat) (hE : fE b ≠ 2047) : szR (fval b) 18 := by
  obtain ⟨h1, h2⟩ := fval_parts b hE
  exact mkQ_szR _ _ _ _ (Nat.two_pow_pos _) (by omega) h2
/-- Digits of 64 bits against digits of 32 bits. -/
theorem dig32_of_64 (n k : Nat) (h : (dig b64 n).length ≤ k) : (dig b32 n).length ≤ 2 * k := by
  refine dig_length_le b32_two _ _ ?_
  have h1 := lt_pow_dig_length b64_two n
  have h2 : b64 ^ (dig b64 n).length ≤ b64 ^ k := Nat.pow_le_pow_right b64_pos h
  have h3 : b32 ^ (2 * k) = b64 ^ k := by
    rw [Nat.pow_mul]
    congr 1
  omega
theorem fval_szQ (b : Nat) (hE : fE b ≠ 2047) : szQ (fval b) 36 := by
  obtain ⟨h1, h2⟩ := fval_szR b hE
  exact ⟨dig32_of_64 _ 18 h1, dig32_of_64 _ 18 h2⟩
theorem zero_szR : szR 0 1 := ⟨by show (dig b64 0).length ≤ 1; simp [dig_zero], by show (dig b64 1).length ≤ 1; exact dig_length_le b64_two 1 1 (by unfold b64; omega)⟩
theorem zero_szQ : szQ 0 1 := ⟨by show (dig b32 0).length ≤ 1; simp [dig_zero], dig32_one⟩
theorem tempQ_szR (b : Nat) : szR (tempQ b) 18 := by
  unfold tempQ
  by_cases h : tempOk b = true
  · rw [if_pos h]
    obtain ⟨r, hr, _, hE⟩ := conv_fin b h
    rw [hr]
    exact fval_szR r hE
  · rw [if_neg h]
    exact ⟨Nat.le_trans zero_szR.1 (by omega), Nat.le_trans zero_szR.2 (by omega)⟩
theorem tempQ_szQ (b : Nat) : szQ (tempQ b) 36 := by
  obtain ⟨h1, h2⟩ := tempQ_szR b
  exact ⟨dig32_of_64 _ 18 h1, dig32_of_64 _ 18 h2⟩

end Go.Proofs.Ytmfochplnchgcaa
