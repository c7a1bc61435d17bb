/- Part f of the lemmas and walks. -/
import Derived.Test.YtofijjomfhmbjaaGreatAe

namespace Go.Proofs.YtofijjomfhmbjaaGreat
open Go.RowKit

structure Crs where
 first : Int
 tows : Int
 width : Int
 gap : Int
 from_ : Int
 to_ : Int
def crs0 : Crs := ⟨0, 0, 0, 0, 0, 0⟩
def CrsAt (w : World) (b o : Nat) (c : Crs) : Prop := w.cell? ⟨b, o, none⟩ = some (.int .i64 c.first) ∧ w.cell? ⟨b, o + 1, none⟩ = some (.int .i64 c.tows) ∧ w.cell? ⟨b, o + 2, none⟩ = some (.int .i64 c.width) ∧
 w.cell? ⟨b, o + 3, none⟩ = some (.int .i64 c.gap) ∧ w.cell? ⟨b, o + 4, none⟩ = some (.int .i64 c.from_) ∧ w.cell? ⟨b, o + 5, none⟩ = some (.int .i64 c.to_)
def CrsOf (w : World) (v : Value) (cs : List Crs) : Prop :=
 ∃ ao cap, v = .slice ao cs.length cap ∧ (0 < cs.length → ∃ b off, ao = some ⟨b, off, none⟩ ∧ b < w.heap.size ∧ ∀ i, i < cs.length → CrsAt w b (off + i * 6) (cs.getD i crs0))
theorem CrsAt.below {w w' : World} {b o : Nat} {r : Crs} (h : CrsAt w b o r) (hb : Below w.heap.size w w') (hl : b < w.heap.size) : CrsAt w' b o r := by
 obtain ⟨h0, h1, h2, h3, h4, h5⟩ := h
 have c : ∀ j v, w.cell? ⟨b, j, none⟩ = some v → w'.cell? ⟨b, j, none⟩ = some v := fun j v h => (hb.cell (p := ⟨b, j, none⟩) hl).trans h
 exact ⟨c _ _ h0, c _ _ h1, c _ _ h2, c _ _ h3, c _ _ h4, c _ _ h5⟩
theorem CrsOf.below {w w' : World} {v : Value} {cs : List Crs} (h : CrsOf w v cs) (hb : Below w.heap.size w w') : CrsOf w' v cs := by
 obtain ⟨ao, cap, rfl, h⟩ := h
 refine ⟨ao, cap, rfl, fun hl => ?_⟩
 obtain ⟨b, off, rfl, hlt, h⟩ := h hl
 exact ⟨b, off, rfl, Nat.lt_of_lt_of_le hlt hb.size, fun i hi => (h i hi).below hb hlt⟩

def cE (a b c d e f : Bool) : Int := if a && b && c then (if d then (if e || f then 7 else 0) else 1) else 1
def crsErr (c : Crs) : Int := cE (inL c.tows 1 24) (inL c.width 1 1000000) (inL c.gap (-1000000) 1000000) (ptsOk [(c.from_, c.first), (c.to_, 0)]) (decide (c.from_ ≥ c.to_)) (decide (c.width + c.gap ≤ 0))
structure GoodCrs (c : Crs) : Prop where
 tows : 1 ≤ c.tows ∧ c.tows ≤ 24
 width : 1 ≤ c.width ∧ c.width ≤ 1000000
 gap : -1000000 ≤ c.gap ∧ c.gap ≤ 1000000
 first : -4398046511104 ≤ c.first ∧ c.first ≤ 4398046511104
 sum : 0 < c.width + c.gap
theorem inB_iff (n lo hi : Int) : inL n lo hi = true ↔ lo ≤ n ∧ n ≤ hi := by simp [inL]
theorem crs_good {c : Crs} (h : crsErr c = 0) : GoodCrs c := by
 unfold crsErr cE at h
 split at h
 ·
  rename_i h1
  simp only [Bool.and_eq_true, inB_iff] at h1
  split at h
  ·
   rename_i h2
   split at h
   ·
    cases h
   ·
    rename_i h3
    simp only [Bool.or_eq_true, decide_eq_true_eq, not_or] at h3
    have := ptOk_range (ptsOk_get h2 0 (by simp))
    simp [ptAt, far] at this
    exact ⟨h1.1.1, h1.1.2, h1.2, this.2, by omega⟩
  ·
   cases h
 ·
  cases h

theorem cell_new22 (w : World) (a b c d : Int) (t : TypeId) : PairsOf (w.alloc (.cells #[.int .i64 a, .int .i64 b, .int .i64 c, .int .i64 d] t)) (.slice (some ⟨w.heap.size, 0, none⟩) 2 2) [(a, b), (c, d)] := by
 have hB := blk_new w #[.int .i64 a, .int .i64 b, .int .i64 c, .int .i64 d] t
 refine ⟨_, 2, rfl, fun _ => ⟨w.heap.size, 0, rfl, blk_lt hB, fun i hi => ?_⟩⟩
 match i, hi with
 | 0, _ => exact ⟨blk_cell hB 0 _ rfl, blk_cell hB 1 _ rfl⟩
 | 1, _ => exact ⟨blk_cell hB 2 _ rfl, blk_cell hB 3 _ rfl⟩
 | i + 2, hi => simp at hi; omega

set_option maxRecDepth 100000 in
set_option maxHeartbeats 4000000 in
theorem check_any (c : Crs) (w : World) : Calls Tryz.prog 34 #[.agg #[.int .i64 c.first, .int .i64 c.tows, .int .i64 c.width, .int .i64 c.gap, .int .i64 c.from_, .int .i64 c.to_]] w (RetInt (crsErr c) w) := by
 have Hc : Hid (crsErr c = cE (inL c.tows 1 24) (inL c.width 1 1000000) (inL c.gap (-1000000) 1000000) (ptsOk [(c.from_, c.first), (c.to_, 0)]) (decide (c.from_ ≥ c.to_)) (decide (c.width + c.gap ≤ 0))) := rfl
 generalize crsErr c = r at *
 generalize c.first = a0 at *
 generalize c.tows = a1 at *
 generalize c.width = a2 at *
 generalize c.gap = a3 at *
 generalize c.from_ = a4 at *
 generalize c.to_ = a5 at *
 have Hw : Hid (inL a2 1 1000000 = true → inL a3 (-1000000) 1000000 = true → IntKind.i64.wrap (a2 + a3) = a2 + a3) := fun h1 h2 => by
  rw [inB_iff] at h1 h2
  exact IntWalk.i64_in _ (by omega)
 have hB := blk_new w #[.int .i64 a0, .int .i64 a1, .int .i64 a2, .int .i64 a3, .int .i64 a4, .int .i64 a5] 61
 have hal := (Below.refl w.heap.size w).alloc (Nat.le_refl _) (.cells #[.int .i64 a0, .int .i64 a1, .int .i64 a2, .int .i64 a3, .int .i64 a4, .int .i64 a5] 61)
 go_enter Tryz.func34, Tryz.ntmps34
 go_wp2_with fail
 refine (within_any a1 1 24 _).mono ?_
 rintro e w1 ⟨rfl, hb1⟩
 have hB1 := blk_keep hB hb1 (blk_lt hB)
 have hx1 := ext_trans hal hb1
 have c2 := blk_cell hB1 2 (.int .i64 a2) rfl
 clear hB hal hb1
 generalize inL a1 1 24 = p1 at *
 cases p1 with
 | false =>
  go_wp2_with fail
  go_ret
  exact ⟨by rw [Hc.out]; rfl, hx1⟩
 | true =>
  go_wp2_with fail
  refine (within_any a2 1 1000000 _).mono ?_
  rintro e w2 ⟨rfl, hb2⟩
  have hB2 := blk_keep hB1 hb2 (blk_lt hB1)
  have hx2 := ext_trans hx1 hb2
  have c3 := blk_cell hB2 3 (.int .i64 a3) rfl
  clear hB1 hx1 hb2 c2
  generalize inL a2 1 1000000 = p2 at *
  cases p2 with
  | false =>
   go_wp2_with fail
   go_ret
   exact ⟨by rw [Hc.out]; rfl, hx2⟩
  | true =>
   go_wp2_with fail
   refine (within_any a3 _ _ _).mono ?_
   rintro e w3 ⟨rfl, hb3⟩
   have hB3 := blk_keep hB2 hb3 (blk_lt hB2)
   have hx3 := ext_trans hx2 hb3
   have c4 := blk_cell hB3 4 (.int .i64 a4) rfl
   have c0 := blk_cell hB3 0 (.int .i64 a0) rfl
   have c5 := blk_cell hB3 5 (.int .i64 a5) rfl
   clear hB2 hx2 hb3 c3
   generalize inL a3 (-1000000) 1000000 = p3 at *
   cases p3 with
   | false =>
    go_wp2_with fail
    go_ret
    exact ⟨by rw [Hc.out]; rfl, hx3⟩
   | true =>
    have hw := Hw.out (by simp) (by simp)
    have HP := Lib.hid (cell_new22 w3 a4 a0 a5 0 45)
    have hx4 := hx3.alloc hx3.size (.cells #[.int .i64 a4, .int .i64 a0, .int .i64 a5, .int .i64 0] 45)
    have hB4 := blk_keep hB3 ((Below.refl _ _).alloc (Nat.le_refl _) (.cells #[.int .i64 a4, .int .i64 a0, .int .i64 a5, .int .i64 0] 45)) (blk_lt hB3)
    clear hB3 hx3
    go_wp2_with fail
    refine (isRight_any [(a4, a0), (a5, 0)] _ _ HP.out (by simp)).mono ?_
    rintro e w4 ⟨rfl, hb4⟩
    have hB5 := blk_keep hB4 hb4 (blk_lt hB4)
    have hx5 := ext_trans hx4 hb4
    have d2 := blk_cell hB5 2 (.int .i64 a2) rfl
    have d3 := blk_cell hB5 3 (.int .i64 a3) rfl
    have d4 := blk_cell hB5 4 (.int .i64 a4) rfl
    have d5 := blk_cell hB5 5 (.int .i64 a5) rfl
    clear hB4 hB5 hx4 hb4 HP c4 c0 c5
    generalize ptsOk [(a4, a0), (a5, 0)] = p4 at *
    cases p4 with
    | false =>
     go_wp2_with fail
     go_ret
     exact ⟨by rw [Hc.out]; rfl, hx5⟩
    | true =>
     by_cases h6 : a4 ≥ a5
     ·
      have t6 : decide (a4 ≥ a5) = true := decide_eq_true h6
      have Hr : Hid (r = 7) := by show _ = _; rw [Hc.out, t6]; rfl
      clear h6 Hc
      go_wp2_with fail
      go_ret
      exact ⟨by rw [Hr.out]; rfl, hx5⟩
     ·
      have t6 : decide (a4 ≥ a5) = false := decide_eq_false h6
      by_cases h7 : a2 + a3 ≤ 0
      ·
       have t7 : decide (a2 + a3 ≤ 0) = true := decide_eq_true h7
       have Hr : Hid (r = 7) := by show _ = _; rw [Hc.out, t6, t7]; rfl
       clear h6 h7 Hc
       go_wp2_with fail
       go_ret
       exact ⟨by rw [Hr.out]; rfl, hx5⟩
      ·
       have t7 : decide (a2 + a3 ≤ 0) = false := decide_eq_false h7
       have Hr : Hid (r = 0) := by show _ = _; rw [Hc.out, t6, t7]; rfl
       clear h6 h7 Hc
       go_wp2_with fail
       go_ret
       exact ⟨by rw [Hr.out]; rfl, hx5⟩

abbrev Bx4 := Int × Int × Int × Int
def bxI (c : Crs) (k : Nat) : Bx4 := (c.from_, c.first + k * (c.width + c.gap), c.to_, c.first + k * (c.width + c.gap) + c.width)
def bxsOf (c : Crs) (n : Nat) : List Bx4 := (List.range n).map (bxI c)
theorem bxsOf_succ (c : Crs) (n : Nat) : bxsOf c (n + 1) = bxsOf c n ++ [bxI c n] := by simp [bxsOf, List.range_succ]
def bxsTo (cs : List Crs) : Nat → List Bx4
 | 0 => []
 | n + 1 => bxsTo cs n ++ bxsOf (cs.getD n crs0) (cs.getD n crs0).tows.toNat
def bxCells : List Bx4 → List Value
 | [] => []
 | x :: l => .int .i64 x.1 :: .int .i64 x.2.1 :: .int .i64 x.2.2.1 :: .int .i64 x.2.2.2 :: bxCells l
theorem bxCells_append (a b : List Bx4) : bxCells (a ++ b) = bxCells a ++ bxCells b := by
 induction a with
 | nil => rfl
 | cons r a ih => simp [bxCells, ih]
theorem bxCells_get (ls : List Bx4) : ∀ i, i < ls.length → (bxCells ls)[i * 4]? = some (.int .i64 (ls.getD i (0, 0, 0, 0)).1) ∧ (bxCells ls)[i * 4 + 1]? = some (.int .i64 (ls.getD i (0, 0, 0, 0)).2.1) ∧ (bxCells ls)[i * 4 + 2]? = some (.int .i64 (ls.getD i (0, 0, 0, 0)).2.2.1) ∧ (bxCells ls)[i * 4 + 3]? = some (.int .i64 (ls.getD i (0, 0, 0, 0)).2.2.2) := by
 induction ls with
 | nil => intro i hi; simp at hi
 | cons r l ih =>
  intro i hi
  cases i with
  | zero => simp [bxCells]
  | succ i =>
   have := ih i (by simpa using hi)
   simpa [bxCells, Nat.succ_mul] using this
def BxAt (w : World) (b o : Nat) (r : Bx4) : Prop := w.cell? ⟨b, o, none⟩ = some (.int .i64 r.1) ∧ w.cell? ⟨b, o + 1, none⟩ = some (.int .i64 r.2.1) ∧ w.cell? ⟨b, o + 2, none⟩ = some (.int .i64 r.2.2.1) ∧ w.cell? ⟨b, o + 3, none⟩ = some (.int .i64 r.2.2.2)
def BxsOf (w : World) (v : Value) (ls : List Bx4) : Prop :=
 ∃ ao cap, v = .slice ao ls.length cap ∧ (0 < ls.length → ∃ b off, ao = some ⟨b, off, none⟩ ∧ b < w.heap.size ∧ ∀ i, i < ls.length → BxAt w b (off + i * 4) (ls.getD i (0, 0, 0, 0)))
theorem BxAt.below {w w' : World} {b o : Nat} {r : Bx4} (h : BxAt w b o r) (hb : Below w.heap.size w w') (hl : b < w.heap.size) : BxAt w' b o r := by
 obtain ⟨h0, h1, h2, h3⟩ := h
 have c : ∀ j v, w.cell? ⟨b, j, none⟩ = some v → w'.cell? ⟨b, j, none⟩ = some v := fun j v h => (hb.cell (p := ⟨b, j, none⟩) hl).trans h
 exact ⟨c _ _ h0, c _ _ h1, c _ _ h2, c _ _ h3⟩
theorem BxsOf.below {w w' : World} {v : Value} {cs : List Bx4} (h : BxsOf w v cs) (hb : Below w.heap.size w w') : BxsOf w' v cs := by
 obtain ⟨ao, cap, rfl, h⟩ := h
 refine ⟨ao, cap, rfl, fun hl => ?_⟩
 obtain ⟨b, off, rfl, hlt, h⟩ := h hl
 exact ⟨b, off, rfl, Nat.lt_of_lt_of_le hlt hb.size, fun i hi => (h i hi).below hb hlt⟩
theorem BxsOf.nil (w : World) : BxsOf w (.slice none 0 0) [] := ⟨none, 0, rfl, fun h => absurd h (by simp)⟩
theorem BxsOf.ofRow {w : World} {base : Nat} {e : TypeId} {v : Value} {ls : List Bx4} (h : LRow w base e 4 v ls.length (bxCells ls)) : BxsOf w v ls := by
 rcases Nat.eq_zero_or_pos ls.length with h0 | hp
 ·
  rcases h.1.2 with ⟨rfl, _⟩ | ⟨g, cap, cur, rfl, _⟩
  ·
   exact ⟨none, 0, by rw [h0], fun h => absurd h (by omega)⟩
  ·
   exact ⟨_, _, rfl, fun h => absurd h (by omega)⟩
 ·
  obtain ⟨g, cap, rfl⟩ := ownsRow_some h.1 hp
  have hc : ∀ j u, (bxCells ls)[j]? = some u → w.cell? ((⟨g, 0, none⟩ : Addr).add j) = some u := h.1.cells (g := g) rfl
  have hlt : g < w.heap.size := (h.lt rfl).1
  refine ⟨_, _, rfl, fun _ => ⟨g, 0, rfl, hlt, fun i hi => ?_⟩⟩
  obtain ⟨h0, h1, h2, h3⟩ := bxCells_get ls i hi
  have ea : ∀ j, (⟨g, 0, none⟩ : Addr).add j = ⟨g, 0 + j, none⟩ := fun j => by unfold Addr.add; split <;> simp_all
  refine ⟨?_, ?_, ?_, ?_⟩
  ·
   rw [← ea]; exact hc _ _ h0
  all_goals rw [Nat.add_assoc, ← ea]
  ·
   exact hc _ _ h1
  ·
   exact hc _ _ h2
  ·
   exact hc _ _ h3
theorem info_box : (Tryz.prog.info? 65).map (fun i => (i.zero, i.size, i.bytes)) = some (some (.agg #[.int .i64 0, .int .i64 0, .int .i64 0, .int .i64 0]), 4, 32) := by kernel_rfl
theorem cell_new4i (w : World) (a b c d : Value) (t : TypeId) : ∀ j u, [a, b, c, d][j]? = some u → (w.alloc (.cells #[a, b, c, d] t)).cell? ((⟨w.heap.size, 0, none⟩ : Addr).add j) = some u := by
 intro j u hj
 match j, hj with
 | 0, hj => simp at hj; subst hj; simp [Addr.add]
 | 1, hj => simp at hj; subst hj; simp [Addr.add]
 | 2, hj => simp at hj; subst hj; simp [Addr.add]
 | 3, hj => simp at hj; subst hj; simp [Addr.add]
 | j + 4, hj => simp at hj

def crsTo (cs : List Crs) : Nat → Int
 | 0 => 0
 | n + 1 => if crsTo cs n = 0 then crsErr (cs.getD n crs0) else crsTo cs n
theorem crsTo_stay (cs : List Crs) (k : Nat) : ∀ n, crsTo cs k ≠ 0 → k ≤ n → crsTo cs n = crsTo cs k := by
 intro n h hk
 induction n with
 | zero =>
  obtain rfl : k = 0 := by omega
  rfl
 | succ n ih =>
  rcases Nat.lt_or_ge k (n + 1) with h1 | h1
  ·
   rw [crsTo, ih (by omega), if_neg h]
  ·
   obtain rfl : k = n + 1 := by omega
   rfl
theorem crsTo_good (cs : List Crs) : ∀ n, crsTo cs n = 0 → ∀ i, i < n → crsErr (cs.getD i crs0) = 0
 | 0, _, i, hi => absurd hi (by omega)
 | n + 1, h, i, hi => by
  rw [crsTo] at h
  split at h
  ·
   rename_i h0
   rcases Nat.lt_or_ge i n with h1 | h1
   ·
    exact crsTo_good cs n h0 i h1
   ·
    obtain rfl : i = n := by omega
    exact h
  ·
   rename_i h0; exact absurd h h0
theorem bxsTo_length (cs : List Crs) : ∀ n, crsTo cs n = 0 → (bxsTo cs n).length ≤ 24 * n
 | 0, _ => by simp [bxsTo]
 | n + 1, h => by
  have hg := crs_good (crsTo_good cs (n + 1) h n (by omega))
  have h0 : crsTo cs n = 0 := by
   rw [crsTo] at h
   split at h
   ·
    assumption
   ·
    rename_i h0; exact absurd h h0
  have := bxsTo_length cs n h0
  have := hg.tows
  have e : (bxsOf (cs.getD n crs0) (cs.getD n crs0).tows.toNat).length = (cs.getD n crs0).tows.toNat := by simp [bxsOf]
  simp only [bxsTo, List.length_append]
  rw [e]
  omega
def towsErr (cs : List Crs) : Int := if 24 < cs.length then 4 else if crsTo cs cs.length ≠ 0 then crsTo cs cs.length else if 24 < (bxsTo cs cs.length).length then 9 else 0
def towsVal (cs : List Crs) : List Bx4 := if towsErr cs = 0 then bxsTo cs cs.length else []
def RetTows (cs : List Crs) (w : World) (e : Ending) (w' : World) : Prop := ∃ v, e = .returned (.tuple #[v, .int .i64 (towsErr cs)]) ∧ BxsOf w' v (towsVal cs) ∧ Below w.heap.size w w'
theorem towsVal_err {cs : List Crs} (h : towsErr cs ≠ 0) : towsVal cs = [] := by unfold towsVal; rw [if_neg h]

theorem ownBlock_low' {w : World} {base : Nat} {e : TypeId} {size : Nat} {v : Value} {n : Nat} {xs : List Value} (h : w.ownsRow base e size v n xs) : ∀ k, v.ownBlock = some k → base ≤ k := by
 intro k hk
 rcases h.2 with ⟨rfl, _⟩ | ⟨g, cap, cur, rfl, hb, _⟩
 ·
  simp [Value.ownBlock] at hk
 ·
  simp [Value.ownBlock] at hk
  omega
set_option maxRecDepth 100000 in
set_option maxHeartbeats 8000000 in
theorem tows_any (cs : List Crs) (v : Value) (w : World) (h : CrsOf w v cs) : Calls Tryz.prog 18 #[v] w (RetTows cs w) := by
 obtain ⟨ao, cap, rfl, hE⟩ := h
 have HE := Lib.hid hE
 clear hE
 by_cases c1 : 24 < cs.length
 ·
  have Hr : Hid (towsErr cs = 4) := by show _ = _; unfold towsErr; rw [if_pos c1]
  have t1 : decide ((cs.length : Int) > 24) = true := by simp; omega
  clear c1
  go_enter Tryz.func18, Tryz.ntmps18
  go_wp2_with fail
  go_ret2
  exact ⟨.slice none 0 0, by rw [Hr.out]; rfl, by rw [towsVal_err (by rw [Hr.out]; omega)]; exact BxsOf.nil _, Below.refl _ _⟩
 ·
  have t1 : decide ((cs.length : Int) > 24) = false := by simp; omega
  have h24 : cs.length ≤ 24 := by omega
  have Hc1 := Lib.hid c1
  obtain ⟨i0, hi0, hz0, hz1, hz2⟩ := info_parts info_box
  have hzd : ∀ u ∈ (Value.agg #[.int .i64 0, .int .i64 0, .int .i64 0, .int .i64 0]).cells.toList, noDig u := by
   intro u hu
   simp [Value.cells] at hu
   subst hu
   exact noDig_i64 _
  clear c1
  go_enter Tryz.func18, Tryz.ntmps18
  go_wp2_with fail
  go_loopw [4, 15] (fun ov iv wr => ∃ (i : Nat), i ≤ cs.length ∧ iv = .int .i64 i ∧ Hid (crsTo cs i = 0) ∧ Hid (LRow wr w.heap.size 65 4 ov (bxsTo cs i).length (bxCells (bxsTo cs i))) ∧ Below w.heap.size w wr) (fun _ iv _ => cs.length - (intOf iv).toNat)
  case atStart => exact ⟨0, Nat.zero_le _, rfl, rfl, LRow.nil _ _ _ _, Below.refl _ _⟩
  case round =>
   obtain ⟨i, hi, rfl, hC, hL, hbel⟩ := hrel
   by_cases hlt : i < cs.length
   ·
    obtain ⟨b, off, rfl, hbl, hEE⟩ := HE.out (by omega)
    obtain ⟨g0, g1, g2, g3, g4, g5⟩ := (hEE i hlt).below hbel hbl
    have hlt' : (i : Int) < cs.length := by omega
    have hge' : (0 : Int) ≤ i := by omega
    have hbl2 : b < wr.heap.size := Nat.lt_of_lt_of_le hbl hbel.size
    have hbs0 := hbel.size
    have Hst : Hid (crsTo cs (i + 1) = crsErr (cs.getD i crs0)) := by show _ = _; rw [crsTo, if_pos hC.out]
    have Hbs : Hid (bxsTo cs (i + 1) = bxsTo cs i ++ bxsOf (cs.getD i crs0) (cs.getD i crs0).tows.toNat) := rfl
    have Hbl := bxsTo_length cs i hC.out
    have HCK := Lib.hid (fun W => check_any (cs.getD i crs0) W)
    have Hbad : Hid (crsErr (cs.getD i crs0) ≠ 0 → towsErr cs = crsErr (cs.getD i crs0)) := fun h => by
     have h2 : crsTo cs cs.length = crsErr (cs.getD i crs0) := by rw [← Hst.out]; exact crsTo_stay cs (i + 1) cs.length (by rw [Hst.out]; exact h) hlt
     unfold towsErr
     rw [if_neg Hc1.out, h2, if_pos h]
    have HG := Lib.hid (fun h => crs_good (c := cs.getD i crs0) h)
    generalize cs.getD i crs0 = c at *
    have hN := blk_new wr #[.int .i64 c.first, .int .i64 c.tows, .int .i64 c.width, .int .i64 c.gap, .int .i64 c.from_, .int .i64 c.to_] 61
    have hal := (Below.refl wr.heap.size wr).alloc (Nat.le_refl _) (.cells #[.int .i64 c.first, .int .i64 c.tows, .int .i64 c.width, .int .i64 c.gap, .int .i64 c.from_, .int .i64 c.to_] 61)
    have HL0 := Lib.hid (hL.out.below hal)
    have hOlt := Lib.hid (fun g (hg : u4.ownBlock = some g) => (hL.out.lt hg).1)
    have hx0 := ext_trans hbel hal
    clear hEE hbel hL
    go_wp2_with fail
    refine (HCK.out _).mono ?_
    rintro e w1 ⟨rfl, hb1⟩
    have hN1 := blk_keep hN hb1 (blk_lt hN)
    have HL1 := Lib.hid (HL0.out.below hb1)
    have hx1 := ext_trans hx0 hb1
    have c1 := blk_cell hN1 1 (.int .i64 c.tows) rfl
    clear HL0 hx0 hb1 hN hal g0 g1 g2 g3 g4 g5
    by_cases he : crsErr c = 0
    ·
     have hg := HG.out he
     obtain ⟨⟨ht1, ht2⟩, hw, hgp, hf, _⟩ := hg
     have te : (crsErr c != 0) = false := by rw [he]; rfl
     have He := Lib.hid he
     clear he
     generalize crsErr c = er at *
     go_wp2_with fail
     have HNn := Lib.hid hN1
     have hCl := blk_lt hN1
     have hCB : w.heap.size ≤ wr.heap.size := hbs0
     clear hN1 c1 te
     generalize wr.heap.size = CB at *
     go_loopw [26, 4] (fun kv ov wx => ∃ (k : Nat), (k : Int) ≤ c.tows ∧ kv = .int .i64 k ∧ Hid (LRow wx w.heap.size 65 4 ov (bxsTo cs i ++ bxsOf c k).length (bxCells (bxsTo cs i ++ bxsOf c k))) ∧ Hid (wx.heap[CB]? = some (.cells #[.int .i64 c.first, .int .i64 c.tows, .int .i64 c.width, .int .i64 c.gap, .int .i64 c.from_, .int .i64 c.to_] 61 (0, 0))) ∧ Hid (∀ g, ov.ownBlock = some g → g ≠ CB) ∧ Below w.heap.size w wx) (fun kv _ _ => (c.tows - intOf kv).toNat)
     case atStart => exact ⟨0, by omega, rfl, by simp only [bxsOf, List.range_zero, List.map_nil, List.append_nil]; exact HL1.out, HNn.out, fun g hg e => Nat.lt_irrefl CB (by have := hOlt.out g hg; omega), hx1⟩
     case round =>
      clear HL1 HNn hx1
      obtain ⟨k, hk, rfl, hLk, hNk, hne, hbx⟩ := hrel
      have hCl' := blk_lt hNk.out
      by_cases hlk : (k : Int) < c.tows
      ·
       have tk : decide ((k : Int) < c.tows) = true := decide_eq_true hlk
       have m0 := blk_cell hNk.out 0 (.int .i64 c.first) rfl
       have m2 := blk_cell hNk.out 2 (.int .i64 c.width) rfl
       have m3 := blk_cell hNk.out 3 (.int .i64 c.gap) rfl
       have m4 := blk_cell hNk.out 4 (.int .i64 c.from_) rfl
       have m5 := blk_cell hNk.out 5 (.int .i64 c.to_) rfl
       have hbi : bxI c k = (c.from_, c.first + (k : Int) * (c.width + c.gap), c.to_, c.first + (k : Int) * (c.width + c.gap) + c.width) := rfl
       obtain ⟨S, hS⟩ : ∃ S, S = c.width + c.gap := ⟨_, rfl⟩
       have hS1 : -2000000 ≤ S ∧ S ≤ 2000000 := by omega
       have e1 : IntKind.i64.wrap (c.width + c.gap) = S := by rw [hS]; exact IntWalk.i64_in _ (by omega)
       rw [← hS] at hbi
       have hp := mul_absI (show -24 ≤ (k : Int) ∧ (k : Int) ≤ 24 by omega) hS1
       obtain ⟨P, hP⟩ : ∃ P, P = (k : Int) * S := ⟨_, rfl⟩
       rw [← hP] at hbi hp
       have e2 : IntKind.i64.wrap ((k : Int) * S) = P := by rw [← hP]; exact IntWalk.i64_in _ (by omega)
       obtain ⟨Y, hY⟩ : ∃ Y, Y = c.first + P := ⟨_, rfl⟩
       rw [← hY] at hbi
       have e3 : IntKind.i64.wrap (c.first + P) = Y := by rw [hY]; exact IntWalk.i64_in _ (by omega)
       obtain ⟨Y2, hY2⟩ : ∃ Y2, Y2 = Y + c.width := ⟨_, rfl⟩
       rw [← hY2] at hbi
       have e4 : IntKind.i64.wrap (Y + c.width) = Y2 := by rw [hY2]; exact IntWalk.i64_in _ (by omega)
       have Hsn : Hid (bxsTo cs i ++ bxsOf c (k + 1) = (bxsTo cs i ++ bxsOf c k) ++ [(c.from_, Y, c.to_, Y2)]) := by show _ = _; rw [bxsOf_succ, hbi, List.append_assoc]
       have hpl : (bxsTo cs i ++ bxsOf c k).length ≤ 1000 := by rw [List.length_append]; simp only [bxsOf, List.length_map, List.length_range]; omega
       have hbw := hbx.size
       clear hbi hS hS1 hp hP hY hY2
       generalize bxsTo cs i ++ bxsOf c k = pre at *
       have hal := (Below.refl wr.heap.size wr).alloc (Nat.le_refl _) (.cells #[.int .i64 c.from_, .int .i64 Y, .int .i64 c.to_, .int .i64 Y2] 65)
       have HLa := Lib.hid (hLk.out.below hal)
       have HNa := Lib.hid (blk_keep hNk.out hal hCl')
       have hxa := hbx.alloc hbx.size (.cells #[.int .i64 c.from_, .int .i64 Y, .int .i64 c.to_, .int .i64 Y2] 65)
       have HNE := Lib.hid hne.out
       clear hLk hNk hal hne hbx
       go_wp2_with (at_builtin; refine wpList_append_lrow _ rfl (.tmp 39) (.tmp 52) 57 rfl w.heap.size 65 i0 _ 4 32 Tryz.underlying57 hi0 hz0 hz1 hz2 rfl (by decide) hzd _ _ _ rfl HLa.out ⟨wr.heap.size, 0, none⟩ 1 1 [.int .i64 c.from_, .int .i64 Y, .int .i64 c.to_, .int .i64 Y2] rfl rfl (cell_new4i _ _ _ _ _ _) (by simp [Value.oneCell']) (by intro u hu; simp at hu; rcases hu with rfl | rfl | rfl | rfl <;> exact noDig_i64 _) (by omega) (by unfold maxLen; omega) (by omega) (by simp; omega) ?_)
       intro g' cap' w3 hL4 hgr hat
       have HL4 : Hid (LRow w3 w.heap.size 65 4 (.slice (some ⟨g', 0, none⟩) (pre.length + 1) cap') (pre ++ [(c.from_, Y, c.to_, Y2)]).length (bxCells (pre ++ [(c.from_, Y, c.to_, Y2)]))) := by
        show LRow _ _ _ _ _ _ _
        rw [bxCells_append, List.length_append]
        exact hL4
       have hx4 : Below w.heap.size w w3 := hxa.grown hgr (by simp; omega) (ownBlock_low' HLa.out.1)
       have HN4 : Hid (w3.heap[CB]? = some (.cells #[.int .i64 c.first, .int .i64 c.tows, .int .i64 c.width, .int .i64 c.gap, .int .i64 c.from_, .int .i64 c.to_] 61 (0, 0))) := (hgr.block CB (by simp; omega) (fun e => HNE.out CB e.symm rfl)).trans HNa.out
       have HE4 : Hid (∀ g, (Value.slice (some ⟨g', 0, none⟩) (pre.length + 1) cap').ownBlock = some g → g ≠ CB) := by
        intro g hg
        simp [Value.ownBlock] at hg
        subst hg
        rcases hat with h | h
        ·
         exact HNE.out _ h
        ·
         rw [h]; simp; omega
       clear hL4 hgr hat HLa HNa hxa
       go_wp2_with fail
       exact ⟨⟨k + 1, by omega, by go_num, by rw [Hsn.out]; exact HL4.out, HN4.out, HE4.out, hx4⟩, by simp [intOf]; omega⟩
      ·
       have tk : decide ((k : Int) < c.tows) = false := decide_eq_false hlk
       have hkt : c.tows.toNat = k := by omega
       have Hfin : Hid (bxsTo cs (i + 1) = bxsTo cs i ++ bxsOf c k) := by show _ = _; rw [Hbs.out, hkt]
       have Hc0 : Hid (crsTo cs (i + 1) = 0) := by show _ = _; rw [Hst.out]; exact He.out
       clear hkt hlk hne hNk
       go_wp2_with fail
       exact ⟨⟨i + 1, by omega, by go_num, Hc0.out, by rw [Hfin.out]; exact hLk.out, hbx⟩, meas_up hlt⟩
    ·
     have te : (crsErr c != 0) = true := bne_iff_ne.2 he
     have Hr := Lib.hid (Hbad.out he)
     have He := Lib.hid he
     clear he
     generalize crsErr c = er at *
     go_wp2_with fail
     go_ret2
     exact ⟨.slice none 0 0, by rw [Hr.out]; rfl, by rw [towsVal_err (by rw [Hr.out]; exact He.out)]; exact BxsOf.nil _, hx1⟩
   ·
    obtain rfl : i = cs.length := by omega
    have hform : ∃ ao2 cap2, u4 = .slice ao2 (bxsTo cs cs.length).length cap2 := by
     rcases hL.out.1.2 with ⟨e, h0⟩ | ⟨g, cap, cur, e, _⟩
     ·
      exact ⟨none, 0, by rw [e, h0]⟩
     ·
      exact ⟨_, _, e⟩
    obtain ⟨ao2, cap2, rfl⟩ := hform
    have HB := Lib.hid (BxsOf.ofRow hL.out)
    have Hte : Hid (towsErr cs = if 24 < (bxsTo cs cs.length).length then 9 else 0) := by show _ = _; unfold towsErr; rw [if_neg Hc1.out, hC.out, if_neg (by simp)]
    have Htv : Hid (towsVal cs = if towsErr cs = 0 then bxsTo cs cs.length else []) := rfl
    by_cases c2 : 24 < (bxsTo cs cs.length).length
    ·
     have t2 : decide (((bxsTo cs cs.length).length : Int) > 24) = true := by simp; omega
     have Hr : Hid (towsErr cs = 9) := by show _ = _; rw [Hte.out, if_pos c2]
     clear c2 hL
     generalize bxsTo cs cs.length = bl at *
     go_wp2_with fail
     go_ret2
     exact ⟨.slice none 0 0, by rw [Hr.out]; rfl, by rw [towsVal_err (by rw [Hr.out]; omega)]; exact BxsOf.nil _, hbel⟩
    ·
     have t2 : decide (((bxsTo cs cs.length).length : Int) > 24) = false := by simp; omega
     have Hr : Hid (towsErr cs = 0) := by show _ = _; rw [Hte.out, if_neg c2]
     have Hv : Hid (towsVal cs = bxsTo cs cs.length) := by show _ = _; rw [Htv.out, if_pos Hr.out]
     clear c2 hL
     generalize bxsTo cs cs.length = bl at *
     go_wp2_with fail
     go_ret2
     exact ⟨.slice ao2 bl.length cap2, by rw [Hr.out]; rfl, by rw [Hv.out]; exact HB.out, hbel⟩

end Go.Proofs.YtofijjomfhmbjaaGreat

namespace Go.Proofs.YtofijjomfhmbjaaGreat

theorem ten_two : 2 ≤ 10 := by omega
def chD (d : Nat) : UInt8 := UInt8.ofNat (48 + d)
def decP (n m : Nat) : List UInt8 := ((dig 10 n).take m).reverse.map chD
def decL (n : Nat) : List UInt8 := (dig 10 n).reverse.map chD
def decT (n : Nat) : List UInt8 := if n = 0 then [48] else decL n

theorem dig_drop {B : Nat} (hB : 2 ≤ B) : ∀ (k n : Nat), (dig B n).drop k = dig B (n / B ^ k)
 | 0, n => by simp
 | k + 1, n => by
  by_cases h : n = 0
  ·
   subst h; simp [dig_zero]
  ·
   rw [dig_pos hB h, List.drop_succ_cons, dig_drop hB k, Nat.div_div_eq_div_mul, Nat.pow_succ, Nat.mul_comm B]
theorem dig_length_gt {B : Nat} (hB : 2 ≤ B) (k n : Nat) : k < (dig B n).length ↔ n / B ^ k ≠ 0 := by
 rw [Ne, ← dig_nil_iff hB, ← dig_drop hB, List.drop_eq_nil_iff]
 omega
theorem dig_getD {B : Nat} (hB : 2 ≤ B) (k n : Nat) : (dig B n).getD k 0 = n / B ^ k % B := by
 by_cases h : n / B ^ k = 0
 ·
  have := (not_congr (dig_length_gt hB k n)).2 (fun hne => hne h)
  rw [h, List.getD_eq_getElem?_getD, List.getElem?_eq_none (by omega)]
  simp
 ·
  have hl := (dig_length_gt hB k n).2 h
  have e := dig_drop hB k n
  rw [dig_pos hB h, List.drop_eq_getElem_cons hl] at e
  rw [List.getD_eq_getElem?_getD, List.getElem?_eq_getElem hl]
  exact (List.cons.inj e).1
theorem decP_step (n m : Nat) (h : n / 10 ^ m ≠ 0) : decP n (m + 1) = chD (n / 10 ^ m % 10) :: decP n m := by
 have hl := (dig_length_gt ten_two m n).2 h
 have e := dig_getD ten_two m n
 rw [List.getD_eq_getElem?_getD, List.getElem?_eq_getElem hl] at e
 unfold decP
 rw [List.take_succ_eq_append_getElem hl, List.reverse_append]
 simp at e ⊢
 rw [e]
theorem decP_all (n m : Nat) (h : n / 10 ^ m = 0) : decP n m = decL n := by
 have := (not_congr (dig_length_gt ten_two m n)).2 (fun hne => hne h)
 unfold decP decL
 rw [List.take_of_length_le (by omega)]
theorem decP_length (n m : Nat) (h : m = 0 ∨ n / 10 ^ (m - 1) ≠ 0) : (decP n m).length = m := by
 rcases h with rfl | h
 ·
  simp [decP]
 ·
  rcases Nat.eq_zero_or_pos m with rfl | hp
  ·
   simp [decP]
  ·
   have := (dig_length_gt ten_two (m - 1) n).2 h
   simp [decP]
   omega
theorem decL_zero : decL 0 = [] := rfl
theorem decL_length (n : Nat) : (decL n).length = (dig 10 n).length := by simp [decL]
theorem lv_inj {B : Nat} : ∀ {a b : List Nat}, Dgs B a → Dgs B b → a.length = b.length → lv B a = lv B b → a = b
 | [], [], _, _, _, _ => rfl
 | x :: a, y :: b, ha, hb, hl, hv => by
  rw [lv_cons, lv_cons] at hv
  have hx := ha.head
  have hy := hb.head
  have e1 : x = y := by
   have h1 : (x + B * lv B a) % B = x := by rw [Nat.add_mul_mod_self_left, Nat.mod_eq_of_lt hx]
   have h2 : (y + B * lv B b) % B = y := by rw [Nat.add_mul_mod_self_left, Nat.mod_eq_of_lt hy]
   rw [← h1, ← h2, hv]
  subst e1
  have e2 : lv B a = lv B b := Nat.eq_of_mul_eq_mul_left (show 0 < B by omega) (Nat.add_left_cancel hv)
  rw [lv_inj ha.tail hb.tail (by simpa using hl) e2]
theorem dig_take {B : Nat} (hB : 2 ≤ B) (k n : Nat) (h : n / B ^ k ≠ 0) : (dig B n).take k = dig B (n % B ^ k) ++ List.replicate (k - (dig B (n % B ^ k)).length) 0 := by
 have hl := (dig_length_gt hB k n).2 h
 have hp : 0 < B ^ k := Nat.pow_pos (by omega)
 have hm := dig_length_le hB k (n % B ^ k) (Nat.mod_lt _ hp)
 have htk : ((dig B n).take k).length = k := by simp; omega
 refine lv_inj ((dgs_dig hB n).take k) ((dgs_dig hB _).append (Dgs.replicate (by omega) _)) (by simp; omega) ?_
 have hv := lv_take_drop B (dig B n) k (by omega)
 have ht := lv_lt ((dgs_dig hB n).take k)
 rw [lv_dig hB, dig_drop hB, lv_dig hB] at hv
 rw [htk] at ht
 have e : n % B ^ k = lv B ((dig B n).take k) := by
  have h1 : n % B ^ k = (lv B ((dig B n).take k) + B ^ k * (n / B ^ k)) % B ^ k := by rw [← hv]
  rw [h1, Nat.add_mul_mod_self_left, Nat.mod_eq_of_lt ht]
 rw [lv_append, lv_replicate, lv_dig hB, Nat.mul_zero, Nat.add_zero, e]
def decZ (k n : Nat) : List UInt8 := List.replicate (k - (decL n).length) 48 ++ decL n
theorem decL_split (k n : Nat) (h : n / 10 ^ k ≠ 0) : decL n = decL (n / 10 ^ k) ++ decZ k (n % 10 ^ k) := by
 have e : dig 10 n = (dig 10 n).take k ++ dig 10 (n / 10 ^ k) := by
  rw [← dig_drop ten_two, List.take_append_drop]
 unfold decL decZ
 rw [e, dig_take ten_two k n h, decL_length]
 simp [decL, chD, List.map_reverse]
theorem chD_toNat (d : Nat) (h : d < 10) : (chD d).toNat = 48 + d := by
 unfold chD
 rw [UInt8.toNat_ofNat', Nat.mod_eq_of_lt (by omega)]

def txtQ (q : Rat) : List UInt8 := (if q.num < 0 then [45] else []) ++ (decT q.num.natAbs ++ (if q.den = 1 then [] else 47 :: decT q.den))

end Go.Proofs.YtofijjomfhmbjaaGreat

namespace Go.Proofs.YtofijjomfhmbjaaGreat
open Go.RowKit Go.Shelf

def strB (l : List UInt8) : ByteArray := ⟨l.toArray⟩
theorem strB_size (l : List UInt8) : (strB l).size = l.length := rfl
theorem strB_append (a b : List UInt8) : strB a ++ strB b = strB (a ++ b) := by
 apply ByteArray.ext
 simp [strB, ByteArray.data_append]
def RetStr (l : List UInt8) (w : World) (e : Ending) (w' : World) : Prop := e = .returned (.string (strB l)) ∧ Below w.heap.size w w'
theorem repeat_zero (c : Nat) : Lib.repeatL [48] c = List.replicate c 48 := by
 induction c with
 | zero => rfl
 | succ c ih => rw [Lib.repeatL, ih]; rfl

def DecRow (w : World) (B n m : Nat) : Prop := ∃ cs : List Value, cs.length = 20 ∧ w.heap[B]? = some (.cells cs.toArray 133 (0, 0)) ∧ cs.drop (20 - m) = (decP n m).map fun c => Value.int .u8 c.toNat
theorem DecRow.bytes {w : World} {B n m : Nat} (h : DecRow w B n m) (hm : m ≤ 20) (hl : (decP n m).length = m) : Lib.Bytes w B (20 - m) (strB (decP n m)) := by
 obtain ⟨cs, hc, hh, hd⟩ := h
 intro i hi
 rw [strB_size] at hi
 rw [cell_of_row w B _ _ _ (0, 0) hh]
 have e : cs[20 - m + i]? = ((decP n m).map fun c => Value.int .u8 c.toNat)[i]? := by rw [← hd, List.getElem?_drop]
 simp only [List.getElem?_toArray]
 rw [e, List.getElem?_map, List.getElem?_eq_getElem hi]
 rfl
theorem DecRow.step {w : World} {B n m k : Nat} (h : DecRow w B n m) (hk : k + 1 + m = 20) (h0 : n / 10 ^ m ≠ 0) (v : Value) (hv : v = .int .u8 (chD (n / 10 ^ m % 10)).toNat) : DecRow (w.setCell ⟨B, k, none⟩ v) B n (m + 1) := by
 obtain ⟨cs, hc, hh, hd⟩ := h
 refine ⟨cs.set k v, by simp [hc], ?_, ?_⟩
 ·
  rw [heap_setCell_same w B k _ _ _ hh]
  simp
 ·
  rw [decP_step n m h0, List.map_cons, ← hd, hv]
  rw [show 20 - (m + 1) = k by omega, show 20 - m = k + 1 by omega]
  rw [List.drop_eq_getElem_cons (by simp [hc]; omega)]
  simp [List.drop_set]
theorem DecRow.cell {w : World} {B n m : Nat} (h : DecRow w B n m) (k : Nat) (hk : k < 20) : ∃ v, w.cell? ⟨B, k, none⟩ = some v ∧ w.frozen? ⟨B, k, none⟩ = false := by
 obtain ⟨cs, hc, hh, hd⟩ := h
 refine ⟨cs[k], ?_, frozen_of_row w B k _ _ hh⟩
 rw [cell_of_row w B k _ _ (0, 0) hh]
 simp [hc, hk]

theorem arr20 : Tryz.prog.arrayLen 133 = 20 := by kernel_rfl
theorem und20 : Tryz.prog.underlying 133 = some (.array (Tryz.prog.arrayLen 133) (Tryz.prog.elem 133)) := by kernel_rfl
theorem size20 (w : World) : (sizeOf (Tryz.prog.elem 133)).run Tryz.prog w = .ok 1 w := by kernel_rfl
theorem slice20 (B a : Nat) (ha : a < 20) (w : World) : (Instr.sliceAt 133 (.pointer (some ⟨B, 0, none⟩)) (some (.int .i64 (a : Int))) none none).run Tryz.prog w = .ok (.slice (some ⟨B, a, none⟩) (20 - a) (20 - a)) w := by
 rw [run_sliceAt_array_l w _ _ und20 .i64 a (by omega) (by rw [arr20]; omega), size20, arr20]
 have h : ¬ 20 = a := by omega
 have e : (⟨B, 0, none⟩ : Addr).add (a * 1) = ⟨B, a, none⟩ := by unfold Addr.add; split <;> simp_all
 simp only [Result.andThen_ok, slicedAt, Int.toNat_natCast, if_neg h, e]
theorem slice20_end (B : Nat) (w : World) : (Instr.sliceAt 133 (.pointer (some ⟨B, 0, none⟩)) (some (.int .i64 ((20 : Nat) : Int))) none none).run Tryz.prog w = .ok (.slice (some ⟨B, 0, none⟩) 0 0) w := by
 rw [run_sliceAt_array_l w _ _ und20 .i64 _ (by omega) (by rw [arr20]; omega), size20, arr20]
 simp [slicedAt]

set_option maxRecDepth 100000 in
set_option maxHeartbeats 4000000 in
theorem decimal_any (n : Nat) (w : World) (hn : n < b64) : Calls Tryz.prog 51 #[.int .u64 n] w (RetStr (decL n) w) := by
 have h20 : n / 10 ^ 20 = 0 := Nat.div_eq_of_lt (by unfold b64 at hn; omega)
 have H20 := Lib.hid h20
 have hN : DecRow (w.alloc (.cells #[.int .u8 0, .int .u8 0, .int .u8 0, .int .u8 0, .int .u8 0, .int .u8 0, .int .u8 0, .int .u8 0, .int .u8 0, .int .u8 0, .int .u8 0, .int .u8 0, .int .u8 0, .int .u8 0, .int .u8 0, .int .u8 0, .int .u8 0, .int .u8 0, .int .u8 0, .int .u8 0] 133)) w.heap.size n 0 :=
  ⟨List.replicate 20 (.int .u8 0), by simp, blk_new w _ _, by simp [decP]⟩
 have hal : Below w.heap.size w (w.alloc (.cells #[.int .u8 0, .int .u8 0, .int .u8 0, .int .u8 0, .int .u8 0, .int .u8 0, .int .u8 0, .int .u8 0, .int .u8 0, .int .u8 0, .int .u8 0, .int .u8 0, .int .u8 0, .int .u8 0, .int .u8 0, .int .u8 0, .int .u8 0, .int .u8 0, .int .u8 0, .int .u8 0] 133)) := (Below.refl _ _).alloc (Nat.le_refl _) _
 have HN := Lib.hid hN
 clear h20 hN
 go_enter Tryz.func51, Tryz.ntmps51
 go_wp2_with fail
 go_loopw [0, 4] (fun nv av wr => ∃ (m a : Nat), a + m = 20 ∧ nv = .int .u64 ((n / 10 ^ m : Nat) : Int) ∧ av = .int .i64 a ∧ (m = 0 ∨ n / 10 ^ (m - 1) ≠ 0) ∧ Hid (DecRow wr w.heap.size n m) ∧ Below w.heap.size w wr)
  (fun _ av _ => (intOf av).toNat)
 case atStart => exact ⟨0, 20, rfl, by simp, rfl, .inl rfl, HN.out, hal⟩
 case round =>
  clear hal HN
  obtain ⟨m, a, ha, rfl, rfl, hm, hD, hbel⟩ := hrel
  have HM := Lib.hid hm
  have HA := Lib.hid ha
  clear hm
  by_cases h0 : n / 10 ^ m = 0
  ·
   have Hh := Lib.hid h0
   by_cases ha20 : a = 20
   ·
    have h00 : n = 0 := by
     obtain rfl : m = 0 := by omega
     simpa using h0
    have hw := Lib.run_convert_whole (P := Tryz.prog) wr 109 5 9 Tryz.underlying109 Tryz.underlying5 Tryz.underlying9 w.heap.size 0 (strB []) (fun i hi => absurd hi (Nat.not_lt_zero i)) 0
    rw [strB_size, List.length_nil] at hw
    have hsl := slice20_end w.heap.size
    have Hn0 : Hid (decL n = []) := by show _ = _; rw [h00]; rfl
    rw [h0]
    subst ha20
    clear h0 h00 ha
    go_wp2_with fail
    go_ret
    exact ⟨by rw [Hn0.out]; rfl, hbel⟩
   ·
    have hl := decP_length n m HM.out
    have hm2 : m = 20 - a := by omega
    have hw := Lib.run_convert_whole (P := Tryz.prog) wr 109 5 9 Tryz.underlying109 Tryz.underlying5 Tryz.underlying9 w.heap.size (20 - m) (strB (decP n m)) (hD.out.bytes (by omega) hl) (20 - a)
    rw [strB_size, hl, decP_all n m h0, show 20 - m = a by omega, hm2] at hw
    have hsl := slice20 w.heap.size a (by omega)
    rw [h0]
    clear h0 hl hm2
    go_wp2_with fail
    go_ret
    exact ⟨rfl, hbel⟩
  ·
   have hq : ((n / 10 ^ m : Nat) : Int) > 0 := Int.natCast_pos.2 (Nat.pos_of_ne_zero h0)
   have t1 : decide (((n / 10 ^ m : Nat) : Int) > 0) = true := decide_eq_true hq
   have hm20 : m < 20 := by
    rcases Nat.lt_or_ge m 20 with h | h
    ·
     exact h
    ·
     obtain rfl : m = 20 := by omega
     exact absurd H20.out h0
   obtain ⟨k, rfl⟩ : ∃ k, a = k + 1 := ⟨a - 1, by omega⟩
   obtain ⟨v0, g0, f0⟩ := hD.out.cell k (by omega)
   have hst := fun v hv => hD.out.step (k := k) (by omega) h0 v hv
   have HST := Lib.hid hst
   have Hm1 : Hid (n / 10 ^ (m + 1 - 1) ≠ 0) := by show _ ≠ _; rw [Nat.add_sub_cancel]; exact h0
   have hdv : Hid (n / 10 ^ m / 10 = n / 10 ^ (m + 1)) := by show _ = _; rw [Nat.div_div_eq_div_mul, Nat.pow_succ]
   have hch : Hid (((chD (n / 10 ^ m % 10)).toNat : Int) = 48 + ((n / 10 ^ m % 10 : Nat) : Int)) := by show _ = _; rw [chD_toNat _ (Nat.mod_lt _ (by omega))]; omega
   have hqb : n / 10 ^ m < b64 := Nat.lt_of_le_of_lt (Nat.div_le_self _ _) hn
   have e1 : IntKind.i64.wrap (((k + 1 : Nat) : Int) - 1) = (k : Int) := by rw [show (((k + 1 : Nat) : Int) - 1) = (k : Int) by omega]; exact IntWalk.i64_in _ (by omega)
   have e2 : IntKind.i64.wrap ((k : Int) + 1 - 1) = (k : Int) := by rw [show ((k : Int) + 1 - 1) = (k : Int) by omega]; exact IntWalk.i64_in _ (by omega)
   have hk20 : (k : Int) < 20 := by omega
   have hk0 : (0 : Int) ≤ k := by omega
   clear hst h0 hD
   generalize n / 10 ^ m = q at *
   unfold b64 at hqb
   clear hn
   go_wp2_with fail
   refine ⟨⟨m + 1, k, by have := HA.out; omega, by rw [← hdv.out, Int.natCast_ediv]; rfl, rfl, .inr Hm1.out, HST.out _ (by rw [hch.out, Int.natCast_emod]; rfl), hbel.setCell (p := ⟨w.heap.size, k, none⟩) (Nat.le_refl _) _⟩, by simp [intOf]⟩

def decC : Nat := 10000000000000000000
theorem decC_eq : decC = 10 ^ 19 := by unfold decC; omega
def partL (n i : Nat) : List UInt8 := if n / decC ^ i / decC = 0 then decL (n / decC ^ i) else decZ 19 (n / decC ^ i % decC)
theorem partL_step (n i : Nat) : decL (n / decC ^ (i + 1)) ++ partL n i = decL (n / decC ^ i) := by
 have e : n / decC ^ (i + 1) = n / decC ^ i / decC := by rw [Nat.div_div_eq_div_mul, Nat.pow_succ]
 rw [e]
 unfold partL
 by_cases h : n / decC ^ i / decC = 0
 ·
  rw [if_pos h, h, decL_zero]; rfl
 ·
  rw [if_neg h]
  rw [decC_eq] at *
  exact (decL_split 19 _ h).symm
def partCells (n k : Nat) : List Value := (List.range k).map fun i => Value.string (strB (partL n i))
theorem partCells_succ (n k : Nat) : partCells n (k + 1) = partCells n k ++ [Value.string (strB (partL n k))] := by
 simp [partCells, List.range_succ]

theorem digits_len (n : Nat) : (dig 10 n).length ≤ 20 * (dig b64 n).length := by
 refine dig_length_le ten_two _ _ (Nat.lt_of_lt_of_le (lt_pow_dig_length b64_two n) ?_)
 rw [Nat.pow_mul]
 exact Nat.pow_le_pow_left (by unfold b64; omega) _
theorem parts_len (n k : Nat) (h : n / decC ^ k ≠ 0) : 19 * k < 20 * (dig b64 n).length := by
 have h1 : n / 10 ^ (19 * k) ≠ 0 := by rw [Nat.pow_mul, ← decC_eq]; exact h
 have := (dig_length_gt ten_two (19 * k) n).2 h1
 have := digits_len n
 omega
theorem decC_pos : 0 < decC := by unfold decC; omega
theorem partL_len (n i : Nat) : (partL n i).length ≤ 19 + (dig 10 n).length := by
 unfold partL
 split
 ·
  rw [decL_length]
  have : (dig 10 (n / decC ^ i)).length ≤ (dig 10 n).length := dig_length_mono ten_two (Nat.div_le_self _ _)
  omega
 ·
  unfold decZ
  have h1 : (decL (n / decC ^ i % decC)).length ≤ 19 := by
   rw [decL_length]
   refine dig_length_le ten_two 19 _ ?_
   rw [← decC_eq]
   exact Nat.mod_lt _ decC_pos
  simp
  omega
theorem LRow.cellAt {w : World} {base : Nat} {e : TypeId} {g n cap : Nat} {xs : List Value} (h : LRow w base e 1 (.slice (some ⟨g, 0, none⟩) n cap) n xs) (j : Nat) (v : Value) (hj : xs[j]? = some v) : w.cell? ⟨g, j, none⟩ = some v := by
 have hc : ∀ j u, xs[j]? = some u → w.cell? ((⟨g, 0, none⟩ : Addr).add j) = some u := h.1.cells (g := g) rfl
 have := hc j v hj
 have e : (⟨g, 0, none⟩ : Addr).add j = ⟨g, j, none⟩ := by unfold Addr.add; split <;> simp_all
 rwa [e] at this
theorem noDig_string (s : ByteArray) : noDig (.string s) := fun _ => ⟨by simp, by simp⟩
theorem info_string : (Tryz.prog.info? 9).map (fun i => (i.zero, i.size, i.bytes)) = some (some (.string .empty), 1, 16) := by kernel_rfl
theorem cell_new1 (w : World) (a : Value) (t : TypeId) : ∀ j u, [a][j]? = some u → (w.alloc (.cells #[a] t)).cell? ((⟨w.heap.size, 0, none⟩ : Addr).add j) = some u := by
 intro j u hj
 match j, hj with
 | 0, hj => simp at hj; subst hj; simp [Addr.add]
 | j + 1, hj => simp at hj
def sliceLen : Value → Nat | .slice _ n _ => n | _ => 0
theorem LRow.form {w : World} {base : Nat} {e : TypeId} {size : Nat} {v : Value} {n : Nat} {xs : List Value} (h : LRow w base e size v n xs) : ∃ ao cap, v = .slice ao n cap ∧ (0 < n → ∃ g, ao = some ⟨g, 0, none⟩ ∧ g < w.heap.size ∧ base ≤ g) := by
 rcases h.1.2 with ⟨rfl, h0⟩ | ⟨g, cap, cur, rfl, hb, hg, _⟩
 ·
  exact ⟨none, 0, by rw [h0], fun h => absurd h (by omega)⟩
 ·
  exact ⟨_, _, rfl, fun _ => ⟨g, rfl, (Array.getElem?_eq_some_iff.1 hg).1, hb⟩⟩
theorem bw_any (q : Nat) (v : Value) (W : World) (h : IsNat .u64 b64 W v q) (hl : (dig b64 q).length ≤ 1099511627776) : Calls Tryz.prog 50 #[v, .int .u64 10000000000000000000] W (RetNatWord (q / decC) (q % decC) W) := by
 have h2 := byWord_any q decC v W h hl decC_pos (by unfold decC b64; omega)
 have e : ((decC : Nat) : Int) = 10000000000000000000 := rfl
 rw [e] at h2
 exact h2
theorem rep_any (c : Nat) (W : World) (hc : c ≤ 19) : Calls Tryz.prog 52 #[.string { data := #[48] }, .int .i64 (c : Int)] W (fun e w' => e = .returned (.string (strB (List.replicate c 48))) ∧ Below W.heap.size W w') := by
 have h := Tryz.strings_Repeat { data := #[48] } c W (by omega) (by show 1 * c ≤ _; omega)
 rw [show Lib.repeatL (ByteArray.mk #[48]).data.toList c = List.replicate c 48 from repeat_zero c] at h
 exact h
theorem write_any (B b : Nat) (l m : List UInt8) (W : World) (h : Lib.IsBuilder 111 5 B b (Lib.byteCells l) W) (hl : l.length + m.length ≤ 140737488355328) (hB : B ≤ W.heap.size) :
  Calls Tryz.prog 53 #[.pointer (some ⟨b, 0, none⟩), .string (strB m)] W (fun e w' => e = .returned (.tuple #[.int .i64 ((strB m).size : Int), .nilIface]) ∧ Lib.IsBuilder 111 5 B b (Lib.byteCells (l ++ m)) w' ∧ Below B W w') := by
 refine (Any.Builder_WriteString { Tryz.lays105 with } Tryz.Builder_Extra_105 B b (Lib.byteCells l) (strB m) W h (by rw [Lib.byteCells_length, strB_size]; exact hl) hB).mono fun e w' he => ?_
 obtain ⟨he, h1, h2⟩ := he
 refine ⟨he, .inr ?_, h2⟩
 have e2 : Lib.byteCells (l ++ m) = Lib.byteCells l ++ Lib.strCells (strB m) := by simp [Lib.byteCells, Lib.strCells, strB]
 rw [e2]
 exact h1
theorem new_builder (w : World) : Lib.IsBuilder 111 5 w.heap.size w.heap.size (Lib.byteCells []) (w.alloc (.cells #[.pointer none, .slice none 0 0] 111)) :=
 .inl ⟨Nat.le_refl _, _, blk_new w _ _, World.ownsRow_nil _ _ _ _, by simp [Value.ownBlock]⟩

theorem own_base {w : World} {base : Nat} {e : TypeId} {size : Nat} {v : Value} {n : Nat} {xs : List Value} (h : w.ownsRow base e size v n xs) : ∀ k, v.ownBlock = some k → base ≤ k := by
 intro k hk
 rcases h.2 with ⟨rfl, _⟩ | ⟨g, cap, cur, rfl, hb, _⟩
 ·
  simp [Value.ownBlock] at hk
 ·
  simp [Value.ownBlock] at hk
  omega
theorem decT_pos (n : Nat) (h : n ≠ 0) : decT n = decL n := by unfold decT; rw [if_neg h]
set_option maxRecDepth 100000 in
set_option maxHeartbeats 8000000 in
theorem text_any (n : Nat) (v : Value) (w : World) (h : IsNat .u64 b64 w v n) (hsz : (dig b64 n).length ≤ 68719476736) : Calls Tryz.prog 35 #[v] w (RetStr (decT n) w) := by
 have H := Lib.hid h
 have hd := digits_len n
 have HD := Lib.hid hd
 have HSZ := Lib.hid hsz
 obtain ⟨iS, hiS, hzS, hsS, hyS⟩ := info_parts info_string
 have hzd : ∀ u ∈ (Value.string ByteArray.empty).cells.toList, noDig u := by
  intro u hu
  simp [Value.cells] at hu
  subst hu
  exact noDig_string _
 clear h hd hsz
 have HN1 : Hid (n / decC ^ 0 = n) := by show _ = _; rw [Nat.pow_zero, Nat.div_one]
 have hvs : ∃ ao cap, v = .slice ao (dig b64 n).length cap := by obtain ⟨ao, cap, e, _⟩ := IsRow.opened H.out; exact ⟨ao, cap, e⟩
 obtain ⟨ao0, cap0, rfl⟩ := hvs
 go_enter Tryz.func35, Tryz.ntmps35
 go_wp2_with fail
 go_loopw [0, 3] (fun av pv wr => ∃ (k : Nat), IsNat .u64 b64 wr av (n / decC ^ k) ∧ (k = 0 ∨ n / decC ^ (k - 1) ≠ 0) ∧ Hid (LRow wr w.heap.size 9 1 pv k (partCells n k)) ∧ Below w.heap.size w wr)
  (fun _ pv _ => 1374389534721 - sliceLen pv)
 case atStart => exact ⟨0, by rw [HN1.out]; exact H.out, .inl rfl, LRow.nil _ _ _ _, Below.refl _ _⟩
 case round =>
  clear H
  obtain ⟨k, hA, hk, hL, hbel⟩ := hrel
  have HK := Lib.hid hk
  obtain ⟨ao, cap, rfl, hg⟩ := hL.out.form
  have HA := Lib.hid hA
  obtain ⟨aa, ca, rfl, _⟩ := IsRow.opened hA
  clear hA hk
  by_cases h0 : n / decC ^ k = 0
  ·
   have Hq0 := Lib.hid h0
   rw [h0, dig_zero, List.length_nil]
   clear h0 HA
   by_cases hk0 : k = 0
   ·
    have Hn : Hid (decT n = [48]) := by
     show _ = _
     have : n = 0 := by have := Hq0.out; rw [hk0, HN1.out] at this; exact this
     rw [this]; rfl
    subst hk0
    go_wp2_with fail
    go_ret
    exact ⟨by rw [Hn.out]; rfl, hbel⟩
   ·
    have hn0 : Hid (n ≠ 0) := by
     show n ≠ 0
     rintro rfl
     rcases HK.out with h | h
     ·
      exact hk0 h
     ·
      exact h (Nat.zero_div _)
    have Hkb : Hid (k ≤ 1374389534720) := by
     show _ ≤ _
     rcases HK.out with h | h
     ·
      omega
     ·
      have := parts_len n (k - 1) h; have := HSZ.out; omega
    have tk : ((k : Int) == 0) = false := beq_eq_false_iff_ne.2 (by omega)
    obtain ⟨g, rfl, hgl, hgb⟩ := hg (by omega)
    have hkb := Hkb.out
    have ek : IntKind.i64.wrap ((k : Int) - 1) = (k : Int) - 1 := IntWalk.i64_in _ (by omega)
    obtain ⟨kp, hkp⟩ : ∃ z : Int, z = (k : Int) - 1 := ⟨_, rfl⟩
    have HKP := Lib.hid hkp
    rw [← hkp] at ek
    have ek2 : IntKind.i64.wrap ((k : Int) - 1) = kp := by rw [hkp]; exact IntWalk.i64_in _ (by omega)
    have hnb := new_builder wr
    have hal := (Below.refl wr.heap.size wr).alloc (Nat.le_refl _) (.cells #[.pointer none, .slice none 0 0] 111)
    have HL1 := Lib.hid (hL.out.below hal)
    have hx1 := ext_trans hbel hal
    have hBs : wr.heap.size < (wr.alloc (.cells #[.pointer none, .slice none 0 0] 111)).heap.size := by simp
    have HNB := Lib.hid hnb
    have hwB := hbel.size
    clear ek hkp hkb hL hbel hnb
    go_wp2_with fail
    generalize wr.alloc (.cells #[.pointer none, .slice none 0 0] 111) = W1 at *
    generalize wr.heap.size = B at *
    go_loopw [8] (fun iv wx => ∃ (j : Nat) (z : Int), z = (j : Int) - 1 ∧ j ≤ k ∧ iv = .int .i64 z ∧ Hid (Lib.IsBuilder 111 5 B B (Lib.byteCells (decL (n / decC ^ j))) wx) ∧ Below B W1 wx) (fun iv _ => (intOf iv + 1).toNat)
    case atStart => exact ⟨k, _, HKP.out, Nat.le_refl _, rfl, by rw [Hq0.out]; exact HNB.out, Below.refl _ _⟩
    case round =>
     clear HNB hal
     obtain ⟨j, z, hz, hj, rfl, hIB, hbx⟩ := hrel
     have hBx : B < wr.heap.size := Nat.lt_of_lt_of_le hBs hbx.size
     have hgx : g < B := hgl
     have hxx : Below w.heap.size w wr := hx1.trans (hbx.mono hwB)
     by_cases hj0 : j = 0
     ·
      have t9 : decide (z ≥ 0) = false := decide_eq_false (by omega)
      have hs := fun h => Tryz.Builder_String_any B B (decL n) wr h (Nat.le_of_lt hBx)
      have HS := Lib.hid (hs (by have := hIB.out; rw [hj0, HN1.out] at this; exact this))
      have HT := Lib.hid (decT_pos n hn0.out)
      clear hs hz hj0 hIB
      go_wp2_with fail
      refine HS.out.mono ?_
      rintro e w3 ⟨rfl, hb3⟩
      go_wp2_with fail
      go_ret
      exact ⟨by rw [HT.out]; rfl, hxx.trans (hb3.mono (by omega))⟩
     ·
      obtain ⟨i, rfl⟩ : ∃ i, j = i + 1 := ⟨j - 1, by omega⟩
      obtain rfl : z = (i : Int) := by omega
      have t9 : decide ((i : Int) ≥ 0) = true := decide_eq_true (by omega)
      have hi0 : (0 : Int) ≤ i := by omega
      have hik : (i : Int) < k := by omega
      have hce : (partCells n k)[i]? = some (.string (strB (partL n i))) := by
       unfold partCells
       rw [List.getElem?_map, List.getElem?_range (by omega)]
       rfl
      have c0 := HL1.out.cellAt i _ hce
      have c1 : wr.cell? ⟨g, i, none⟩ = some (.string (strB (partL n i))) := (hbx.cell (p := ⟨g, i, none⟩) hgx).trans c0
      have c2 : wr.cell? ⟨g, 0 + i, none⟩ = some (.string (strB (partL n i))) := by rw [Nat.zero_add]; exact c1
      have hps := Lib.hid (partL_step n i)
      have hlen1 := partL_len n i
      have hlen2 : (decL (n / decC ^ (i + 1))).length ≤ (dig 10 n).length := by rw [decL_length]; exact dig_length_mono ten_two (Nat.div_le_self _ _)
      have HW := Lib.hid (write_any B B (decL (n / decC ^ (i + 1))) (partL n i) wr hIB.out (by have := HD.out; have := HSZ.out; omega) (Nat.le_of_lt hBx))
      clear c0 hce hz hj0 hIB hlen1 hlen2
      generalize partL n i = pp at *
      go_wp2_with fail
      refine HW.out.mono ?_
      rintro e w3 ⟨rfl, hib3, hb3⟩
      rw [hps.out] at hib3
      have HIB := Lib.hid hib3
      have e1 : IntKind.i64.wrap ((i : Int) - 1) = (i : Int) - 1 := IntWalk.i64_in _ (by have := Hkb.out; omega)
      have e2 : Hid (((intOf (.int .i64 ((i : Int) - 1))) + 1).toNat < ((intOf (.int .i64 (i : Int))) + 1).toNat) := by show _ < _; simp [intOf] <;> omega
      clear hib3
      go_wp2_with fail
      exact ⟨⟨i, (i : Int) - 1, rfl, by omega, rfl, HIB.out, hbx.trans hb3⟩, e2.out⟩
  ·
   have hlen : 0 < (dig b64 (n / decC ^ k)).length := by
    rcases Nat.eq_zero_or_pos (dig b64 (n / decC ^ k)).length with h | h
    ·
     exact absurd ((dig_nil_iff b64_two _).1 (List.eq_nil_of_length_eq_zero h)) h0
    ·
     exact h
   have t1 : decide (0 < (dig b64 (n / decC ^ k)).length) = true := decide_eq_true hlen
   have hLq : (dig b64 (n / decC ^ k)).length ≤ (dig b64 n).length := dig_length_mono b64_two (Nat.div_le_self _ _)
   have hpl := parts_len n k h0
   have Hk1 : Hid (n / decC ^ (k + 1 - 1) ≠ 0) := by show _ ≠ _; rw [Nat.add_sub_cancel]; exact h0
   have Hsu := Lib.hid (partCells_succ n k)
   have Hpd : Hid (n / decC ^ (k + 1) = n / decC ^ k / decC) := by show _ = _; rw [Nat.div_div_eq_div_mul, Nat.pow_succ]
   have Hpl : Hid (partL n k = if n / decC ^ k / decC = 0 then decL (n / decC ^ k) else decZ 19 (n / decC ^ k % decC)) := rfl
   have hkb : k ≤ 1374389534720 := by have := HSZ.out; omega
   have HBW := Lib.hid (fun W h => bw_any (n / decC ^ k) (.slice aa (dig b64 (n / decC ^ k)).length ca) W h (by have := HSZ.out; omega))
   clear hlen hLq hpl h0 hg
   generalize hPK : partL n k = pk at *
   generalize n / decC ^ k = q at *
   clear hPK
   go_wp2_with fail
   refine (HBW.out _ HA.out).mono ?_
   rintro e w1 ⟨vq, rfl, hvq, hb1⟩
   have HVQ := Lib.hid hvq
   obtain ⟨aq, cq, rfl, _⟩ := IsRow.opened hvq
   have hr : q % decC < decC := Nat.mod_lt _ decC_pos
   have HL1 := Lib.hid (hL.out.below hb1)
   have hx1 := ext_trans hbel hb1
   clear hvq hb1 hL hbel HBW t1
   go_wp2_with fail
   refine (decimal_any (q % decC) _ (Nat.lt_trans hr (by unfold decC b64; omega))).mono ?_
   rintro e w2 ⟨rfl, hb2⟩
   have HL2 := Lib.hid (HL1.out.below hb2)
   have HVQ2 := Lib.hid (HVQ.out.below hb2)
   have hx2 := ext_trans hx1 hb2
   clear HL1 HVQ hx1 hb2
   by_cases h1 : q / decC = 0
   ·
    have hL0 : (dig b64 (q / decC)).length = 0 := by rw [h1]; rfl
    have Hpk : Hid (pk = decL (q % decC)) := by
     show _ = _
     rw [Hpl.out, if_pos h1]
     rcases Nat.lt_or_ge q decC with h | h
     ·
      rw [Nat.mod_eq_of_lt h]
     ·
      exact absurd (Nat.div_pos h decC_pos) (by omega)
    rw [hL0] at HVQ2 ⊢
    generalize decL (q % decC) = m at *
    have HL3 := Lib.hid (HL2.out.below ((Below.refl w2.heap.size w2).alloc (Nat.le_refl _) (.cells #[.string (strB m)] 9)))
    have hx3 := hx2.alloc hx2.size (.cells #[.string (strB m)] 9)
    have hsz2 := hx2.size
    clear hr h1 hL0
    have HVQ3 := Lib.hid (HVQ2.out.below ((Below.refl w2.heap.size w2).alloc (Nat.le_refl _) (.cells #[.string (strB m)] 9)))
    go_wp2_with (at_builtin; refine wpList_append_lrow _ rfl (.tmp 28) (.tmp 30) 102 rfl w.heap.size 9 iS _ 1 16 Tryz.underlying102 hiS hzS hsS hyS rfl (by decide) hzd _ _ _ rfl HL3.out ⟨w2.heap.size, 0, none⟩ 1 1 [.string (strB m)] rfl rfl (cell_new1 _ _ _) (by simp [Value.oneCell']) (by intro u hu; simp at hu; subst hu; exact noDig_string _) (by omega) (by unfold maxLen; omega) (by omega) (by simp; omega) ?_)
    intro g' cap' w3 hL4 hgr hat
    have HL4 := Lib.hid hL4
    have hx4 : Below w.heap.size w w3 := hx3.grown hgr (by simp; omega) (own_base HL3.out.1)
    have HVQ4 := Lib.hid (IsRow.grown (.inl rfl) (HVQ3.out) hgr HL3.out.2)
    clear hL4 hx3
    go_wp2_with fail
    exact ⟨⟨k + 1, by rw [Hpd.out]; exact HVQ4.out, .inr Hk1.out, by rw [Hsu.out, Hpk.out]; exact HL4.out, hx4⟩, by show 1374389534721 - (k + 1) < 1374389534721 - k; omega⟩
   ·
    have hl2 : 0 < (dig b64 (q / decC)).length := by
     rcases Nat.eq_zero_or_pos (dig b64 (q / decC)).length with h | h
     ·
      exact absurd ((dig_nil_iff b64_two _).1 (List.eq_nil_of_length_eq_zero h)) h1
     ·
      exact h
    have t2 : decide (0 < (dig b64 (q / decC)).length) = true := decide_eq_true hl2
    have Hpk : Hid (pk = decZ 19 (q % decC)) := by show _ = _; rw [Hpl.out, if_neg h1]
    have hm19 : (decL (q % decC)).length ≤ 19 := by
     rw [decL_length]
     exact dig_length_le ten_two 19 _ (by rw [← decC_eq]; exact hr)
    have Hz : Hid (decZ 19 (q % decC) = List.replicate (19 - (decL (q % decC)).length) 48 ++ decL (q % decC)) := rfl
    generalize decL (q % decC) = m at *
    obtain ⟨c, hc⟩ : ∃ c, m.length + c = 19 := ⟨19 - m.length, by omega⟩
    have hsm : (strB m).size = m.length := rfl
    have e1 : IntKind.i64.wrap (19 - ((strB m).size : Int)) = (c : Int) := by rw [hsm, show (19 : Int) - (m.length : Int) = (c : Int) by omega]; exact IntWalk.i64_in _ (by omega)
    have hcat : strB (List.replicate c 48) ++ strB m = strB pk := by rw [strB_append, Hpk.out, Hz.out, show 19 - m.length = c by omega]
    have hc19 : c ≤ 19 := by omega
    have hz1 : (strB (List.replicate c 48)).size ≤ 19 := by rw [strB_size, List.length_replicate]; exact hc19
    have hz2 : (strB m).size ≤ 19 := by rw [strB_size]; omega
    clear hr h1 hl2 hm19 hc hsm Hz
    go_wp2_with fail
    refine (rep_any c _ hc19).mono ?_
    rintro e w2' ⟨rfl, hb3⟩
    have HL3 := Lib.hid ((HL2.out.below hb3).below ((Below.refl w2'.heap.size w2').alloc (Nat.le_refl _) (.cells #[.string (strB pk)] 9)))
    have HVQ3 := Lib.hid ((HVQ2.out.below hb3).below ((Below.refl w2'.heap.size w2').alloc (Nat.le_refl _) (.cells #[.string (strB pk)] 9)))
    have hx2' := ext_trans hx2 hb3
    have hx3 := hx2'.alloc hx2'.size (.cells #[.string (strB pk)] 9)
    have hsz2 := hx2'.size
    clear hb3 hx2 hx2'
    go_wp2_with (at_builtin; refine wpList_append_lrow _ rfl (.tmp 28) (.tmp 30) 102 rfl w.heap.size 9 iS _ 1 16 Tryz.underlying102 hiS hzS hsS hyS rfl (by decide) hzd _ _ _ rfl HL3.out ⟨w2'.heap.size, 0, none⟩ 1 1 [.string (strB pk)] rfl rfl (cell_new1 _ _ _) (by simp [Value.oneCell']) (by intro u hu; simp at hu; subst hu; exact noDig_string _) (by omega) (by unfold maxLen; omega) (by omega) (by simp; omega) ?_)
    intro g' cap' w3 hL4 hgr hat
    have HL4 := Lib.hid hL4
    have hx4 : Below w.heap.size w w3 := hx3.grown hgr (by simp; omega) (own_base HL3.out.1)
    have HVQ4 := Lib.hid (IsRow.grown (.inl rfl) (HVQ3.out) hgr HL3.out.2)
    clear hL4 hx3
    go_wp2_with fail
    exact ⟨⟨k + 1, by rw [Hpd.out]; exact HVQ4.out, .inr Hk1.out, by rw [Hsu.out]; exact HL4.out, hx4⟩, by show 1374389534721 - (k + 1) < 1374389534721 - k; omega⟩

theorem decT_len (n : Nat) (h : (dig b64 n).length ≤ 68719476736) : (strB (decT n)).size ≤ 1374389534720 := by
 have := digits_len n
 rw [strB_size]
 unfold decT
 split
 ·
  simp
 ·
  rw [decL_length]; omega

set_option maxRecDepth 100000 in
set_option maxHeartbeats 4000000 in
theorem textRat_any (q : Rat) (v : Value) (w : World) (h : IsRat w v q) (hs : szR q 68719476736) : Calls Tryz.prog 19 #[v] w (RetStr (txtQ q) w) := by
 obtain ⟨a1, c1, a2, c2, rfl, n1, n2⟩ := h.opened
 have N1 := Lib.hid n1
 have N2 := Lib.hid n2
 have HS := Lib.hid hs
 have hB := blk_new w #[.bool (decide (q.num < 0)), .slice a1 (dig b64 q.num.natAbs).length c1, .slice a2 (dig b64 (dn q.den)).length c2] 54
 have hal := (Below.refl w.heap.size w).alloc (Nat.le_refl _) (.cells #[.bool (decide (q.num < 0)), .slice a1 (dig b64 q.num.natAbs).length c1, .slice a2 (dig b64 (dn q.den)).length c2] 54)
 have hT1 := text_any q.num.natAbs (.slice a1 (dig b64 q.num.natAbs).length c1) _ (n1.below hal) hs.1
 have HT1 := Lib.hid hT1
 clear h n1 n2 hs hT1
 have Htx : Hid (txtQ q = (if q.num < 0 then [45] else []) ++ (decT q.num.natAbs ++ (if q.den = 1 then [] else 47 :: decT q.den))) := rfl
 go_enter Tryz.func19, Tryz.ntmps19
 go_wp2_with fail
 refine HT1.out.mono ?_
 rintro e w1 ⟨rfl, hb1⟩
 have hB1 := blk_keep hB hb1 (blk_lt hB)
 have hx1 := ext_trans hal hb1
 have p0 := blk_cell hB1 0 (.bool (decide (q.num < 0))) rfl
 have p2 := blk_cell hB1 2 (.slice a2 (dig b64 (dn q.den)).length c2) rfl
 have HN2 := Lib.hid (N2.out.below hx1)
 clear hB hB1 hal hb1 HT1
 have hz1 := decT_len q.num.natAbs HS.out.1
 have ho1 : (ByteArray.mk #[45]).size = 1 := rfl
 have ho2 : (ByteArray.mk #[47]).size = 1 := rfl
 by_cases hneg : q.num < 0
 ·
  have tn : decide (q.num < 0) = true := decide_eq_true hneg
  have Hneg := Lib.hid hneg
  rw [tn] at p0 ⊢
  clear hneg tn
  by_cases hd : q.den = 1
  ·
   have hdn : dn q.den = 0 := by simp [dn, hd]
   rw [hdn] at p2 ⊢
   rw [dig_zero, List.length_nil] at p2 ⊢
   have Htx2 : Hid (txtQ q = [45] ++ decT q.num.natAbs) := by show _ = _; rw [Htx.out, if_pos Hneg.out, if_pos hd, List.append_nil]
   clear hd hdn Htx HN2 N2
   have hcat : ByteArray.mk #[45] ++ strB (decT q.num.natAbs) = strB (txtQ q) := by rw [show ByteArray.mk #[45] = strB [45] from rfl, strB_append, Htx2.out]
   go_wp2_with fail
   go_ret
   exact ⟨rfl, hx1⟩
  ·
   have hdn : dn q.den = q.den := by simp [dn, hd]
   rw [hdn] at p2 HN2 ⊢
   have hlen : 0 < (dig b64 q.den).length := by
    rcases Nat.eq_zero_or_pos (dig b64 q.den).length with h | h
    ·
     exact absurd ((dig_nil_iff b64_two _).1 (List.eq_nil_of_length_eq_zero h)) (by have := q.den_pos; omega)
    ·
     exact h
   have tl : decide (0 < (dig b64 q.den).length) = true := decide_eq_true hlen
   have Htx2 : Hid (txtQ q = [45] ++ (decT q.num.natAbs ++ 47 :: decT q.den)) := by show _ = _; rw [Htx.out, if_pos Hneg.out, if_neg hd]
   have hz2 := decT_len q.den HS.out.2
   have HT2 := Lib.hid (text_any q.den _ _ HN2.out HS.out.2)
   have hcat2 : ByteArray.mk #[47] ++ strB (decT q.den) = strB (47 :: decT q.den) := by rw [show ByteArray.mk #[47] = strB [47] from rfl, strB_append]; rfl
   have hz3 : (strB (47 :: decT q.den)).size ≤ 1374389534721 := by rw [strB_size] at hz2 ⊢; rw [List.length_cons]; omega
   have hcat1 : ByteArray.mk #[45] ++ strB (decT q.num.natAbs) = strB (45 :: decT q.num.natAbs) := by rw [show ByteArray.mk #[45] = strB [45] from rfl, strB_append]; rfl
   have hcat3 : strB (45 :: decT q.num.natAbs) ++ strB (47 :: decT q.den) = strB (txtQ q) := by rw [strB_append, Htx2.out]; rfl
   have hz4 : (strB (45 :: decT q.num.natAbs)).size ≤ 1374389534721 := by rw [strB_size] at hz1 ⊢; rw [List.length_cons]; omega
   clear hd hdn Htx hlen HN2 N2
   go_wp2_with fail
   refine HT2.out.mono ?_
   rintro e w2 ⟨rfl, hb2⟩
   go_wp2_with fail
   go_ret
   exact ⟨rfl, ext_trans hx1 hb2⟩
 ·
  have tn : decide (q.num < 0) = false := decide_eq_false hneg
  have Hneg := Lib.hid hneg
  rw [tn] at p0 ⊢
  clear hneg tn
  by_cases hd : q.den = 1
  ·
   have hdn : dn q.den = 0 := by simp [dn, hd]
   rw [hdn] at p2 ⊢
   rw [dig_zero, List.length_nil] at p2 ⊢
   have Htx2 : Hid (txtQ q = decT q.num.natAbs) := by show _ = _; rw [Htx.out, if_neg Hneg.out, if_pos hd, List.append_nil]; rfl
   clear hd hdn Htx HN2 N2
   go_wp2_with fail
   go_ret
   exact ⟨by rw [Htx2.out]; rfl, hx1⟩
  ·
   have hdn : dn q.den = q.den := by simp [dn, hd]
   rw [hdn] at p2 HN2 ⊢
   have hlen : 0 < (dig b64 q.den).length := by
    rcases Nat.eq_zero_or_pos (dig b64 q.den).length with h | h
    ·
     exact absurd ((dig_nil_iff b64_two _).1 (List.eq_nil_of_length_eq_zero h)) (by have := q.den_pos; omega)
    ·
     exact h
   have tl : decide (0 < (dig b64 q.den).length) = true := decide_eq_true hlen
   have Htx2 : Hid (txtQ q = decT q.num.natAbs ++ 47 :: decT q.den) := by show _ = _; rw [Htx.out, if_neg Hneg.out, if_neg hd]; rfl
   have hz2 := decT_len q.den HS.out.2
   have HT2 := Lib.hid (text_any q.den _ _ HN2.out HS.out.2)
   have hcat2 : ByteArray.mk #[47] ++ strB (decT q.den) = strB (47 :: decT q.den) := by rw [show ByteArray.mk #[47] = strB [47] from rfl, strB_append]; rfl
   have hz3 : (strB (47 :: decT q.den)).size ≤ 1374389534721 := by rw [strB_size] at hz2 ⊢; rw [List.length_cons]; omega
   have hcat3 : strB (decT q.num.natAbs) ++ strB (47 :: decT q.den) = strB (txtQ q) := by rw [strB_append, Htx2.out]
   clear hd hdn Htx hlen HN2 N2
   go_wp2_with fail
   refine HT2.out.mono ?_
   rintro e w2 ⟨rfl, hb2⟩
   go_wp2_with fail
   go_ret
   exact ⟨rfl, ext_trans hx1 hb2⟩

end Go.Proofs.YtofijjomfhmbjaaGreat

namespace Go.Proofs.YtofijjomfhmbjaaGreat
open Go.RowKit

theorem pt_fields : (Tryz.prog.fieldsOf 45).toList = [{ name := "X", type := 3, offset := 0, embedded := false, tag := "", pkgPath := "", byteOffset := 0 }, { name := "Y", type := 3, offset := 1, embedded := false, tag := "", pkgPath := "", byteOffset := 8 }] := by kernel_rfl
set_option maxRecDepth 100000 in
theorem eql_pt (a b c d : Int) (w : World) : (binOp .eql 45 (.agg #[.int .i64 a, .int .i64 b]) (.agg #[.int .i64 c, .int .i64 d])).run Tryz.prog w = .ok (.bool (a == c && b == d)) w := by
 rw [run_eql_struct, run_equalIn_struct w 9999 45 _ _ (by kernel_rfl) (by kernel_rfl), pt_fields]
 have n0 : ("X" ≠ "_") := by decide
 have n1 : ("Y" ≠ "_") := by decide
 unfold Op.eqFields
 rw [if_pos n0]
 simp only [Sem.run_bind, (part2 _ _ _).1, eqInt, Result.andThen_ok, Sem.run_ite]
 cases a == c with
 | false => simp
 | true =>
  unfold Op.eqFields
  rw [if_pos n1]
  simp only [Sem.run_bind, (part2 _ _ _).2, eqInt, Result.andThen_ok, Sem.run_ite]
  unfold Op.eqFields
  by_cases h : b = d <;> simp [h]

def ptsA : List Pt := [(0, 0), (10, 0), (0, 10)]
def crsA : Crs := ⟨0, 2, 6, 1, 0, 10⟩
theorem outErr_A : outErr ptsA = 0 := by
 refine outErr_ok _ (by decide) (by decide) ?_
 intro k hk j hj i hi
 have : k = 2 := by simp [ptsA] at hk; omega
 subst this
 obtain rfl : j = 1 := by omega
 obtain rfl : i = 0 := by omega
 decide
theorem areaQ_A : areaQ ptsA = 50 := by decide +kernel
theorem txt_50 : strB (txtQ 50) = { data := #[53, 48] } := by decide +kernel
theorem towsErr_A : towsErr [crsA] = 0 := by decide +kernel
theorem towsVal_A : towsVal [crsA] = [(0, 0, 10, 6), (0, 7, 10, 13)] := by decide +kernel
theorem pts_new3 (w : World) (a b c d e f : Int) (t : TypeId) : PairsOf (w.alloc (.cells #[.int .i64 a, .int .i64 b, .int .i64 c, .int .i64 d, .int .i64 e, .int .i64 f] t)) (.slice (some ⟨w.heap.size, 0, none⟩) 3 3) [(a, b), (c, d), (e, f)] := by
 have hB := blk_new w #[.int .i64 a, .int .i64 b, .int .i64 c, .int .i64 d, .int .i64 e, .int .i64 f] t
 refine ⟨_, 3, rfl, fun _ => ⟨w.heap.size, 0, rfl, blk_lt hB, fun i hi => ?_⟩⟩
 match i, hi with
 | 0, _ => exact ⟨blk_cell hB 0 _ rfl, blk_cell hB 1 _ rfl⟩
 | 1, _ => exact ⟨blk_cell hB 2 _ rfl, blk_cell hB 3 _ rfl⟩
 | 2, _ => exact ⟨blk_cell hB 4 _ rfl, blk_cell hB 5 _ rfl⟩
 | i + 3, hi => simp at hi; omega
theorem crs_new1 (w : World) (c : Crs) (t : TypeId) : CrsOf (w.alloc (.cells #[.int .i64 c.first, .int .i64 c.tows, .int .i64 c.width, .int .i64 c.gap, .int .i64 c.from_, .int .i64 c.to_] t)) (.slice (some ⟨w.heap.size, 0, none⟩) 1 1) [c] := by
 have hB := blk_new w #[.int .i64 c.first, .int .i64 c.tows, .int .i64 c.width, .int .i64 c.gap, .int .i64 c.from_, .int .i64 c.to_] t
 refine ⟨_, 1, rfl, fun _ => ⟨w.heap.size, 0, rfl, blk_lt hB, fun i hi => ?_⟩⟩
 match i, hi with
 | 0, _ => exact ⟨blk_cell hB 0 _ rfl, blk_cell hB 1 _ rfl, blk_cell hB 2 _ rfl, blk_cell hB 3 _ rfl, blk_cell hB 4 _ rfl, blk_cell hB 5 _ rfl⟩
 | i + 1, hi => simp at hi

set_option maxRecDepth 100000 in
set_option maxHeartbeats 1000000 in
theorem awake03_any (w : World) : Calls Tryz.prog 4 #[] w (RetBool true w) := by
 have HT : Hid (∀ W, Calls Tryz.prog 16 #[.agg #[.int .i64 3, .int .i64 4], .agg #[.int .i64 2, .int .i64 1]] W (fun e w' => e = .returned (.tuple #[.agg #[.int .i64 10, .int .i64 (-5)], .int .i64 0]) ∧ Below W.heap.size W w')) := fun W => turned_ok (3, 4) (2, 1) W (by decide) (by decide) (by decide) (by decide) (by decide)
 have HA : Hid (∀ W v, PairsOf W v ptsA → Calls Tryz.prog 17 #[v] W (RetRatE 50 0 W)) := fun W v h => by
  have := layupArea_ok ptsA v W h outErr_A
  rw [areaQ_A] at this
  exact this
 have HW : Hid (∀ W v, CrsOf W v [crsA] → Calls Tryz.prog 18 #[v] W (fun e w' => ∃ v, e = .returned (.tuple #[v, .int .i64 0]) ∧ BxsOf w' v [(0, 0, 10, 6), (0, 7, 10, 13)] ∧ Below W.heap.size W w')) := fun W v h => by
  have := tows_any [crsA] v W h
  unfold RetTows at this
  rw [towsErr_A, towsVal_A] at this
  exact this
 have HX : Hid (∀ W v, IsRat W v 50 → Calls Tryz.prog 19 #[v] W (fun e w' => e = .returned (.string { data := #[53, 48] }) ∧ Below W.heap.size W w')) := fun W v h => by
  have := textRat_any 50 v W h (i64_szR 50 (by omega) (by omega) _ (by omega))
  unfold RetStr at this
  rw [txt_50] at this
  exact this
 have he := eql_pt 10 (-5) 10 (-5)
 rw [show ((10 : Int) == 10 && (-5 : Int) == -5) = true from rfl] at he
 go_enter Tryz.func4, Tryz.ntmps4
 go_wp2_with fail
 refine (HT.out _).mono ?_
 rintro e w1 ⟨rfl, hb1⟩
 have hP := blk_new w1 #[.int .i64 10, .int .i64 (-5)] 45
 have hx1 := hb1.alloc hb1.size (.cells #[.int .i64 10, .int .i64 (-5)] 45)
 have hPl : w1.heap.size < (w1.alloc (.cells #[.int .i64 10, .int .i64 (-5)] 45)).heap.size := by simp
 clear hb1
 have hPA := pts_new3 (w1.alloc (.cells #[.int .i64 10, .int .i64 (-5)] 45)) 0 0 10 0 0 10 45
 rw [World.size_alloc] at hPA
 have HPA := Lib.hid hPA
 clear hPA
 have hP2 := blk_keep hP ((Below.refl _ _).alloc (Nat.le_refl _) (.cells #[.int .i64 0, .int .i64 0, .int .i64 10, .int .i64 0, .int .i64 0, .int .i64 10] 45)) hPl
 have hx2 := hx1.alloc hx1.size (.cells #[.int .i64 0, .int .i64 0, .int .i64 10, .int .i64 0, .int .i64 0, .int .i64 10] 45)
 clear hx1 hP hPl
 go_wp2_with fail
 refine (HA.out _ _ HPA.out).mono ?_
 rintro e w2 ⟨va, rfl, hva, hb2⟩
 have hP3 := blk_keep hP2 hb2 (blk_lt hP2)
 have hx3 := ext_trans hx2 hb2
 obtain ⟨a5, c5, a6, c6, rfl, _, _⟩ := hva.opened
 have HVA := Lib.hid hva
 clear hP2 hb2 hx2 hva HPA
 generalize hq : (50 : Rat) = q at *
 clear hq
 have hal4 := (Below.refl w2.heap.size w2).alloc (Nat.le_refl _) (.cells #[.bool (decide (q.num < 0)), .slice a5 (dig b64 q.num.natAbs).length c5, .slice a6 (dig b64 (dn q.den)).length c6] 54)
 have hQ := blk_new w2 #[.bool (decide (q.num < 0)), .slice a5 (dig b64 q.num.natAbs).length c5, .slice a6 (dig b64 (dn q.den)).length c6] 54
 have hP4 := blk_keep hP3 hal4 (blk_lt hP3)
 have hx4 := ext_trans hx3 hal4
 have HVA4 := Lib.hid (HVA.out.below hal4)
 clear hP3 hx3 hal4 HVA
 have hCA := (crs_new1 (w2.alloc (.cells #[.bool (decide (q.num < 0)), .slice a5 (dig b64 q.num.natAbs).length c5, .slice a6 (dig b64 (dn q.den)).length c6] 54)) crsA 61)
 rw [World.size_alloc] at hCA
 have HCA := Lib.hid hCA
 clear hCA
 have hal5 := (Below.refl (w2.alloc (.cells #[.bool (decide (q.num < 0)), .slice a5 (dig b64 q.num.natAbs).length c5, .slice a6 (dig b64 (dn q.den)).length c6] 54)).heap.size (w2.alloc (.cells #[.bool (decide (q.num < 0)), .slice a5 (dig b64 q.num.natAbs).length c5, .slice a6 (dig b64 (dn q.den)).length c6] 54))).alloc (Nat.le_refl _) (.cells #[.int .i64 0, .int .i64 2, .int .i64 6, .int .i64 1, .int .i64 0, .int .i64 10] 61)
 have hQ5 := blk_keep hQ hal5 (blk_lt hQ)
 have hP5 := blk_keep hP4 hal5 (blk_lt hP4)
 have hx5 := ext_trans hx4 hal5
 have HVA5 := Lib.hid (HVA4.out.below hal5)
 clear hQ hP4 hx4 hal5 HVA4
 go_wp2_with fail
 refine (HW.out _ _ HCA.out).mono ?_
 rintro e w6 ⟨vt, rfl, hvt, hb6⟩
 obtain ⟨ao, cap, rfl, hB⟩ := hvt
 obtain ⟨b, off, rfl, hbl, hBB⟩ := hB (by simp)
 obtain ⟨_, hy, _, _⟩ := hBB 1 (by simp)
 have hy2 : w6.cell? ⟨b, off + 4 + 1, none⟩ = some (.int .i64 7) := hy
 have hQ6 := blk_keep hQ5 hb6 (blk_lt hQ5)
 have hP6 := blk_keep hP5 hb6 (blk_lt hP5)
 have hx6 := ext_trans hx5 hb6
 have HVA6 := Lib.hid (HVA5.out.below hb6)
 have p0 := blk_cell hP6 0 (.int .i64 10) rfl
 have p1 := blk_cell hP6 1 (.int .i64 (-5)) rfl
 have q0 := blk_cell hQ6 0 (.bool (decide (q.num < 0))) rfl
 have q1 := blk_cell hQ6 1 (.slice a5 (dig b64 q.num.natAbs).length c5) rfl
 have q2 := blk_cell hQ6 2 (.slice a6 (dig b64 (dn q.den)).length c6) rfl
 clear hQ5 hP5 hx5 hb6 HVA5 HCA hQ6 hP6 hBB hB hy
 go_wp2_with fail
 refine (HX.out _ _ HVA6.out).mono ?_
 rintro e w7 ⟨rfl, hb7⟩
 have hy3 := (hb7.cell (p := ⟨b, off + 4 + 1, none⟩) hbl).trans hy2
 have hx7 := ext_trans hx6 hb7
 clear p0 p1 q0 q1 q2 hy2 hx6 hb7
 go_wp2_with fail
 go_ret
 exact ⟨rfl, hx7⟩

end Go.Proofs.YtofijjomfhmbjaaGreat

namespace Go.Proofs.YtofijjomfhmbjaaGreat
open Go.RowKit

theorem IsRat.al {w : World} {v : Value} {q : Rat} {p : Obj} (h : IsRat w v q) : IsRat (w.alloc p) v q := h.below ((Below.refl _ _).alloc (Nat.le_refl _) _)
end Go.Proofs.YtofijjomfhmbjaaGreat

namespace Go.Proofs.YtofijjomfhmbjaaGreat
open Go.RowKit

theorem cross_cast (a b c : Pt) : ((b.1 : Rat) - (a.1 : Rat)) * ((c.2 : Rat) - (a.2 : Rat)) - ((b.2 : Rat) - (a.2 : Rat)) * ((c.1 : Rat) - (a.1 : Rat)) = ((crossI a b c : Int) : Rat) := by
 unfold crossI
 rw [Rat.intCast_sub, Rat.intCast_mul, Rat.intCast_mul, Rat.intCast_sub, Rat.intCast_sub, Rat.intCast_sub, Rat.intCast_sub]
end Go.Proofs.YtofijjomfhmbjaaGreat

namespace Go.Proofs.YtofijjomfhmbjaaGreat
open Go.RowKit

/-! The plain part: the reference's tests of a course. -/
set_option maxHeartbeats 1000000 in
theorem rwithin_any (x m : Int) (w : World) (hm : 0 ≤ m ∧ m ≤ 4398046511104) : Calls Tryz.prog 39 #[.int .i64 x, .int .i64 m] w (RetBool (inL x (-m) m) w) := by
 have en : IntKind.i64.wrap (-m) = -m := IntWalk.i64_in _ (by omega)
 by_cases h1 : -m ≤ x
 ·
  by_cases h2 : x ≤ m
  ·
   have Hr : Hid (inL x (-m) m = true) := by show _ = _; simp [inL, h1, h2]
   have t1 : decide (x ≥ -m) = true := decide_eq_true h1
   have t2 : decide (x ≤ m) = true := decide_eq_true h2
   clear h1 h2
   go_enter Tryz.func39, Tryz.ntmps39
   go_wp2_with fail
   go_ret
   exact ⟨by rw [Hr.out]; rfl, Below.refl _ _⟩
  ·
   have Hr : Hid (inL x (-m) m = false) := by show _ = _; simp [inL, h1, h2]
   have t1 : decide (x ≥ -m) = true := decide_eq_true h1
   have t2 : decide (x ≤ m) = false := decide_eq_false h2
   clear h1 h2
   go_enter Tryz.func39, Tryz.ntmps39
   go_wp2_with fail
   go_ret
   exact ⟨by rw [Hr.out]; rfl, Below.refl _ _⟩
 ·
  have Hr : Hid (inL x (-m) m = false) := by show _ = _; simp [inL, h1]
  have t1 : decide (x ≥ -m) = false := decide_eq_false h1
  clear h1
  go_enter Tryz.func39, Tryz.ntmps39
  go_wp2_with fail
  go_ret
  exact ⟨by rw [Hr.out]; rfl, Below.refl _ _⟩

def crsCells : List Crs → List Value
 | [] => []
 | c :: l => .int .i64 c.first :: .int .i64 c.tows :: .int .i64 c.width :: .int .i64 c.gap :: .int .i64 c.from_ :: .int .i64 c.to_ :: crsCells l
theorem crsCells_get (ls : List Crs) : ∀ i, i < ls.length → (crsCells ls)[i * 6]? = some (.int .i64 (ls.getD i crs0).first) ∧ (crsCells ls)[i * 6 + 1]? = some (.int .i64 (ls.getD i crs0).tows) ∧ (crsCells ls)[i * 6 + 2]? = some (.int .i64 (ls.getD i crs0).width) ∧ (crsCells ls)[i * 6 + 3]? = some (.int .i64 (ls.getD i crs0).gap) ∧ (crsCells ls)[i * 6 + 4]? = some (.int .i64 (ls.getD i crs0).from_) ∧ (crsCells ls)[i * 6 + 5]? = some (.int .i64 (ls.getD i crs0).to_) := by
 induction ls with
 | nil => intro i hi; simp at hi
 | cons r l ih =>
  intro i hi
  cases i with
  | zero => simp [crsCells]
  | succ i =>
   have := ih i (by simpa using hi)
   simpa [crsCells, Nat.succ_mul] using this
theorem CrsOf.ofRow {w : World} {base : Nat} {e : TypeId} {v : Value} {ls : List Crs} (h : LRow w base e 6 v ls.length (crsCells ls)) : CrsOf w v ls := by
 rcases Nat.eq_zero_or_pos ls.length with h0 | hp
 ·
  rcases h.1.2 with ⟨rfl, _⟩ | ⟨g, cap, cur, rfl, _⟩
  ·
   exact ⟨none, 0, by rw [h0], fun h => absurd h (by omega)⟩
  ·
   exact ⟨_, _, rfl, fun h => absurd h (by omega)⟩
 ·
  obtain ⟨g, cap, rfl⟩ := ownsRow_some h.1 hp
  have hc : ∀ j u, (crsCells ls)[j]? = some u → w.cell? ((⟨g, 0, none⟩ : Addr).add j) = some u := h.1.cells (g := g) rfl
  have hlt : g < w.heap.size := (h.lt rfl).1
  refine ⟨_, _, rfl, fun _ => ⟨g, 0, rfl, hlt, fun i hi => ?_⟩⟩
  obtain ⟨h0, h1, h2, h3, h4, h5⟩ := crsCells_get ls i hi
  have ea : ∀ j, (⟨g, 0, none⟩ : Addr).add j = ⟨g, 0 + j, none⟩ := fun j => by unfold Addr.add; split <;> simp_all
  refine ⟨?_, ?_, ?_, ?_, ?_, ?_⟩
  ·
   rw [← ea]; exact hc _ _ h0
  all_goals rw [Nat.add_assoc, ← ea]
  ·
   exact hc _ _ h1
  ·
   exact hc _ _ h2
  ·
   exact hc _ _ h3
  ·
   exact hc _ _ h4
  ·
   exact hc _ _ h5
end Go.Proofs.YtofijjomfhmbjaaGreat

namespace Go.Proofs.YtofijjomfhmbjaaGreat
open Go.RowKit

def FrcAt (R : World → Value → Rat → Prop) (w : World) (b o : Nat) (q : Rat) : Prop :=
 ∃ v0 vn vd, w.cell? ⟨b, o, none⟩ = some v0 ∧ w.cell? ⟨b, o + 1, none⟩ = some vn ∧ w.cell? ⟨b, o + 2, none⟩ = some vd ∧ R w (.agg #[v0, vn, vd]) q
def FrcsOf (R : World → Value → Rat → Prop) (w : World) (v : Value) (qs : List Rat) : Prop :=
 ∃ ao cap, v = .slice ao qs.length cap ∧ (0 < qs.length → ∃ b off, ao = some ⟨b, off, none⟩ ∧ b < w.heap.size ∧ ∀ i, i < qs.length → FrcAt R w b (off + i * 3) (qs.getD i 0))
theorem FrcAt.below {R : World → Value → Rat → Prop} (hR : ∀ w w' v q, R w v q → Below w.heap.size w w' → R w' v q) {w w' : World} {b o : Nat} {q : Rat} (h : FrcAt R w b o q) (hb : Below w.heap.size w w') (hl : b < w.heap.size) : FrcAt R w' b o q := by
 obtain ⟨v0, vn, vd, h0, h1, h2, h4⟩ := h
 have c : ∀ j v, w.cell? ⟨b, j, none⟩ = some v → w'.cell? ⟨b, j, none⟩ = some v := fun j v h => (hb.cell (p := ⟨b, j, none⟩) hl).trans h
 exact ⟨v0, vn, vd, c _ _ h0, c _ _ h1, c _ _ h2, hR _ _ _ _ h4 hb⟩
theorem FrcsOf.below {R : World → Value → Rat → Prop} (hR : ∀ w w' v q, R w v q → Below w.heap.size w w' → R w' v q) {w w' : World} {v : Value} {qs : List Rat} (h : FrcsOf R w v qs) (hb : Below w.heap.size w w') : FrcsOf R w' v qs := by
 obtain ⟨ao, cap, rfl, h⟩ := h
 refine ⟨ao, cap, rfl, fun hl => ?_⟩
 obtain ⟨b, off, rfl, hlt, h⟩ := h hl
 exact ⟨b, off, rfl, Nat.lt_of_lt_of_le hlt hb.size, fun i hi => (h i hi).below hR hb hlt⟩

theorem dig32_le (n : Nat) : (dig b32 n).length ≤ 2 * (dig b64 n).length := by
 refine dig_length_le b32_two _ _ ?_
 rw [Nat.pow_mul, show b32 ^ 2 = b64 from by unfold b32 b64; decide]
 rcases Nat.lt_or_ge n (b64 ^ (dig b64 n).length) with h | h
 ·
  exact h
 ·
  exfalso
  have h0 : n / b64 ^ (dig b64 n).length ≠ 0 := by
   have hp : 0 < b64 ^ (dig b64 n).length := Nat.pow_pos (by unfold b64; omega)
   have := Nat.div_pos h hp
   omega
  have := (dig_length_gt b64_two (dig b64 n).length n).2 h0
  omega
theorem szQ_of {x : Rat} {k : Nat} (h : szR x k) : szQ x (2 * k) := ⟨Nat.le_trans (dig32_le _) (by have := h.1; omega), Nat.le_trans (dig32_le _) (by have := h.2; omega)⟩

end Go.Proofs.YtofijjomfhmbjaaGreat

namespace Go.Proofs.YtofijjomfhmbjaaGreat

structure Rn where
 ph : Int
 be : Int
 mi : Int
 wa : Int
 l0 : Bool
 l1 : Bool
 l2 : Bool
 te : Bool
structure Ru where
 m0 : Int
 m1 : Int
 m2 : Int
 pa : Int
 t00 : Int
 t01 : Int
 t02 : Int
 t10 : Int
 t11 : Int
 t12 : Int
 t20 : Int
 t21 : Int
 t22 : Int

def Ru.mn (r : Ru) (p : Int) : Int := if p = 1 then r.m0 else if p = 2 then r.m1 else r.m2
def Ru.tb (r : Ru) (p : Int) (d : Nat) : Int :=
 if p = 1 then (if d = 0 then r.t00 else if d = 1 then r.t01 else r.t02)
 else if p = 2 then (if d = 0 then r.t10 else if d = 1 then r.t11 else r.t12)
 else (if d = 0 then r.t20 else if d = 1 then r.t21 else r.t22)
def Rn.lost (x : Rn) (d : Nat) : Bool := if d = 0 then x.l0 else if d = 1 then x.l1 else x.l2
def Rn.lose (x : Rn) (d : Nat) (b : Bool) : Rn := if d = 0 then { x with l0 := b } else if d = 1 then { x with l1 := b } else { x with l2 := b }

def inR (n lo hi : Int) : Bool := decide (lo ≤ n) && decide (n ≤ hi)
structure GoodRules (r : Ru) : Prop where
 pa : 0 ≤ r.pa ∧ r.pa ≤ 256
 m0 : 1 ≤ r.m0 ∧ r.m0 ≤ 256
 m1 : 1 ≤ r.m1 ∧ r.m1 ≤ 256
 m2 : 1 ≤ r.m2 ∧ r.m2 ≤ 256
 t00 : 0 ≤ r.t00 ∧ r.t00 ≤ 3
 t01 : 0 ≤ r.t01 ∧ r.t01 ≤ 3
 t02 : 0 ≤ r.t02 ∧ r.t02 ≤ 3
 t10 : 0 ≤ r.t10 ∧ r.t10 ≤ 3
 t11 : 0 ≤ r.t11 ∧ r.t11 ≤ 3
 t12 : 0 ≤ r.t12 ∧ r.t12 ≤ 3
 t20 : 0 ≤ r.t20 ∧ r.t20 ≤ 3
 t21 : 0 ≤ r.t21 ∧ r.t21 ≤ 3
 t22 : 0 ≤ r.t22 ∧ r.t22 ≤ 3
theorem GoodRules.mn {r : Ru} (h : GoodRules r) (p : Int) : 1 ≤ r.mn p ∧ r.mn p ≤ 256 := by
 unfold Ru.mn
 split
 ·
  exact h.m0
 ·
  split
  ·
   exact h.m1
  ·
   exact h.m2
theorem GoodRules.tb {r : Ru} (h : GoodRules r) (p : Int) (d : Nat) : 0 ≤ r.tb p d ∧ r.tb p d ≤ 3 := by
 have ⟨_, _, _, _, a, b, c, d', e, f, g, i, j⟩ := h
 unfold Ru.tb
 split
 ·
  split
  ·
   exact a
  ·
   split
   ·
    exact b
   ·
    exact c
 ·
  split
  ·
   split
   ·
    exact d'
   ·
    split
    ·
     exact e
    ·
     exact f
  ·
   split
   ·
    exact g
   ·
    split
    ·
     exact i
    ·
     exact j

def goes (p : Int) : Bool := inR p 1 3
def heldAt (r : Ru) (x : Rn) (p : Int) : Bool := x.l0 && decide (r.tb p 0 = 2) || (x.l1 && decide (r.tb p 1 = 2) || x.l2 && decide (r.tb p 2 = 2))
def right (r : Ru) (x : Rn) : Bool :=
 if inR x.ph 0 7 then
  if x.ph = 4 then inR x.be 1 3 && (inR x.mi 0 (r.mn x.be - 1) && (inR x.wa 0 r.pa && heldAt r x x.be))
  else if x.be = 0 ∧ x.wa = 0 then (if goes x.ph then inR x.mi 0 (r.mn x.ph - 1) else decide (x.mi = 0))
  else false
 else false
def Right (r : Ru) (x : Rn) : Prop :=
 (x.ph = 4 ∧ (1 ≤ x.be ∧ x.be ≤ 3) ∧ (0 ≤ x.mi ∧ x.mi < r.mn x.be) ∧ (0 ≤ x.wa ∧ x.wa ≤ r.pa) ∧ heldAt r x x.be = true)
 ∨ (x.be = 0 ∧ x.wa = 0 ∧ (1 ≤ x.ph ∧ x.ph ≤ 3) ∧ (0 ≤ x.mi ∧ x.mi < r.mn x.ph))
 ∨ (x.be = 0 ∧ x.wa = 0 ∧ x.mi = 0 ∧ (x.ph = 0 ∨ x.ph = 5 ∨ x.ph = 6 ∨ x.ph = 7))
def ended (x : Rn) (p : Int) : Rn := { x with ph := p, be := 0, mi := 0, wa := 0 }
def inPh (x : Rn) : Int := if x.ph = 4 then x.be else x.ph
def meet (r : Ru) (x : Rn) (d : Nat) : Rn :=
 if goes (inPh x) then
  if r.tb (inPh x) d = 3 then ended x 7
  else if r.tb (inPh x) d = 1 then { x with te := true }
  else if r.tb (inPh x) d = 2 then (if goes x.ph then { x with be := x.ph, ph := 4 } else x)
  else x
 else x
def meetIf (r : Ru) (x : Rn) (d : Nat) : Rn := if x.lost d then meet r x d else x
def begin (r : Ru) (x : Rn) (p : Int) : Rn := meetIf r (meetIf r (meetIf r { x with ph := p, mi := 0 } 0) 1) 2
def tick (r : Ru) (x : Rn) : Rn :=
 if x.ph = 4 then (if r.pa < x.wa + 1 then ended { x with wa := x.wa + 1 } 7 else { x with wa := x.wa + 1 })
 else if goes x.ph then
  if x.mi + 1 < r.mn x.ph then { x with mi := x.mi + 1 }
  else if x.ph < 3 then begin r { x with mi := x.mi + 1 } (x.ph + 1)
  else if x.te then ended { x with mi := x.mi + 1 } 6
  else ended { x with mi := x.mi + 1 } 5
 else x
def dOf (e : Int) : Nat := ((e - 2) / 2).toNat
def lostOf (e : Int) : Bool := decide (e % 2 = 0)
def unheld (r : Ru) (x : Rn) : Rn := if x.ph = 4 ∧ heldAt r x x.be = false then { x with ph := x.be, be := 0, wa := 0 } else x
def next (r : Ru) (x : Rn) (e : Int) : Option Rn :=
 if e = 0 then some (tick r x)
 else if e = 1 then (if x.ph = 0 then some (begin r { x with te := false } 1) else none)
 else if inR x.ph 0 4 = false ∨ x.lost (dOf e) = lostOf e then none
 else if lostOf e then some (meet r (x.lose (dOf e) true) (dOf e))
 else some (unheld r (x.lose (dOf e) false))
end Go.Proofs.YtofijjomfhmbjaaGreat

namespace Go.Proofs.YtofijjomfhmbjaaGreat

theorem Right.wa {r : Ru} {x : Rn} (h : Right r x) : x.ph ≠ 4 → x.wa = 0 := by
 rcases h with ⟨a, b, c, d, e⟩ | ⟨a, b, c, d⟩ | ⟨a, b, c, d⟩ <;> omega
end Go.Proofs.YtofijjomfhmbjaaGreat

namespace Go.Proofs.YtofijjomfhmbjaaGreat
open Go.RowKit

theorem below1 (w : World) (o : Obj) : Below w.heap.size w (w.alloc o) := (Below.refl w.heap.size w).alloc (Nat.le_refl _) o
end Go.Proofs.YtofijjomfhmbjaaGreat

namespace Go.Proofs.YtofijjomfhmbjaaGreat
open Go.RowKit

def hB (r : Ru) (x : Rn) (p : Int) (d : Nat) : Bool := x.lost d && decide (r.tb p d = 2)
end Go.Proofs.YtofijjomfhmbjaaGreat

namespace Go.Proofs.YtofijjomfhmbjaaGreat
open Go.RowKit

def IntsOf (w : World) (v : Value) (es : List Int) : Prop :=
 ∃ ao cap, v = .slice ao es.length cap ∧ (0 < es.length → ∃ b off, ao = some ⟨b, off, none⟩ ∧ b < w.heap.size ∧ ∀ i, i < es.length → w.cell? ⟨b, off + i, none⟩ = some (.int .i64 (es.getD i 0)))
theorem IntsOf.below {w w' : World} {v : Value} {es : List Int} (h : IntsOf w v es) (hb : Below w.heap.size w w') : IntsOf w' v es := by
 obtain ⟨ao, cap, rfl, h⟩ := h
 refine ⟨ao, cap, rfl, fun hl => ?_⟩
 obtain ⟨b, off, rfl, hlt, h⟩ := h hl
 exact ⟨b, off, rfl, Nat.lt_of_lt_of_le hlt hb.size, fun i hi => (hb.cell (p := ⟨b, off + i, none⟩) hlt).trans (h i hi)⟩
end Go.Proofs.YtofijjomfhmbjaaGreat

namespace Go.Proofs.YtofijjomfhmbjaaGreat
open Go.RowKit

structure R3 where
 b : Bool
 a : Option Addr
 n : Nat
 c : Nat
 d : Option Addr
 m : Nat
 e : Nat
abbrev R3.arr (x : R3) : Array Value := #[.bool x.b, .slice x.a x.n x.c, .slice x.d x.m x.e]
abbrev R3.val (x : R3) : Value := .agg #[.bool x.b, .slice x.a x.n x.c, .slice x.d x.m x.e]
abbrev rngV (x y : R3) : Value := .agg #[.bool x.b, .slice x.a x.n x.c, .slice x.d x.m x.e, .bool y.b, .slice y.a y.n y.c, .slice y.d y.m y.e]
def r30 : R3 := ⟨false, none, 0, 0, none, 0, 0⟩
theorem IsRat.open3 {w : World} {v : Value} {q : Rat} (h : IsRat w v q) : ∃ x : R3, v = x.val := by
 obtain ⟨a1, c1, a2, c2, rfl, _, _⟩ := h.opened
 exact ⟨⟨_, _, _, _, _, _, _⟩, rfl⟩
def IsRng (w : World) (v : Value) (lo hi : Rat) : Prop := ∃ x y : R3, v = rngV x y ∧ IsRat w x.val lo ∧ IsRat w y.val hi
theorem IsRng.below {w w' : World} {v : Value} {lo hi : Rat} (h : IsRng w v lo hi) (hb : Below w.heap.size w w') : IsRng w' v lo hi := by
 obtain ⟨x, y, rfl, h1, h2⟩ := h
 exact ⟨x, y, rfl, h1.below hb, h2.below hb⟩
theorem IsRat.setj {w : World} {v : Value} {q : Rat} {B T : Nat} {cs : Array Value} (h : IsRat w v q) (hB : w.heap[B]? = some (.cells cs T (0, 0))) (hn : noInt cs) (j : Nat) (u : Value) : IsRat (w.setCell ⟨B, j, none⟩ u) v q := by
 obtain ⟨vn, vd, rfl, h1, h2⟩ := h
 exact ⟨vn, vd, rfl, IsRow.set_other h1 hB hn j u, IsRow.set_other h2 hB hn j u⟩
theorem ni3 (b1 : Bool) (a1 : Option Addr) (n1 c1 : Nat) (d1 : Option Addr) (m1 e1 : Nat) : noInt #[.bool b1, .slice a1 n1 c1, .slice d1 m1 e1] := by
 intro i k x
 match i with
 | 0 => simp
 | 1 => simp
 | 2 => simp
 | i + 3 => simp
theorem set3r {w : World} {B T : Nat} {p x : R3} (h : w.heap[B]? = some (.cells #[.bool p.b, .slice p.a p.n p.c, .slice p.d p.m p.e] T (0, 0))) : ((((w.setCell ⟨B, 0, none⟩ (.bool x.b)).setCell ⟨B, 1, none⟩ (.slice x.a x.n x.c)).setCell ⟨B, 2, none⟩ (.slice x.d x.m x.e))).heap[B]? = some (.cells #[.bool x.b, .slice x.a x.n x.c, .slice x.d x.m x.e] T (0, 0)) := by
 have h0 : (w.setCell ⟨B, 0, none⟩ (.bool x.b)).heap[B]? = some (.cells #[.bool x.b, .slice p.a p.n p.c, .slice p.d p.m p.e] T (0, 0)) := blk_set h 0 _
 have h1 : ((w.setCell ⟨B, 0, none⟩ (.bool x.b)).setCell ⟨B, 1, none⟩ (.slice x.a x.n x.c)).heap[B]? = some (.cells #[.bool x.b, .slice x.a x.n x.c, .slice p.d p.m p.e] T (0, 0)) := blk_set h0 1 _
 have h2 : (((w.setCell ⟨B, 0, none⟩ (.bool x.b)).setCell ⟨B, 1, none⟩ (.slice x.a x.n x.c)).setCell ⟨B, 2, none⟩ (.slice x.d x.m x.e)).heap[B]? = some (.cells #[.bool x.b, .slice x.a x.n x.c, .slice x.d x.m x.e] T (0, 0)) := blk_set h1 2 _
 exact h2
theorem IsRat.set3r {w : World} {v : Value} {r : Rat} {B T : Nat} {p x : R3} (i : IsRat w v r) (h : w.heap[B]? = some (.cells #[.bool p.b, .slice p.a p.n p.c, .slice p.d p.m p.e] T (0, 0))) : IsRat ((((w.setCell ⟨B, 0, none⟩ (.bool x.b)).setCell ⟨B, 1, none⟩ (.slice x.a x.n x.c)).setCell ⟨B, 2, none⟩ (.slice x.d x.m x.e))) v r := by
 have h0 : (w.setCell ⟨B, 0, none⟩ (.bool x.b)).heap[B]? = some (.cells #[.bool x.b, .slice p.a p.n p.c, .slice p.d p.m p.e] T (0, 0)) := blk_set h 0 _
 have h1 : ((w.setCell ⟨B, 0, none⟩ (.bool x.b)).setCell ⟨B, 1, none⟩ (.slice x.a x.n x.c)).heap[B]? = some (.cells #[.bool x.b, .slice x.a x.n x.c, .slice p.d p.m p.e] T (0, 0)) := blk_set h0 1 _
 have h2 : (((w.setCell ⟨B, 0, none⟩ (.bool x.b)).setCell ⟨B, 1, none⟩ (.slice x.a x.n x.c)).setCell ⟨B, 2, none⟩ (.slice x.d x.m x.e)).heap[B]? = some (.cells #[.bool x.b, .slice x.a x.n x.c, .slice x.d x.m x.e] T (0, 0)) := blk_set h1 2 _
 have i0 := i.setj h (by exact ni3 _ _ _ _ _ _ _) 0 (.bool x.b)
 have i1 := i0.setj h0 (by exact ni3 _ _ _ _ _ _ _) 1 (.slice x.a x.n x.c)
 have i2 := i1.setj h1 (by exact ni3 _ _ _ _ _ _ _) 2 (.slice x.d x.m x.e)
 exact i2
theorem below3r {n : Nat} {w0 w : World} {B : Nat} {x : R3} (h : Below n w0 w) (hB : n ≤ B) : Below n w0 ((((w.setCell ⟨B, 0, none⟩ (.bool x.b)).setCell ⟨B, 1, none⟩ (.slice x.a x.n x.c)).setCell ⟨B, 2, none⟩ (.slice x.d x.m x.e))) :=
 ((h.setCell (p := ⟨B, 0, none⟩) hB _).setCell (p := ⟨B, 1, none⟩) hB _).setCell (p := ⟨B, 2, none⟩) hB _
theorem fac3 {w : World} {B T : Nat} {x : R3} (h : w.heap[B]? = some (.cells #[.bool x.b, .slice x.a x.n x.c, .slice x.d x.m x.e] T (0, 0))) : w.cell? ⟨B, 0, none⟩ = some (.bool x.b) ∧ w.cell? ⟨B, 1, none⟩ = some (.slice x.a x.n x.c) ∧ w.cell? ⟨B, 2, none⟩ = some (.slice x.d x.m x.e) ∧ w.frozen? ⟨B, 0, none⟩ = false ∧ w.frozen? ⟨B, 1, none⟩ = false ∧ w.frozen? ⟨B, 2, none⟩ = false :=
 ⟨blk_cell h 0 _ rfl, blk_cell h 1 _ rfl, blk_cell h 2 _ rfl, blk_frozen h 0, blk_frozen h 1, blk_frozen h 2⟩
end Go.Proofs.YtofijjomfhmbjaaGreat

namespace Go.Proofs.YtofijjomfhmbjaaGreat
open Go.RowKit

theorem szQ_mono {x : Rat} {j k : Nat} (h : szQ x j) (hjk : j ≤ k) : szQ x k := ⟨Nat.le_trans h.1 hjk, Nat.le_trans h.2 hjk⟩
theorem IsR.open3 {w : World} {v : Value} {q : Rat} (h : IsR w v q) : ∃ x : R3, v = x.val := by
 obtain ⟨d', a1, c1, a2, c2, rfl, _⟩ := h.opened
 exact ⟨⟨_, _, _, _, _, _, _⟩, rfl⟩
end Go.Proofs.YtofijjomfhmbjaaGreat

namespace Go.Proofs.YtofijjomfhmbjaaGreat
open Go.RowKit

def FrcRow (R : World → Value → Rat → Prop) (w : World) (xs : List Value) (es : List Rat) : Prop :=
 xs.length = es.length * 3 ∧ ∀ j, j < es.length → ∃ v0 vn vd, xs[j * 3]? = some v0 ∧ xs[j * 3 + 1]? = some vn ∧ xs[j * 3 + 2]? = some vd ∧ R w (.agg #[v0, vn, vd]) (es.getD j 0)
theorem FrcRow.mono {R : World → Value → Rat → Prop} {w w' : World} {xs : List Value} {es : List Rat} (h : FrcRow R w xs es) (hr : ∀ v q, R w v q → R w' v q) : FrcRow R w' xs es :=
 ⟨h.1, fun j hj => by obtain ⟨v0, vn, vd, h0, h1, h2, h4⟩ := h.2 j hj; exact ⟨v0, vn, vd, h0, h1, h2, hr _ _ h4⟩⟩
theorem FrcRow.nil (R : World → Value → Rat → Prop) (w : World) : FrcRow R w [] [] := ⟨rfl, fun j hj => absurd hj (by simp)⟩
theorem FrcRow.snoc {R : World → Value → Rat → Prop} {w : World} {xs : List Value} {es : List Rat} (h : FrcRow R w xs es) {v0 vn vd : Value} {q : Rat} (hq : R w (.agg #[v0, vn, vd]) q) :
  FrcRow R w (xs ++ [v0, vn, vd]) (es ++ [q]) := by
 obtain ⟨hl, h⟩ := h
 refine ⟨by simp [hl]; omega, fun j hj => ?_⟩
 rcases Nat.lt_or_ge j es.length with h1 | h1
 ·
  obtain ⟨u0, un, ud, h0, h2, h3, h5⟩ := h j h1
  have e : ∀ k, k < 3 → (xs ++ [v0, vn, vd])[j * 3 + k]? = xs[j * 3 + k]? := fun k hk => List.getElem?_append_left (by omega)
  have e2 : (es ++ [q]).getD j 0 = es.getD j 0 := by simp [List.getD, List.getElem?_append_left h1]
  rw [e2]
  exact ⟨u0, un, ud, by rw [← h0]; exact e 0 (by omega), by rw [← h2]; exact e 1 (by omega), by rw [← h3]; exact e 2 (by omega), h5⟩
 ·
  obtain rfl : j = es.length := by simp at hj; omega
  have e : ∀ k, (xs ++ [v0, vn, vd])[es.length * 3 + k]? = ([v0, vn, vd] : List Value)[k]? := fun k => by rw [List.getElem?_append_right (by omega), hl]; congr 1; omega
  have e2 : (es ++ [q]).getD es.length 0 = q := by simp [List.getD]
  rw [e2]
  exact ⟨v0, vn, vd, e 0, e 1, e 2, hq⟩
theorem FrcsOf.ofRow {R : World → Value → Rat → Prop} {w : World} {base : Nat} {e : TypeId} {v : Value} {xs : List Value} {es : List Rat} (h : LRow w base e 3 v es.length xs) (ht : FrcRow R w xs es) : FrcsOf R w v es := by
 rcases Nat.eq_zero_or_pos es.length with h0 | hp
 ·
  rcases h.1.2 with ⟨rfl, _⟩ | ⟨g, cap, cur, rfl, _⟩
  ·
   exact ⟨none, 0, by rw [h0], fun h => absurd h (by omega)⟩
  ·
   exact ⟨_, _, rfl, fun h => absurd h (by omega)⟩
 ·
  obtain ⟨g, cap, rfl⟩ := ownsRow_some h.1 hp
  have hc : ∀ j u, xs[j]? = some u → w.cell? ((⟨g, 0, none⟩ : Addr).add j) = some u := h.1.cells (g := g) rfl
  have hlt : g < w.heap.size := (h.lt rfl).1
  refine ⟨_, _, rfl, fun _ => ⟨g, 0, rfl, hlt, fun i hi => ?_⟩⟩
  obtain ⟨v0, vn, vd, h0, h1, h2, h4⟩ := ht.2 i hi
  have ea : ∀ j, (⟨g, 0, none⟩ : Addr).add j = ⟨g, 0 + j, none⟩ := fun j => by unfold Addr.add; split <;> simp_all
  refine ⟨v0, vn, vd, ?_, ?_, ?_, h4⟩
  ·
   rw [← ea]; exact hc _ _ h0
  ·
   rw [show 0 + i * 3 + 1 = 0 + (i * 3 + 1) by omega, ← ea]; exact hc _ _ h1
  ·
   rw [show 0 + i * 3 + 2 = 0 + (i * 3 + 2) by omega, ← ea]; exact hc _ _ h2
structure TF (w0 w : World) (va vb : Value) (xsA xsB : List Value) (esA esB : List Rat) : Prop where
 x : Below w0.heap.size w0 w
 la : LRow w w0.heap.size 54 3 va esA.length xsA
 lb : LRow w w0.heap.size 70 3 vb esB.length xsB
 ta : FrcRow IsRat w xsA esA
 tb : FrcRow IsR w xsB esB
theorem TF.below {w0 w w' : World} {va vb : Value} {xsA xsB : List Value} {esA esB : List Rat} (h : TF w0 w va vb xsA xsB esA esB) (hb : Below w.heap.size w w') : TF w0 w' va vb xsA xsB esA esB :=
 ⟨ext_trans h.x hb, h.la.below hb, h.lb.below hb, h.ta.mono fun _ _ hr => hr.below hb, h.tb.mono fun _ _ hr => hr.below hb⟩
theorem TF.alloc {w0 w : World} {va vb : Value} {xsA xsB : List Value} {esA esB : List Rat} (h : TF w0 w va vb xsA xsB esA esB) (o : Obj) : TF w0 (w.alloc o) va vb xsA xsB esA esB := h.below ((Below.refl _ _).alloc (Nat.le_refl _) _)
end Go.Proofs.YtofijjomfhmbjaaGreat

namespace Go.Proofs.YtofijjomfhmbjaaGreat
open Go.RowKit

theorem IsR.setj {w : World} {v : Value} {q : Rat} {B T : Nat} {cs : Array Value} (h : IsR w v q) (hB : w.heap[B]? = some (.cells cs T (0, 0))) (hn : noInt cs) (j : Nat) (u : Value) : IsR (w.setCell ⟨B, j, none⟩ u) v q := by
 obtain ⟨vn, vd, d', rfl, h1, h2, h3⟩ := h
 exact ⟨vn, vd, d', rfl, IsRow.set_other h1 hB hn j u, IsRow.set_other h2 hB hn j u, h3⟩
theorem IsR.set3r {w : World} {v : Value} {r : Rat} {B T : Nat} {p x : R3} (i : IsR w v r) (h : w.heap[B]? = some (.cells #[.bool p.b, .slice p.a p.n p.c, .slice p.d p.m p.e] T (0, 0))) : IsR ((((w.setCell ⟨B, 0, none⟩ (.bool x.b)).setCell ⟨B, 1, none⟩ (.slice x.a x.n x.c)).setCell ⟨B, 2, none⟩ (.slice x.d x.m x.e))) v r := by
 have h0 : (w.setCell ⟨B, 0, none⟩ (.bool x.b)).heap[B]? = some (.cells #[.bool x.b, .slice p.a p.n p.c, .slice p.d p.m p.e] T (0, 0)) := blk_set h 0 _
 have h1 : ((w.setCell ⟨B, 0, none⟩ (.bool x.b)).setCell ⟨B, 1, none⟩ (.slice x.a x.n x.c)).heap[B]? = some (.cells #[.bool x.b, .slice x.a x.n x.c, .slice p.d p.m p.e] T (0, 0)) := blk_set h0 1 _
 have h2 : (((w.setCell ⟨B, 0, none⟩ (.bool x.b)).setCell ⟨B, 1, none⟩ (.slice x.a x.n x.c)).setCell ⟨B, 2, none⟩ (.slice x.d x.m x.e)).heap[B]? = some (.cells #[.bool x.b, .slice x.a x.n x.c, .slice x.d x.m x.e] T (0, 0)) := blk_set h1 2 _
 have i0 := i.setj h (by exact ni3 _ _ _ _ _ _ _) 0 (.bool x.b)
 have i1 := i0.setj h0 (by exact ni3 _ _ _ _ _ _ _) 1 (.slice x.a x.n x.c)
 have i2 := i1.setj h1 (by exact ni3 _ _ _ _ _ _ _) 2 (.slice x.d x.m x.e)
 exact i2
def IsRngQ (w : World) (v : Value) (lo hi : Rat) : Prop := ∃ x y : R3, v = rngV x y ∧ IsR w x.val lo ∧ IsR w y.val hi
theorem IsRngQ.below {w w' : World} {v : Value} {lo hi : Rat} (h : IsRngQ w v lo hi) (hb : Below w.heap.size w w') : IsRngQ w' v lo hi := by
 obtain ⟨x, y, rfl, h1, h2⟩ := h
 exact ⟨x, y, rfl, h1.below hb, h2.below hb⟩
def hiQ (a b : Rat) : Rat := if cmpR a b ≥ 0 then a else b
end Go.Proofs.YtofijjomfhmbjaaGreat

namespace Go.Proofs.YtofijjomfhmbjaaGreat
open Go.RowKit

abbrev Bx := Nat × Array Value × Nat
def plainV : Value → Bool
 | .int .u64 _ => false
 | .int .u32 _ => false
 | _ => true
def Fr (p : Bool) (w : World) (v : Value) (q : Rat) : Prop := if p then IsRat w v q else IsR w v q
abbrev Fx := Bool × Value × Rat
structure Sx (w0 w : World) (bs : List Bx) (fs : List Fx) : Prop where
 bel : Below w0.heap.size w0 w
 box : ∀ (i : Nat) (b : Bx), bs[i]? = some b → w.heap[b.1]? = some (.cells b.2.1 b.2.2 (0, 0)) ∧ w0.heap.size ≤ b.1 ∧ b.2.1.toList.all plainV = true
 nod : (bs.map (·.1)).Nodup
 fra : ∀ (i : Nat) (f : Fx), fs[i]? = some f → Fr f.1 w f.2.1 f.2.2
theorem IsRow.set_plain {k : IntKind} {w : World} {v : Value} {ds : List Nat} {B T : Nat} {cs : Array Value} (hk : k = .u64 ∨ k = .u32) (h : IsRow k w v ds) (hB : w.heap[B]? = some (.cells cs T (0, 0))) (hn : cs.toList.all plainV = true) (j : Nat) (u : Value) :
  IsRow k (w.setCell ⟨B, j, none⟩ u) v ds := by
 rcases h with h | ⟨h0, b, off, cap, rfl, h1, h2, h3, h4⟩
 ·
  exact .inl h
 ·
  have hne : b ≠ B := by
   rintro rfl
   have := h4 0 h0
   rw [cell_of_row w b (off + 0) cs T (0, 0) hB] at this
   have hm := List.all_eq_true.1 hn _ (Array.mem_toList_iff.2 (Array.mem_of_getElem? this))
   rcases hk with rfl | rfl <;> exact absurd hm (by simp [plainV])
  refine .inr ⟨h0, b, off, cap, rfl, h1, h2, by simpa [World.setCell] using h3, fun i hi => ?_⟩
  rw [← h4 i hi]
  exact World.cell?_of_block (w := w) (heap_setCell_other w ⟨B, j, none⟩ b u hne)
theorem Fr.set {p : Bool} {w : World} {v : Value} {q : Rat} {B T : Nat} {cs : Array Value} (h : Fr p w v q) (hB : w.heap[B]? = some (.cells cs T (0, 0))) (hn : cs.toList.all plainV = true) (j : Nat) (u : Value) : Fr p (w.setCell ⟨B, j, none⟩ u) v q := by
 cases p with
 | true =>
  obtain ⟨vn, vd, rfl, h1, h2⟩ := (h : IsRat w v q)
  exact (⟨vn, vd, rfl, IsRow.set_plain (.inl rfl) h1 hB hn j u, IsRow.set_plain (.inl rfl) h2 hB hn j u⟩ : IsRat _ _ _)
 | false =>
  obtain ⟨vn, vd, d', rfl, h1, h2, h3⟩ := (h : IsR w v q)
  exact (⟨vn, vd, d', rfl, IsRow.set_plain (.inr rfl) h1 hB hn j u, IsRow.set_plain (.inr rfl) h2 hB hn j u, h3⟩ : IsR _ _ _)
theorem Fr.below {p : Bool} {w w' : World} {v : Value} {q : Rat} (h : Fr p w v q) (hb : Below w.heap.size w w') : Fr p w' v q := by
 cases p with
 | true => exact IsRat.below (h : IsRat w v q) hb
 | false => exact IsR.below (h : IsR w v q) hb
theorem Sx.init (w : World) : Sx w w [] [] := ⟨Below.refl _ _, fun i b h => by simp at h, by simp, fun i f h => by simp at h⟩
theorem Sx.p {w0 w : World} {bs : List Bx} {fs : List Fx} (h : Sx w0 w bs fs) (i : Nat) (v : Value) (q : Rat) (hi : fs[i]? = some (true, v, q)) : IsRat w v q := h.fra i _ hi
theorem Sx.q {w0 w : World} {bs : List Bx} {fs : List Fx} (h : Sx w0 w bs fs) (i : Nat) (v : Value) (q : Rat) (hi : fs[i]? = some (false, v, q)) : IsR w v q := h.fra i _ hi
theorem Sx.at {w0 w : World} {bs : List Bx} {fs : List Fx} (h : Sx w0 w bs fs) (i : Nat) (B T : Nat) (cs : Array Value) (hi : bs[i]? = some (B, cs, T)) : w.heap[B]? = some (.cells cs T (0, 0)) := (h.box i _ hi).1
theorem Sx.addQ {w0 w : World} {bs : List Bx} {fs : List Fx} (h : Sx w0 w bs fs) {v : Value} {q : Rat} (hv : IsR w v q) : Sx w0 w bs ((false, v, q) :: fs) :=
 ⟨h.bel, h.box, h.nod, fun i f hf => by
  match i, hf with
  | 0, hf => simp at hf; subst hf; exact hv
  | i + 1, hf => exact h.fra i f (by simpa using hf)⟩
theorem Sx.below {w0 w w' : World} {bs : List Bx} {fs : List Fx} (h : Sx w0 w bs fs) (hb : Below w.heap.size w w') : Sx w0 w' bs fs :=
 ⟨ext_trans h.bel hb, fun i b hi => by obtain ⟨h1, h2⟩ := h.box i b hi; exact ⟨blk_keep h1 hb (blk_lt h1), h2⟩, h.nod, fun i f hf => (h.fra i f hf).below hb⟩
theorem Sx.drew {w0 w : World} {bs : List Bx} {fs : List Fx} (h : Sx w0 w bs fs) : Sx w0 w.drew bs fs := h.below (Below.refl _ _).drew
theorem Sx.alloc {w0 w : World} {bs : List Bx} {fs : List Fx} (h : Sx w0 w bs fs) {B T : Nat} {cs : Array Value} (hB : w.heap.size = B) (hp : cs.toList.all plainV = true) : Sx w0 (w.alloc (.cells cs T)) ((B, cs, T) :: bs) fs := by
 subst hB
 have hb := (Below.refl w.heap.size w).alloc (Nat.le_refl _) (.cells cs T)
 have h' := h.below hb
 refine ⟨h'.bel, fun i b hi => ?_, ?_, h'.fra⟩
 ·
  match i, hi with
  | 0, hi =>
   simp at hi
   subst hi
   exact ⟨blk_new w cs T, h.bel.size, hp⟩
  | i + 1, hi => exact h'.box i b (by simpa using hi)
 ·
  rw [List.map_cons, List.nodup_cons]
  refine ⟨fun hm => ?_, h.nod⟩
  obtain ⟨b, hb1, hb2⟩ := List.mem_map.1 hm
  obtain ⟨i, hi⟩ := List.mem_iff_getElem?.1 hb1
  have := blk_lt (h.box i b hi).1
  omega
theorem Sx.set {w0 w : World} {bs : List Bx} {fs : List Fx} (h : Sx w0 w bs fs) (i : Nat) {B T : Nat} {cs : Array Value} (hi : bs[i]? = some (B, cs, T)) (j : Nat) {v : Value} (hv : plainV v = true) : Sx w0 (w.setCell ⟨B, j, none⟩ v) (bs.set i (B, cs.setIfInBounds j v, T)) fs := by
 obtain ⟨h1, h2, h3⟩ := h.box i _ hi
 refine ⟨h.bel.setCell (p := ⟨B, j, none⟩) h2 v, fun k b hk => ?_, ?_, fun k f hf => (h.fra k f hf).set h1 h3 j v⟩
 ·
  rw [List.getElem?_set] at hk
  by_cases hik : i = k
  ·
   subst hik
   rw [if_pos rfl] at hk
   split at hk
   ·
    injection hk with hk
    subst hk
    refine ⟨blk_set h1 j v, h2, ?_⟩
    rw [List.all_eq_true] at h3 ⊢
    intro u hu
    rw [Array.toList_setIfInBounds] at hu
    rcases List.mem_or_eq_of_mem_set hu with hu | hu
    ·
     exact h3 u hu
    ·
     rw [hu]; exact hv
   ·
    exact absurd hk (by simp)
  ·
   rw [if_neg hik] at hk
   obtain ⟨g1, g2⟩ := h.box k b hk
   have hne : b.1 ≠ B := by
    intro he
    have e1 : (bs.map (·.1))[i]? = some B := by rw [List.getElem?_map, hi]; rfl
    have e2 : (bs.map (·.1))[k]? = some B := by rw [List.getElem?_map, hk]; simp [he]
    obtain ⟨l1, _⟩ := List.getElem?_eq_some_iff.1 e1
    exact hik ((List.getElem?_inj l1 h.nod).1 (e1.trans e2.symm))
   exact ⟨(heap_setCell_other w ⟨B, j, none⟩ b.1 v hne).trans g1, g2⟩
 ·
  have e : (bs.set i (B, cs.setIfInBounds j v, T)).map (·.1) = bs.map (·.1) := by
   rw [List.map_set]
   apply List.ext_getElem?
   intro k
   rw [List.getElem?_set]
   by_cases hik : i = k
   ·
    subst hik
    have e1 : (bs.map (·.1))[i]? = some B := by rw [List.getElem?_map, hi]; rfl
    obtain ⟨l1, _⟩ := List.getElem?_eq_some_iff.1 e1
    rw [if_pos rfl, if_pos l1, e1]
   ·
    rw [if_neg hik]
  rw [e]
  exact h.nod
theorem Sx.erase {w0 w : World} {bs : List Bx} {fs : List Fx} (h : Sx w0 w bs fs) (i : Nat) : Sx w0 w (bs.eraseIdx i) [] := by
 refine ⟨h.bel, fun k b hk => ?_, ?_, fun k f hf => by simp at hf⟩
 ·
  rw [List.getElem?_eraseIdx] at hk
  split at hk
  ·
   exact h.box _ _ hk
  ·
   exact h.box _ _ hk
 ·
  exact h.nod.sublist ((List.eraseIdx_sublist _ _).map _)
theorem Sx.bare {w0 w : World} {bs : List Bx} {fs : List Fx} (h : Sx w0 w bs fs) : Sx w0 w bs [] := ⟨h.bel, h.box, h.nod, fun k f hf => by simp at hf⟩
theorem Sx.st_R {w0 w : World} {bs : List Bx} {fs : List Fx} (h : Sx w0 w bs fs) (i : Nat) (o0 : R3) (n0 : R3) {B T : Nat} (hi : bs[i]? = some (B, #[.bool o0.b, .slice o0.a o0.n o0.c, .slice o0.d o0.m o0.e], T)) :
  Sx w0 ((((w).setCell ⟨B, 0, none⟩ (.bool n0.b)).setCell ⟨B, 1, none⟩ (.slice n0.a n0.n n0.c)).setCell ⟨B, 2, none⟩ (.slice n0.d n0.m n0.e)) (bs.set i (B, #[.bool n0.b, .slice n0.a n0.n n0.c, .slice n0.d n0.m n0.e], T)) fs := by
 have hl := (List.getElem?_eq_some_iff.1 hi).1
 have g := (((h).set i hi 0 (v := .bool n0.b) rfl).set i (by rw [List.getElem?_set, if_pos rfl, if_pos (by simpa using hl)]) 1 (v := .slice n0.a n0.n n0.c) rfl).set i (by rw [List.getElem?_set, if_pos rfl, if_pos (by simpa using hl)]) 2 (v := .slice n0.d n0.m n0.e) rfl
 simpa using g
theorem Sx.ne {w0 w : World} {bs : List Bx} {fs : List Fx} (h : Sx w0 w bs fs) (i j : Nat) {B T : Nat} {cs : Array Value} {B' T' : Nat} {cs' : Array Value} (hi : bs[i]? = some (B, cs, T)) (hj : bs[j]? = some (B', cs', T')) (hij : i ≠ j) : B ≠ B' := by
 intro e
 obtain ⟨l1, e1⟩ := List.getElem?_eq_some_iff.1 hi
 obtain ⟨l2, e2⟩ := List.getElem?_eq_some_iff.1 hj
 refine hij ((List.getElem_inj (h₀ := by simpa using l1) (h₁ := by simpa using l2) h.nod).1 ?_)
 simp [e1, e2, e]
theorem nb1 {α : Type _} {xs : List α} {i : Nat} (h : i < xs.toArray.size) : xs.toArray[i] = xs[i] := List.getElem_toArray h
theorem nb2 {α : Type _} (a : α) (l : List α) (h : 0 < (a :: l).length) : (a :: l)[0] = a := List.getElem_cons_zero a l h
theorem nb3 {α : Type _} (a : α) (l : List α) (i : Nat) (h : i + 1 < (a :: l).length) : (a :: l)[i + 1] = l[i]'(by simpa using h) := List.getElem_cons_succ a l i h
theorem nb4 {α : Type _} (l : List α) (i : Nat) (a : α) : l.toArray.setIfInBounds i a = (l.set i a).toArray := List.setIfInBounds_toArray l i a
theorem nb5 {α : Type _} {x : α} {xs : List α} {a : α} : (x :: xs).set 0 a = a :: xs := List.set_cons_zero
theorem nb6 {α : Type _} {x : α} {xs : List α} {i : Nat} {a : α} : (x :: xs).set (i + 1) a = x :: xs.set i a := List.set_cons_succ
section
variable {P : Program} {ops : Array Oper} {Q : Exit → Act → World → Prop} {md : Region.Mode} {S : World → Prop}
theorem tkA {i : Nat} {oi : Oper} {v : Value} {fuel : Nat} {listed : Array Bool} {a : Act} {w : World} (hi : ops[i]? = some oi) (hy : YieldsIf P ops S oi v a) (hS : S w)
  (h : wpAnyH P md ops Q S fuel (listed.setIfInBounds i true) (a.put oi.dst v) w) (hs : Region.noSelect ops = true := by kernel_rfl) (hf : Region.free md ops listed i = true := by kernel_rfl)
  (hr : (Region.ready md ops listed).contains i = true := by kernel_rfl) (hQ : ∀ c a w, Q (.panic c) (a.put oi.dst v) w → Q (.panic c) a w := by exact fun _ _ _ h => h) : wpAnyH P md ops Q S (fuel + 1) listed a w :=
 wpAnyH_take hi hs hf hr hQ hy hS h
theorem rdA {i : Nat} {o : Oper} {fuel : Nat} {listed : Array Bool} {a : Act} {w : World} (ho : ops[i]? = some o)
  (h : ∀ K' : Act → World → Prop, Shut (∀ a w, S w → (S w → wpAnyH P md ops Q S fuel (listed.setIfInBounds i true) a w) → K' a w) → if Region.wanted o (yielded ops a.tmps) = true then Oper.wp P o a w K' Q else K' (a.put o.dst undef) w)
  (hr : Region.ready md ops listed = [i] := by kernel_rfl) : wpAnyH P md ops Q S (fuel + 1) listed a w :=
 wpAnyH_ready hr (by simp) (AllReadyH.cons ho h AllReadyH.nil)
end
end Go.Proofs.YtofijjomfhmbjaaGreat

namespace Go.Proofs.YtofijjomfhmbjaaGreat
open Go.RowKit

structure MB (w : World) (y : R3) (q : Rat) (wr : World) : Prop where
 bel : Below w.heap.size w wr
 r : wr.heap[w.heap.size]? = some (.cells r30.arr 54 (0, 0))
 m : wr.heap[w.heap.size + 1]? = some (.cells y.arr 54 (0, 0))
 v : IsRat wr y.val q
theorem MB.below {w a b : World} {y : R3} {q : Rat} (h : MB w y q a) (hb : Below a.heap.size a b) : MB w y q b := ⟨ext_trans h.bel hb, blk_keep h.r hb (blk_lt h.r), blk_keep h.m hb (blk_lt h.m), h.v.below hb⟩
theorem MB.set {w a : World} {y x : R3} {q p : Rat} (h : MB w y q a) (hx : IsRat a x.val p) : MB w x p (((a.setCell ⟨w.heap.size + 1, 0, none⟩ (.bool x.b)).setCell ⟨w.heap.size + 1, 1, none⟩ (.slice x.a x.n x.c)).setCell ⟨w.heap.size + 1, 2, none⟩ (.slice x.d x.m x.e)) :=
 ⟨below3r h.bel (by omega), blk_keep h.r (below3r (Below.refl (w.heap.size + 1) a) (Nat.le_refl _)) (by omega), set3r h.m, hx.set3r h.m⟩
end Go.Proofs.YtofijjomfhmbjaaGreat

namespace Go.Proofs.YtofijjomfhmbjaaGreat
open Go.RowKit

def fillT (t : Array Value) (ds : List Nat) (f : Nat → Value) : Array Value := ds.foldl (fun t d => t.setIfInBounds d (f d)) t
def fillA (a : Act) (ds : List Nat) (f : Nat → Value) : Act := { a with tmps := fillT a.tmps ds f }
theorem fillT_get (f : Nat → Value) (j : Nat) : ∀ (ds : List Nat) (t : Array Value), (fillT t ds f)[j]? = if j ∈ ds ∧ j < t.size then some (f j) else t[j]?
 | [], t => by simp [fillT]
 | d :: ds, t => by
  have ih := fillT_get f j ds (t.setIfInBounds d (f d))
  show (fillT (t.setIfInBounds d (f d)) ds f)[j]? = _
  rw [ih, Array.size_setIfInBounds]
  by_cases h1 : j ∈ ds ∧ j < t.size
  ·
   rw [if_pos h1, if_pos ⟨List.mem_cons_of_mem _ h1.1, h1.2⟩]
  ·
   rw [if_neg h1, Array.getElem?_setIfInBounds]
   by_cases h2 : d = j
   ·
    subst h2
    rw [if_pos rfl]
    by_cases h3 : d < t.size
    ·
     rw [if_pos h3, if_pos ⟨List.mem_cons_self, h3⟩]
    ·
     rw [if_neg h3, if_neg (fun h => h3 h.2), Array.getElem?_eq_none (by omega)]
   ·
    rw [if_neg h2, if_neg (fun h => h1 ⟨by rcases List.mem_cons.1 h.1 with h | h; exact absurd h.symm h2; exact h, h.2⟩)]
theorem fillT_size (f : Nat → Value) : ∀ (ds : List Nat) (t : Array Value), (fillT t ds f).size = t.size
 | [], t => rfl
 | d :: ds, t => by
  show (fillT (t.setIfInBounds d (f d)) ds f).size = _
  rw [fillT_size, Array.size_setIfInBounds]
theorem fillA_put {a : Act} {ds : List Nat} {f : Nat → Value} {d : Nat} {v : Value} (hd : d ∈ ds) : (fillA a ds f).put (some d) v = fillA a ds (fun e => if e = d then v else f e) := by
 have e : (fillT a.tmps ds f).setIfInBounds d v = fillT a.tmps ds (fun e => if e = d then v else f e) := by
  apply Array.ext_getElem?
  intro j
  rw [Array.getElem?_setIfInBounds, fillT_get, fillT_get, fillT_size]
  by_cases h : d = j
  ·
   subst h
   rw [if_pos rfl]
   by_cases h3 : d < a.tmps.size
   ·
    rw [if_pos h3, if_pos ⟨hd, h3⟩]; simp
   ·
    rw [if_neg h3, if_neg (fun h => h3 h.2), Array.getElem?_eq_none (by omega)]
  ·
   rw [if_neg h]
   have h' : ¬ j = d := fun e => h e.symm
   simp [h']
 unfold fillA
 show ({ a with tmps := fillT a.tmps ds f } : Act).put (some d) v = _
 unfold Act.put
 simp [e]
theorem fillA_id (a : Act) (ds : List Nat) : fillA a ds (fun d => a.tmps.getD d undef) = a := by
 unfold fillA
 have e : fillT a.tmps ds (fun d => a.tmps.getD d undef) = a.tmps := by
  apply Array.ext_getElem?
  intro j
  rw [fillT_get]
  split
  ·
   rename_i h
   rw [Array.getElem?_eq_getElem h.2, Array.getD_eq_getD_getElem?, Array.getElem?_eq_getElem h.2]
   rfl
  ·
   rfl
 rw [e]
def AllM (p : Nat → Prop) : List Nat → Prop
 | [] => True
 | i :: l => p i ∧ AllM p l
theorem AllM.at {p : Nat → Prop} {i : Nat} : ∀ {l : List Nat}, AllM p l → i ∈ l → p i
 | j :: l, h, hi => by
  rcases List.mem_cons.1 hi with rfl | hi
  ·
   exact h.1
  ·
   exact h.2.at hi
def modOk (ops : Array Oper) (l0 lM : Array Bool) (M N E : List Nat) (dst : Nat → Nat) (preds : Nat → List Nat) (ds : List Nat) : Bool :=
 l0.size == ops.size && lM.size == ops.size &&
 (List.range ops.size).all (fun i => lM.getD i true == (l0.getD i true || M.contains i)) &&
 M.all (fun i => l0.getD i true == false && (match ops[i]? with
  | some o => o.dst == some (dst i) && ds.contains (dst i) && (preds i).all (fun j => M.contains j && o.after.any (fun e => Region.binds .any e && e.on == j)) &&
    o.after.all (fun e => !Region.binds .any e || l0.getD e.on false || (M.contains e.on && Nat.blt e.on i))
  | none => false)) &&
 (List.range ops.size).all (fun i => l0.getD i true || M.contains i || (match ops[i]? with
  | some o => o.after.any (fun e => Region.binds .any e && (l0.getD e.on true == false && M.contains e.on == false)) || M.all (fun j => o.after.any (fun e => Region.binds .any e && e.on == j) || M.any (fun l => Nat.blt j l && (match ops[l]? with
    | some o' => o'.after.any (fun e => Region.binds .any e && e.on == j)
    | none => false)) || (E.contains j && (match ops[j]? with
    | some oj => oj.after.all (fun e => !Region.binds .any e || l0.getD e.on false || o.after.any (fun e' => Region.binds .any e' && e'.on == e.on))
    | none => false)))
  | none => false)) &&
 M.all (fun i => M.all (fun j => i == j || dst i != dst j)) && M.all (fun i => N.contains i || E.contains i) && Region.noSelect ops &&
 E.all (fun i => M.contains i && (match ops[i]? with
  | some oi => (List.range ops.size).all (fun j => j == i || oi.after.any (fun e => Region.binds .any e && e.on == j) || (match ops[j]? with
   | some oj => oj.after.any (fun e => Region.binds .any e && e.on == i) || oi.apart ops oj
   | none => true))
  | none => false))
section
variable {P : Program} {ops : Array Oper} {Q : Exit → Act → World → Prop}
def StepM (P : Program) (ops : Array Oper) (Q : Exit → Act → World → Prop) (a0 : Act) (ds : List Nat) (W0 : World) (PV : Nat → Value → World → Prop) (dst : Nat → Nat) (preds : Nat → List Nat) (al : List Nat) (i : Nat) : Prop :=
 ∀ o, ops[i]? = some o → ∀ f w, Below W0.heap.size W0 w → (∀ j, j ∈ preds i → PV j (f (dst j)) w) →
  ∀ K' : Act → World → Prop, Shut (∀ a' w'' v, a' = (fillA a0 ds f).put o.dst v → PV i v w'' → (i ∈ al → v = .pointer (some ⟨w.heap.size, 0, none⟩)) → Below w.heap.size w w'' → K' a' w'') →
   if Region.wanted o (yielded ops (fillA a0 ds f).tmps) = true then Oper.wp P o (fillA a0 ds f) w K' Q else K' ((fillA a0 ds f).put o.dst undef) w
theorem StepM.of {a0 : Act} {ds : List Nat} {W0 : World} {PV : Nat → Value → World → Prop} {dst : Nat → Nat} {preds : Nat → List Nat} {al : List Nat} {i : Nat} {o : Oper} (ho : ops[i]? = some o)
  (h : ∀ f w, Below W0.heap.size W0 w → (∀ j, j ∈ preds i → PV j (f (dst j)) w) →
   ∀ K' : Act → World → Prop, Shut (∀ a' w'' v, a' = (fillA a0 ds f).put o.dst v → PV i v w'' → (i ∈ al → v = .pointer (some ⟨w.heap.size, 0, none⟩)) → Below w.heap.size w w'' → K' a' w'') →
   if Region.wanted o (yielded ops (fillA a0 ds f).tmps) = true then Oper.wp P o (fillA a0 ds f) w K' Q else K' ((fillA a0 ds f).put o.dst undef) w) : StepM P ops Q a0 ds W0 PV dst preds al i :=
 fun o' ho' => by rw [ho] at ho'; cases ho'; exact h
def EagerM (P : Program) (ops : Array Oper) (a0 : Act) (ds : List Nat) (W0 : World) (PV : Nat → Value → World → Prop) (dst : Nat → Nat) (preds : Nat → List Nat) (i : Nat) : Prop :=
 ∀ o, ops[i]? = some o → ∀ f w, Below W0.heap.size W0 w → (∀ j, j ∈ preds i → PV j (f (dst j)) w) →
  ∃ v, PV i v w ∧ Region.wanted o (yielded ops (fillA a0 ds f).tmps) = true ∧ ∀ u, (execOp (fillA a0 ds f).eval o).run P u = .ok (.value v) u
theorem EagerM.of {a0 : Act} {ds : List Nat} {W0 : World} {PV : Nat → Value → World → Prop} {dst : Nat → Nat} {preds : Nat → List Nat} {i : Nat} {o : Oper} (ho : ops[i]? = some o)
  (h : ∀ f w, Below W0.heap.size W0 w → (∀ j, j ∈ preds i → PV j (f (dst j)) w) →
   ∃ v, PV i v w ∧ Region.wanted o (yielded ops (fillA a0 ds f).tmps) = true ∧ ∀ u, (execOp (fillA a0 ds f).eval o).run P u = .ok (.value v) u) : EagerM P ops a0 ds W0 PV dst preds i :=
 fun o' ho' => by rw [ho] at ho'; cases ho'; exact h
theorem wpAnyH_mod {S : World → Prop} {a0 : Act} {ds : List Nat} {l0 lM : Array Bool} {M N E : List Nat} {F : Nat} {W0 : World} {PV : Nat → Value → World → Prop} {dst : Nat → Nat} {preds : Nat → List Nat} {al : List Nat}
  (hchk : modOk ops l0 lM M N E dst preds ds = true) (hQ : ∀ c a (d : Nat) v w, Q (.panic c) (Act.put a (some d) v) w → Q (.panic c) a w)
  (hst : ∀ i v w w', Below w.heap.size w w' → PV i v w → PV i v w')
  (hal : ∀ i v w, i ∈ al → PV i v w → ∃ B, v = .pointer (some ⟨B, 0, none⟩) ∧ B < w.heap.size)
  (hS : ∀ w, Below W0.heap.size W0 w → S w)
  (hstep : AllM (StepM P ops Q a0 ds W0 PV dst preds al) N) (heag : AllM (EagerM P ops a0 ds W0 PV dst preds) E) (hEal : ∀ i, i ∈ E → i ∉ al)
  (hend : ∀ f w, Below W0.heap.size W0 w → (∀ i, i ∈ M → PV i (f (dst i)) w) → (∀ i j, i ∈ M → j ∈ M → i ∈ al → j ∈ al → i ≠ j → f (dst i) ≠ f (dst j)) → wpAnyH P .any ops Q S F lM (fillA a0 ds f) w) :
  ∀ (n : Nat) (U : List Nat) (listed : Array Bool) (f : Nat → Value) (w : World), U.length = n → listed.size = ops.size →
   (∀ i, i ∉ M → listed.getD i true = l0.getD i true) → (∀ i, i ∈ M → (listed.getD i true = false ↔ i ∈ U)) → (∀ i, i ∈ U → i ∈ M) → U.Nodup → Below W0.heap.size W0 w →
   (∀ i, i ∈ M → i ∉ U → PV i (f (dst i)) w) → (∀ i j, i ∈ M → j ∈ M → i ∉ U → j ∉ U → i ∈ al → j ∈ al → i ≠ j → f (dst i) ≠ f (dst j)) →
   (∀ i, i ∈ M → i ∉ U → ∀ o, ops[i]? = some o → ∀ e, e ∈ o.after → Region.binds .any e = true → e.on ∈ U → False) →
   wpAnyH P .any ops Q S (F + n) listed (fillA a0 ds f) w := by
 unfold modOk at hchk
 simp only [Bool.and_eq_true, beq_iff_eq, List.all_eq_true, List.mem_range] at hchk
 obtain ⟨⟨⟨⟨⟨⟨⟨⟨k1, k2⟩, k3⟩, k4⟩, k5⟩, k6⟩, k7⟩, k8⟩, k9⟩ := hchk
 intro n
 induction n with
 | zero =>
  intro U listed f w hU hsz hout hin hsub hnd hb hp hdist hdc
  obtain rfl : U = [] := List.eq_nil_of_length_eq_zero hU
  have e : listed = lM := by
   apply Array.ext (by omega)
   intro i h1 h2
   have hi : i < ops.size := by omega
   have g1 : listed.getD i true = listed[i] := by simp [Array.getD_eq_getD_getElem?, h1]
   have g2 : lM.getD i true = lM[i] := by simp [Array.getD_eq_getD_getElem?, h2]
   rw [← g1, ← g2, k3 i hi]
   by_cases hm : i ∈ M
   ·
    have := hin i hm
    have h3 : M.contains i = true := by simpa using hm
    rw [h3, Bool.or_true]
    cases h4 : listed.getD i true with
    | true => rfl
    | false => exact absurd (this.1 h4) (by simp)
   ·
    have h3 : M.contains i = false := by simpa using hm
    rw [h3, Bool.or_false, hout i hm]
  rw [e]
  exact hend f w hb (fun i hi => hp i hi (by simp)) (fun i j h1 h2 => hdist i j h1 h2 (by simp) (by simp))
 | succ n ih =>
  intro U listed f w hU hsz hout hin hsub hnd hb hp hdist hdc
  have hpre : ∀ i, i ∈ U → i ∈ Region.ready .any ops listed → ∀ o, ops[i]? = some o → ∀ j, j ∈ preds i → PV j (f (dst j)) w := by
   intro i hiU hi o ho j hj
   have hm := hsub i hiU
   have h4 := k4 i hm
   rw [ho] at h4
   simp only [Bool.and_eq_true, beq_iff_eq] at h4
   obtain ⟨_, ⟨⟨hdst, hds⟩, hpr⟩, _⟩ := h4
   rw [List.all_eq_true] at hpr
   have h6 := hpr j hj
   simp only [Bool.and_eq_true] at h6
   obtain ⟨hjM, hja⟩ := h6
   have hjM : j ∈ M := by simpa using hjM
   refine hp j hjM (fun hjU => ?_)
   obtain ⟨_, o', ho', hall⟩ := mem_ready.1 hi
   rw [ho] at ho'
   cases ho'
   rw [Array.any_eq_true'] at hja
   obtain ⟨e, he, hbe⟩ := hja
   simp only [Bool.and_eq_true, beq_iff_eq] at hbe
   have h7 := hall e he hbe.1
   rw [hbe.2] at h7
   have h8 := (hin j hjM).2 hjU
   rw [Array.getD_eq_getD_getElem?] at h7 h8
   cases hx : listed[j]? with
   | none => rw [hx] at h7; simp at h7
   | some b => rw [hx] at h7 h8; simp at h7 h8; rw [h7] at h8; cases h8
  -- behind an operation of U that was ready
  have hgo : ∀ i, i ∈ U → i ∈ Region.ready .any ops listed → ∀ o, ops[i]? = some o → ∀ w'' v, PV i v w'' → (i ∈ al → v = .pointer (some ⟨w.heap.size, 0, none⟩)) → Below w.heap.size w w'' →
    wpAnyH P .any ops Q S (F + n) (listed.setIfInBounds i true) (fillA a0 ds (fun e => if e = dst i then v else f e)) w'' := by
   intro i hiU hi o ho w'' v hv hfresh hb'
   have hm := hsub i hiU
   have hdd : ∀ j, j ∈ M → j ≠ i → dst j ≠ dst i := fun j hj hne h => by
    have := k6 j hj i hm
    simp only [Bool.or_eq_true, beq_iff_eq, bne_iff_ne] at this
    rcases this with h1 | h1
    ·
     exact hne h1
    ·
     exact h1 h
   refine ih (U.erase i) _ _ _ (by rw [List.length_erase_of_mem hiU]; omega) (by rw [Array.size_setIfInBounds]; exact hsz) (fun j hj => ?_) (fun j hj => ?_) (fun j hj => hsub j (List.mem_of_mem_erase hj)) (hnd.erase i) (hb.trans (hb'.mono hb.size)) (fun j hj hju => ?_) (fun j l hj hl hju hlu hja hla hjl => ?_) (fun j hj hju o' ho' e he hbe heU => ?_)
   ·
    have hne : i ≠ j := fun h => hj (h ▸ hm)
    rw [getD_set_ne true hne]
    exact hout j hj
   ·
    by_cases hij : i = j
    ·
     subst hij
     have hlt : i < listed.size := by rw [hsz]; exact (Array.getElem?_eq_some_iff.1 ho).1
     constructor
     ·
      intro h
      rw [Array.getD_eq_getD_getElem?, Array.getElem?_setIfInBounds] at h
      simp [hlt] at h
     ·
      intro h
      exact absurd h (List.Nodup.not_mem_erase hnd)
    ·
     rw [getD_set_ne true hij, hin j hj, List.Nodup.mem_erase_iff hnd]
     constructor
     ·
      intro h; exact ⟨fun e => hij e.symm, h⟩
     ·
      intro h; exact h.2
   ·
    by_cases hij : j = i
    ·
     subst hij
     simpa using hv
    ·
     have := hp j hj (fun h => hju ((List.Nodup.mem_erase_iff hnd).2 ⟨hij, h⟩))
     show PV j (if dst j = dst i then v else f (dst j)) w''
     rw [if_neg (hdd j hj hij)]
     exact hst j _ _ _ hb' this
   ·
    show (if dst j = dst i then v else f (dst j)) ≠ (if dst l = dst i then v else f (dst l))
    have hnew : ∀ k, k ∈ M → k ≠ i → k ∉ U.erase i → k ∈ al → i ∈ al → f (dst k) ≠ v := fun k hk hki hku hka hia => by
     have h1 := hp k hk (fun h => hku ((List.Nodup.mem_erase_iff hnd).2 ⟨hki, h⟩))
     obtain ⟨B, hB, hlt⟩ := hal k _ _ hka h1
     rw [hB, hfresh hia]
     intro h
     have h2 := congrArg (fun v => match v with | Value.pointer (some a) => a.block | _ => 0) h
     dsimp only at h2
     omega
    by_cases h1 : j = i
    ·
     subst h1
     rw [if_pos rfl, if_neg (hdd l hl (fun h => hjl h.symm))]
     exact fun h => hnew l hl (fun h => hjl h.symm) hlu hla hja h.symm
    ·
     rw [if_neg (hdd j hj h1)]
     by_cases h2 : l = i
     ·
      subst h2
      rw [if_pos rfl]
      exact hnew j hj h1 hju hja hla
     ·
      rw [if_neg (hdd l hl h2)]
      exact hdist j l hj hl (fun h => hju ((List.Nodup.mem_erase_iff hnd).2 ⟨h1, h⟩)) (fun h => hlu ((List.Nodup.mem_erase_iff hnd).2 ⟨h2, h⟩)) hja hla hjl
   ·
    have heU2 : e.on ∈ U := List.mem_of_mem_erase heU
    by_cases hij : j = i
    ·
     subst hij
     obtain ⟨_, o2, ho2, hall⟩ := mem_ready.1 hi
     rw [ho'] at ho2
     cases ho2
     have h7 := hall e he hbe
     have h8 := (hin e.on (hsub _ heU2)).2 heU2
     rw [Array.getD_eq_getD_getElem?] at h7 h8
     cases hx : listed[e.on]? with
     | none => rw [hx] at h7; simp at h7
     | some b => rw [hx] at h7 h8; simp at h7 h8; rw [h7] at h8; cases h8
    ·
     exact hdc j hj (fun h => hju ((List.Nodup.mem_erase_iff hnd).2 ⟨hij, h⟩)) o' ho' e he hbe heU2
  have hdstd : ∀ i, i ∈ M → ∀ o, ops[i]? = some o → o.dst = some (dst i) ∧ dst i ∈ ds := by
   intro i hm o ho
   have h4 := k4 i hm
   rw [ho] at h4
   simp only [Bool.and_eq_true, beq_iff_eq] at h4
   obtain ⟨_, ⟨⟨hdst, hds⟩, hpr⟩, _⟩ := h4
   exact ⟨hdst, by simpa using hds⟩
  by_cases hE : ∃ i, i ∈ E ∧ i ∈ U ∧ i ∈ Region.ready .any ops listed
  ·
   obtain ⟨i, hiE, hiU, hi⟩ := hE
   obtain ⟨_, o, ho, _⟩ := mem_ready.1 hi
   obtain ⟨hdst, hds⟩ := hdstd i (hsub i hiU) o ho
   obtain ⟨v, hv, hw, hrun⟩ := heag.at hiE o ho f w hb (hpre i hiU hi o ho)
   refine wpAnyH_first (v := v) ho (Region.noSelect_spec k8) (fun c a w h => hQ c a (dst i) v w (by rw [hdst] at h; exact h)) (F + n) listed _ w ?_ hi (.inl ⟨hw, fun u _ => hrun u⟩) (hS _ hb) ?_
   ·
    intro j oj hoj hne hun hno
    have h9 := (k9 i hiE).2
    rw [ho] at h9
    simp only [List.all_eq_true, List.mem_range] at h9
    have h10 := h9 j (Array.getElem?_eq_some_iff.1 hoj).1
    rw [hoj] at h10
    simp only [Bool.or_eq_true, beq_iff_eq, hne, false_or] at h10
    rcases h10 with h10 | h10 | h10
    ·
     exfalso
     rw [Array.any_eq_true'] at h10
     obtain ⟨e, he, hbe⟩ := h10
     simp only [Bool.and_eq_true, beq_iff_eq] at hbe
     obtain ⟨_, o2, ho2, hall⟩ := mem_ready.1 hi
     rw [ho] at ho2
     cases ho2
     have h11 := hall e he hbe.1
     rw [hbe.2] at h11
     rw [Array.getD_eq_getD_getElem?] at h11 hun
     cases hx : listed[j]? with
     | none => rw [hx] at h11; simp at h11
     | some b => rw [hx] at h11 hun; simp at h11 hun; rw [h11] at hun; cases hun
    ·
     exfalso
     rw [Array.any_eq_true'] at h10
     obtain ⟨e, he, hbe⟩ := h10
     simp only [Bool.and_eq_true, beq_iff_eq] at hbe
     exact hno e he hbe.1 hbe.2
    ·
     exact h10
   ·
    rw [hdst, fillA_put hds]
    exact hgo i hiU hi o ho w v hv (fun h => absurd h (hEal i hiE)) (Below.refl _ _)
  ·
   -- what is ready lies in U
   have hready : ∀ i, i ∈ Region.ready .any ops listed → i ∈ U := by
    intro i hi
    obtain ⟨g1, o, ho, hall⟩ := mem_ready.1 hi
    by_cases hm : i ∈ M
    ·
     exact (hin i hm).1 g1
    ·
     exfalso
     have hlt : i < ops.size := (Array.getElem?_eq_some_iff.1 ho).1
     have h5 := k5 i hlt
     rw [hout i hm] at g1
     have h3 : M.contains i = false := by simpa using hm
     rw [g1, h3, ho] at h5
     simp only [Bool.false_or] at h5
     rw [Bool.or_eq_true] at h5
     rcases h5 with h5 | h5
     ·
      rw [Array.any_eq_true'] at h5
      obtain ⟨e, he, hbe⟩ := h5
      simp only [Bool.and_eq_true, beq_iff_eq] at hbe
      obtain ⟨hb1, hb2, hb3⟩ := hbe
      have h7 := hall e he hb1
      have hem : e.on ∉ M := by simpa using hb3
      have h8 := hout e.on hem
      rw [hb2] at h8
      rw [Array.getD_eq_getD_getElem?] at h7 h8
      cases hx : listed[e.on]? with
      | none => rw [hx] at h7; simp at h7
      | some b => rw [hx] at h7 h8; simp at h7 h8; rw [h7] at h8; cases h8
     rw [List.all_eq_true] at h5
     have hne : U ≠ [] := by intro h; rw [h] at hU; simp at hU
     have hu : U.max hne ∈ U := List.max_mem hne
     have hmax : ∀ j, j ∈ U → j ≤ U.max hne := fun j hj => List.le_max_of_mem hj
     generalize U.max hne = u at hu hmax
     have h6 := h5 u (hsub u hu)
     rw [Bool.or_eq_true, Bool.or_eq_true] at h6
     rcases h6 with (h6 | h6) | h6
     ·
      rw [Array.any_eq_true'] at h6
      obtain ⟨e, he, hbe⟩ := h6
      simp only [Bool.and_eq_true, beq_iff_eq] at hbe
      have h7 := hall e he hbe.1
      rw [hbe.2] at h7
      have h8 := (hin u (hsub u hu)).2 hu
      rw [Array.getD_eq_getD_getElem?] at h7 h8
      cases hx : listed[u]? with
      | none => rw [hx] at h7; simp at h7
      | some b => rw [hx] at h7 h8; simp at h7 h8; rw [h7] at h8; cases h8
     ·
      rw [List.any_eq_true] at h6
      obtain ⟨l, hl, h6⟩ := h6
      rw [Bool.and_eq_true] at h6
      obtain ⟨h6a, h6b⟩ := h6
      have hlt2 : u < l := by simpa using h6a
      have hlu : l ∉ U := fun h => by have := hmax l h; omega
      cases hol : ops[l]? with
      | none => rw [hol] at h6b; simp at h6b
      | some o' =>
       rw [hol] at h6b
       simp only [Array.any_eq_true'] at h6b
       obtain ⟨e, he, hbe⟩ := h6b
       simp only [Bool.and_eq_true, beq_iff_eq] at hbe
       exact hdc l hl hlu o' hol e he hbe.1 (hbe.2 ▸ hu)
     ·
      rw [Bool.and_eq_true] at h6
      obtain ⟨h6a, h6b⟩ := h6
      cases hou : ops[u]? with
      | none => rw [hou] at h6b; simp at h6b
      | some ou =>
       rw [hou] at h6b
       simp only [Array.all_eq_true_iff_forall_mem] at h6b
       refine hE ⟨u, by simpa using h6a, hu, mem_ready.2 ⟨(hin u (hsub u hu)).2 hu, ou, hou, fun e he hbe => ?_⟩⟩
       have h7 := h6b e he
       rw [hbe] at h7
       simp only [Bool.not_true, Bool.false_or, Bool.or_eq_true] at h7
       rcases h7 with h7 | h7
       ·
        by_cases hem : e.on ∈ M
        ·
         exfalso
         have h9 := (k4 e.on hem).1
         rw [Array.getD_eq_getD_getElem?] at h7 h9
         cases hx : l0[e.on]? with
         | none => rw [hx] at h7; simp at h7
         | some b => rw [hx] at h7 h9; simp at h7 h9; rw [h7] at h9; cases h9
        ·
         have h13 : l0.getD e.on true = true ∧ e.on < l0.size := by
          rw [Array.getD_eq_getD_getElem?] at h7 ⊢
          cases hx : l0[e.on]? with
          | none => rw [hx] at h7; simp at h7
          | some b => rw [hx] at h7; exact ⟨by simpa using h7, (Array.getElem?_eq_some_iff.1 hx).1⟩
         have h14 := hout e.on hem
         rw [h13.1] at h14
         rw [Array.getD_eq_getD_getElem?] at h14 ⊢
         have h15 : e.on < listed.size := by omega
         rw [Array.getElem?_eq_getElem h15] at h14 ⊢
         simpa using h14
       ·
        rw [Array.any_eq_true'] at h7
        obtain ⟨e', he', hbe'⟩ := h7
        simp only [Bool.and_eq_true, beq_iff_eq] at hbe'
        have h8 := hall e' he' hbe'.1
        rw [hbe'.2] at h8
        exact h8
   -- something is ready: the least of U
   have hmin : ∃ i, i ∈ U ∧ ∀ j, j ∈ U → i ≤ j := by
    have hne : U ≠ [] := by intro h; rw [h] at hU; simp at hU
    refine ⟨U.min hne, List.min_mem hne, fun j hj => List.min_le_of_mem hj⟩
   have hsome : Region.ready .any ops listed ≠ [] := by
    obtain ⟨i, hi, hle⟩ := hmin
    have hm := hsub i hi
    have h4 := k4 i hm
    cases ho : ops[i]? with
    | none => rw [ho] at h4; simp at h4
    | some o =>
     rw [ho] at h4
     simp only [Bool.and_eq_true, beq_iff_eq] at h4
     obtain ⟨_, ⟨⟨_, _⟩, _⟩, h7⟩ := h4
     have : i ∈ Region.ready .any ops listed := by
      rw [mem_ready]
      refine ⟨(hin i hm).2 hi, o, ho, fun e he hbe => ?_⟩
      rw [Array.all_eq_true_iff_forall_mem] at h7
      have h8 := h7 e he
      rw [hbe] at h8
      simp only [Bool.not_true, Bool.false_or, Bool.or_eq_true, Bool.and_eq_true] at h8
      have hgd : listed.getD e.on true = true → listed.getD e.on false = true ∨ ops.size ≤ e.on := fun h => by
       rw [Array.getD_eq_getD_getElem?] at h ⊢
       cases hx : listed[e.on]? with
       | none => right; have := Array.getElem?_eq_none_iff.1 hx; omega
       | some b => left; rw [hx] at h; simpa using h
      by_cases hem : e.on ∈ M
      ·
       have hlt : e.on < i := by
        rcases h8 with h8 | h8
        ·
         exfalso
         have h9 := k4 e.on hem
         have h10 := h9.1
         rw [Array.getD_eq_getD_getElem?] at h8 h10
         cases hx : l0[e.on]? with
         | none => rw [hx] at h8; simp at h8
         | some b => rw [hx] at h8 h10; simp at h8 h10; rw [h8] at h10; cases h10
        ·
         simpa using h8.2
       have hnu : e.on ∉ U := fun h => by have := hle _ h; omega
       have h11 : listed.getD e.on true = true := by
        cases h12 : listed.getD e.on true with
        | true => rfl
        | false => exact absurd ((hin e.on hem).1 h12) hnu
       rcases hgd h11 with h | h
       ·
        exact h
       ·
        exfalso
        have := k4 e.on hem
        rw [Array.getElem?_eq_none h] at this
        simp at this
      ·
       rcases h8 with h8 | h8
       ·
        have h13 : l0.getD e.on true = true := by
         rw [Array.getD_eq_getD_getElem?] at h8 ⊢
         cases hx : l0[e.on]? with
         | none => rfl
         | some b => rw [hx] at h8; simpa using h8
        have h14 := hout e.on hem
        rw [h13] at h14
        rcases hgd h14 with h | h
        ·
         exact h
        ·
         exfalso
         rw [Array.getD_eq_getD_getElem?, Array.getElem?_eq_none (by omega)] at h8
         simp at h8
       ·
        exact absurd (by simpa using h8.1) hem
     intro h
     rw [h] at this
     cases this
   refine ⟨fun h => absurd h hsome, fun i hi => ?_⟩
   have hiU := hready i hi
   have hm := hsub i hiU
   obtain ⟨_, o, ho, _⟩ := mem_ready.1 hi
   obtain ⟨hdst, hds⟩ := hdstd i hm o ho
   refine wpOp_step ho (fun K' hK => ?_)
   have hiN : i ∈ N := by
    have := k7 i hm
    rw [Bool.or_eq_true] at this
    rcases this with h | h
    ·
     simpa using h
    ·
     exact absurd ⟨i, by simpa using h, hiU, hi⟩ hE
   refine hstep.at hiN o ho f w hb (hpre i hiU hi o ho) K' ?_
   intro a' w'' v ha' hv hfresh hb'
   refine hK _ _ ⟨hS _ (hb.trans (hb'.mono hb.size)), ?_⟩
   rw [ha', hdst, fillA_put hds]
   exact hgo i hiU hi o ho w'' v hv hfresh hb'
end
section
variable {P : Program} {ops : Array Oper} {Q : Exit → Act → World → Prop}
def pickV : List (Nat × (Value → World → Prop)) → Nat → Value → World → Prop
 | [], _ => fun _ _ => True
 | (j, p) :: l, i => if i = j then p else pickV l i
def StV : List (Nat × (Value → World → Prop)) → Prop
 | [] => True
 | (_, p) :: l => (∀ v w w', Below w.heap.size w w' → p v w → p v w') ∧ StV l
theorem StV.st : ∀ {l : List (Nat × (Value → World → Prop))}, StV l → ∀ i v w w', Below w.heap.size w w' → pickV l i v w → pickV l i v w'
 | [], _, _, _, _, _, _, _ => trivial
 | (j, p) :: l, h, i, v, w, w', hb, hp => by
  unfold pickV at hp ⊢
  split
  ·
   rename_i he; rw [if_pos he] at hp; exact h.1 v w w' hb hp
  ·
   rename_i he; rw [if_neg he] at hp; exact h.2.st i v w w' hb hp
def lookN : List (Nat × Nat) → Nat → Nat
 | [], _ => 0
 | (j, d) :: l, i => if i = j then d else lookN l i
def lookL : List (Nat × List Nat) → Nat → List Nat
 | [], _ => []
 | (j, d) :: l, i => if i = j then d else lookL l i
theorem wpAnyH_modular {S : World → Prop} {a : Act} {w : World} {fuel : Nat} {l0 : Array Bool} (M N E ds : List Nat) (lM : Array Bool) (F : Nat) (dst : List (Nat × Nat)) (preds : List (Nat × List Nat)) (al : List Nat) (pv : List (Nat × (Value → World → Prop)))
  (hf : fuel = F + M.length) (hchk : modOk ops l0 lM M N E (lookN dst) (lookL preds) ds = true) (hnd : M.Nodup) (hsz : l0.size = ops.size) (hst : StV pv)
  (hal : AllM (fun i => ∀ v w, pickV pv i v w → ∃ B, v = .pointer (some ⟨B, 0, none⟩) ∧ B < w.heap.size) al)
  (hS : ∀ w', Below w.heap.size w w' → S w')
  (hstep : AllM (StepM P ops Q a ds w (pickV pv) (lookN dst) (lookL preds) al) N) (heag : AllM (EagerM P ops a ds w (pickV pv) (lookN dst) (lookL preds)) E) (hEal : ∀ i, i ∈ E → i ∉ al)
  (hend : ∀ f w', Below w.heap.size w w' → (∀ i, i ∈ M → pickV pv i (f (lookN dst i)) w') → (∀ i j, i ∈ M → j ∈ M → i ∈ al → j ∈ al → i ≠ j → f (lookN dst i) ≠ f (lookN dst j)) → wpAnyH P .any ops Q S F lM (fillA a ds f) w') (hQ : ∀ c a (d : Nat) v w, Q (.panic c) (Act.put a (some d) v) w → Q (.panic c) a w := by exact fun _ _ _ _ _ h => h) :
  wpAnyH P .any ops Q S fuel l0 a w := by
 have k4 : ∀ i, i ∈ M → l0.getD i true = false := fun i hi => by
  have h := hchk
  unfold modOk at h
  simp only [Bool.and_eq_true, beq_iff_eq, List.all_eq_true] at h
  exact (h.1.1.1.1.1.2 i hi).1
 have h := wpAnyH_mod hchk hQ hst.st (fun i v w hi h => hal.at hi v w h) hS hstep heag hEal hend M.length M l0 (fun d => a.tmps.getD d undef) w rfl hsz (fun _ _ => rfl) (fun i hi => ⟨fun _ => hi, fun _ => k4 i hi⟩) (fun _ h => h) hnd (Below.refl _ _) (fun i hi hn => absurd hi hn) (fun i j hi _ hn => absurd hi hn) (fun i hi hn => absurd hi hn)
 rw [fillA_id] at h
 rw [hf]
 exact h
end
theorem Sx.addBox {w0 w : World} {bs : List Bx} {fs : List Fx} (h : Sx w0 w bs fs) {B T : Nat} {cs : Array Value} (hB : w.heap[B]? = some (.cells cs T (0, 0))) (h1 : w0.heap.size ≤ B) (hp : cs.toList.all plainV = true) (hn : ∀ b, b ∈ bs → b.1 ≠ B) : Sx w0 w ((B, cs, T) :: bs) fs := by
 refine ⟨h.bel, fun i b hi => ?_, ?_, h.fra⟩
 ·
  match i, hi with
  | 0, hi => simp at hi; subst hi; exact ⟨hB, h1, hp⟩
  | i + 1, hi => exact h.box i b (by simpa using hi)
 ·
  rw [List.map_cons, List.nodup_cons]
  refine ⟨fun hm => ?_, h.nod⟩
  obtain ⟨b, hb1, hb2⟩ := List.mem_map.1 hm
  exact hn b hb1 hb2
theorem Sx.lt {w0 w : World} {bs : List Bx} {fs : List Fx} (h : Sx w0 w bs fs) : ∀ b, b ∈ bs → b.1 < w.heap.size := fun b hb => by
 obtain ⟨i, hi⟩ := List.mem_iff_getElem?.1 hb
 exact blk_lt (h.box i b hi).1
end Go.Proofs.YtofijjomfhmbjaaGreat

namespace Go.Proofs.YtofijjomfhmbjaaGreat
open Go.RowKit

abbrev Ent := Int × Rat × Rat
def Ent7 (R : World → Value → Rat → Prop) (w : World) (b o : Nat) (e : Ent) : Prop :=
 ∃ x y : R3, w.cell? ⟨b, o, none⟩ = some (.int .i64 e.1) ∧ w.cell? ⟨b, o + 1, none⟩ = some (.bool x.b) ∧ w.cell? ⟨b, o + 2, none⟩ = some (.slice x.a x.n x.c) ∧ w.cell? ⟨b, o + 3, none⟩ = some (.slice x.d x.m x.e) ∧ w.cell? ⟨b, o + 4, none⟩ = some (.bool y.b) ∧ w.cell? ⟨b, o + 5, none⟩ = some (.slice y.a y.n y.c) ∧ w.cell? ⟨b, o + 6, none⟩ = some (.slice y.d y.m y.e) ∧ R w x.val e.2.1 ∧ R w y.val e.2.2
def TabOf (R : World → Value → Rat → Prop) (w : World) (v : Value) (es : List Ent) : Prop :=
 ∃ ao cap, v = .slice ao es.length cap ∧ (0 < es.length → ∃ b off, ao = some ⟨b, off, none⟩ ∧ b < w.heap.size ∧ ∀ i, i < es.length → Ent7 R w b (off + i * 7) (es.getD i (0, 0, 0)))
theorem Ent7.below {R : World → Value → Rat → Prop} (hR : ∀ w w' v q, R w v q → Below w.heap.size w w' → R w' v q) {w w' : World} {b o : Nat} {e : Ent} (h : Ent7 R w b o e) (hb : Below w.heap.size w w') (hl : b < w.heap.size) : Ent7 R w' b o e := by
 obtain ⟨x, y, h0, h1, h2, h3, h4, h5, h6, h7, h8⟩ := h
 have c : ∀ j v, w.cell? ⟨b, j, none⟩ = some v → w'.cell? ⟨b, j, none⟩ = some v := fun j v h => (hb.cell (p := ⟨b, j, none⟩) hl).trans h
 exact ⟨x, y, c _ _ h0, c _ _ h1, c _ _ h2, c _ _ h3, c _ _ h4, c _ _ h5, c _ _ h6, hR _ _ _ _ h7 hb, hR _ _ _ _ h8 hb⟩
theorem TabOf.below {R : World → Value → Rat → Prop} (hR : ∀ w w' v q, R w v q → Below w.heap.size w w' → R w' v q) {w w' : World} {v : Value} {es : List Ent} (h : TabOf R w v es) (hb : Below w.heap.size w w') : TabOf R w' v es := by
 obtain ⟨ao, cap, rfl, h⟩ := h
 refine ⟨ao, cap, rfl, fun hl => ?_⟩
 obtain ⟨b, off, rfl, hlt, h⟩ := h hl
 exact ⟨b, off, rfl, Nat.lt_of_lt_of_le hlt hb.size, fun i hi => (h i hi).below hR hb hlt⟩
def EntRow (R : World → Value → Rat → Prop) (w : World) (xs : List Value) (es : List Ent) : Prop :=
 xs.length = es.length * 7 ∧ ∀ j, j < es.length → ∃ x y : R3, xs[j * 7]? = some (.int .i64 (es.getD j (0, 0, 0)).1) ∧ xs[j * 7 + 1]? = some (.bool x.b) ∧ xs[j * 7 + 2]? = some (.slice x.a x.n x.c) ∧ xs[j * 7 + 3]? = some (.slice x.d x.m x.e) ∧ xs[j * 7 + 4]? = some (.bool y.b) ∧ xs[j * 7 + 5]? = some (.slice y.a y.n y.c) ∧ xs[j * 7 + 6]? = some (.slice y.d y.m y.e) ∧ R w x.val (es.getD j (0, 0, 0)).2.1 ∧ R w y.val (es.getD j (0, 0, 0)).2.2
theorem EntRow.mono {R : World → Value → Rat → Prop} {w w' : World} {xs : List Value} {es : List Ent} (h : EntRow R w xs es) (hr : ∀ v q, R w v q → R w' v q) : EntRow R w' xs es :=
 ⟨h.1, fun j hj => by obtain ⟨x, y, h0, h1, h2, h3, h4, h5, h6, h7, h8⟩ := h.2 j hj; exact ⟨x, y, h0, h1, h2, h3, h4, h5, h6, hr _ _ h7, hr _ _ h8⟩⟩
theorem EntRow.nil (R : World → Value → Rat → Prop) (w : World) : EntRow R w [] [] := ⟨rfl, fun j hj => absurd hj (by simp)⟩
theorem EntRow.snoc {R : World → Value → Rat → Prop} {w : World} {xs : List Value} {es : List Ent} (h : EntRow R w xs es) {f : Int} {x y : R3} {lo hi : Rat} (h1 : R w x.val lo) (h2 : R w y.val hi) :
  EntRow R w (xs ++ [.int .i64 f, .bool x.b, .slice x.a x.n x.c, .slice x.d x.m x.e, .bool y.b, .slice y.a y.n y.c, .slice y.d y.m y.e]) (es ++ [(f, lo, hi)]) := by
 obtain ⟨hl, h⟩ := h
 refine ⟨by simp [hl]; omega, fun j hj => ?_⟩
 rcases Nat.lt_or_ge j es.length with hj1 | hj1
 ·
  obtain ⟨x', y', g0, g1, g2, g3, g4, g5, g6, g7, g8⟩ := h j hj1
  have e : ∀ k, k < 7 → (xs ++ [.int .i64 f, .bool x.b, .slice x.a x.n x.c, .slice x.d x.m x.e, .bool y.b, .slice y.a y.n y.c, .slice y.d y.m y.e])[j * 7 + k]? = xs[j * 7 + k]? := fun k hk => List.getElem?_append_left (by omega)
  have e2 : (es ++ [(f, lo, hi)]).getD j (0, 0, 0) = es.getD j (0, 0, 0) := by simp [List.getD, List.getElem?_append_left hj1]
  rw [e2]
  exact ⟨x', y', by rw [← g0]; exact e 0 (by omega), by rw [← g1]; exact e 1 (by omega), by rw [← g2]; exact e 2 (by omega), by rw [← g3]; exact e 3 (by omega), by rw [← g4]; exact e 4 (by omega), by rw [← g5]; exact e 5 (by omega), by rw [← g6]; exact e 6 (by omega), g7, g8⟩
 ·
  obtain rfl : j = es.length := by simp at hj; omega
  have e : ∀ k, (xs ++ [.int .i64 f, .bool x.b, .slice x.a x.n x.c, .slice x.d x.m x.e, .bool y.b, .slice y.a y.n y.c, .slice y.d y.m y.e])[es.length * 7 + k]? = ([.int .i64 f, .bool x.b, .slice x.a x.n x.c, .slice x.d x.m x.e, .bool y.b, .slice y.a y.n y.c, .slice y.d y.m y.e] : List Value)[k]? := fun k => by rw [List.getElem?_append_right (by omega), hl]; congr 1; omega
  have e2 : (es ++ [(f, lo, hi)]).getD es.length (0, 0, 0) = (f, lo, hi) := by simp [List.getD]
  rw [e2]
  exact ⟨x, y, e 0, e 1, e 2, e 3, e 4, e 5, e 6, h1, h2⟩
theorem TabOf.ofRow {R : World → Value → Rat → Prop} {w : World} {base : Nat} {e : TypeId} {v : Value} {xs : List Value} {es : List Ent} (h : LRow w base e 7 v es.length xs) (ht : EntRow R w xs es) : TabOf R w v es := by
 rcases Nat.eq_zero_or_pos es.length with h0 | hp
 ·
  rcases h.1.2 with ⟨rfl, _⟩ | ⟨g, cap, cur, rfl, _⟩
  ·
   exact ⟨none, 0, by rw [h0], fun h => absurd h (by omega)⟩
  ·
   exact ⟨_, _, rfl, fun h => absurd h (by omega)⟩
 ·
  obtain ⟨g, cap, rfl⟩ := ownsRow_some h.1 hp
  have hc : ∀ j u, xs[j]? = some u → w.cell? ((⟨g, 0, none⟩ : Addr).add j) = some u := h.1.cells (g := g) rfl
  have hlt : g < w.heap.size := (h.lt rfl).1
  refine ⟨_, _, rfl, fun _ => ⟨g, 0, rfl, hlt, fun i hi => ?_⟩⟩
  obtain ⟨x, y, h0, h1, h2, h3, h4, h5, h6, h7, h8⟩ := ht.2 i hi
  have ea : ∀ j, (⟨g, 0, none⟩ : Addr).add j = ⟨g, 0 + j, none⟩ := fun j => by unfold Addr.add; split <;> simp_all
  have ec : ∀ k u, xs[i * 7 + k]? = some u → w.cell? ⟨g, 0 + i * 7 + k, none⟩ = some u := fun k u h => by rw [show 0 + i * 7 + k = 0 + (i * 7 + k) by omega, ← ea]; exact hc _ _ h
  exact ⟨x, y, ec 0 _ h0, ec 1 _ h1, ec 2 _ h2, ec 3 _ h3, ec 4 _ h4, ec 5 _ h5, ec 6 _ h6, h7, h8⟩
abbrev RawE := Int × (Int × Int) × (Int × Int)
def RawAt (w : World) (b o : Nat) (r : RawE) : Prop :=
 w.cell? ⟨b, o, none⟩ = some (.int .i64 r.1) ∧ w.cell? ⟨b, o + 1, none⟩ = some (.int .i64 r.2.1.1) ∧ w.cell? ⟨b, o + 2, none⟩ = some (.int .i64 r.2.1.2) ∧ w.cell? ⟨b, o + 3, none⟩ = some (.int .i64 r.2.2.1) ∧ w.cell? ⟨b, o + 4, none⟩ = some (.int .i64 r.2.2.2)
def RawsOf (w : World) (v : Value) (rs : List RawE) : Prop :=
 ∃ ao cap, v = .slice ao rs.length cap ∧ (0 < rs.length → ∃ b off, ao = some ⟨b, off, none⟩ ∧ b < w.heap.size ∧ ∀ i, i < rs.length → RawAt w b (off + i * 5) (rs.getD i (0, (0, 0), (0, 0))))
theorem RawAt.below {w w' : World} {b o : Nat} {r : RawE} {n : Nat} (h : RawAt w b o r) (hb : Below n w w') (hl : b < n) : RawAt w' b o r := by
 obtain ⟨h0, h1, h2, h3, h4⟩ := h
 have c : ∀ j v, w.cell? ⟨b, j, none⟩ = some v → w'.cell? ⟨b, j, none⟩ = some v := fun j v h => (hb.cell (p := ⟨b, j, none⟩) hl).trans h
 exact ⟨c _ _ h0, c _ _ h1, c _ _ h2, c _ _ h3, c _ _ h4⟩
theorem RawsOf.below {w w' : World} {v : Value} {rs : List RawE} (h : RawsOf w v rs) (hb : Below w.heap.size w w') : RawsOf w' v rs := by
 obtain ⟨ao, cap, rfl, h⟩ := h
 refine ⟨ao, cap, rfl, fun hl => ?_⟩
 obtain ⟨b, off, rfl, hlt, h⟩ := h hl
 exact ⟨b, off, rfl, Nat.lt_of_lt_of_le hlt hb.size, fun i hi => (h i hi).below hb hlt⟩
def hiE (r : RawE) : Rat := hiQ (fracQ r.2.1.1 r.2.1.2) (fracQ r.2.2.1 r.2.2.2)
end Go.Proofs.YtofijjomfhmbjaaGreat

namespace Go.Proofs.YtofijjomfhmbjaaGreat
open Go.RowKit

theorem Sx.to {w0 w W : World} {bs cs : List Bx} {fs : List Fx} (h : Sx w0 w bs fs) (e : w = W) (eb : bs = cs) : Sx w0 W cs fs := by subst e; subst eb; exact h
theorem nbs : (∀ {α : Type} {xs : List α} {i : Nat} (h : i < xs.toArray.size), xs.toArray[i] = xs[i]) ∧ (∀ {α : Type} (a : α) (l : List α) (h : 0 < (a :: l).length), (a :: l)[0] = a) ∧ (∀ {α : Type} (a : α) (l : List α) (i : Nat) (h : i + 1 < (a :: l).length), (a :: l)[i + 1] = l[i]'(by simpa using h)) ∧ (∀ {α : Type} (l : List α) (i : Nat) (a : α), l.toArray.setIfInBounds i a = (l.set i a).toArray) ∧ (∀ {α : Type} {x : α} {xs : List α} {a : α}, (x :: xs).set 0 a = a :: xs) ∧ ∀ {α : Type} {x : α} {xs : List α} {i : Nat} {a : α}, (x :: xs).set (i + 1) a = x :: xs.set i a :=
 ⟨nb1, nb2, nb3, nb4, nb5, nb6⟩
section
variable {P : Program} {ops : Array Oper} {Q : Exit → Act → World → Prop} {md : Region.Mode} {S : World → Prop}
theorem tkB {i : Nat} {oi : Oper} {v : Value} {fuel : Nat} {listed : Array Bool} {a : Act} {w : World} (hi : ops[i]? = some oi) (hy : ∀ w, S w → (execOp a.eval oi).run P w = .ok (.value v) w)
  (h : wpAnyH P md ops Q S fuel (listed.setIfInBounds i true) (a.put oi.dst v) w) (hS : S w := by assumption) (hw : Region.wanted oi (yielded ops a.tmps) = true := by first | rfl | kernel_rfl) (hs : Region.noSelect ops = true := by kernel_rfl) (hf : Region.free md ops listed i = true := by kernel_rfl)
  (hr : (Region.ready md ops listed).contains i = true := by kernel_rfl) (hQ : ∀ c a w, Q (.panic c) (a.put oi.dst v) w → Q (.panic c) a w := by exact fun _ _ _ h => h) : wpAnyH P md ops Q S (fuel + 1) listed a w :=
 tkA hi (Or.inl ⟨hw, hy⟩) hS h hs hf hr hQ
theorem tkC {i : Nat} {oi : Oper} {fuel : Nat} {listed : Array Bool} {a : Act} {w : World} (hi : ops[i]? = some oi)
  (h : wpAnyH P md ops Q S fuel (listed.setIfInBounds i true) (a.put oi.dst undef) w) (hS : S w := by assumption) (hw : Region.wanted oi (yielded ops a.tmps) = false := by first | rfl | kernel_rfl) (hs : Region.noSelect ops = true := by kernel_rfl) (hf : Region.free md ops listed i = true := by kernel_rfl)
  (hr : (Region.ready md ops listed).contains i = true := by kernel_rfl) (hQ : ∀ c a w, Q (.panic c) (a.put oi.dst undef) w → Q (.panic c) a w := by exact fun _ _ _ h => h) : wpAnyH P md ops Q S (fuel + 1) listed a w :=
 tkA (v := undef) hi (Or.inr ⟨hw, rfl⟩) hS h hs hf hr hQ
end
theorem FrcAt.r3 {w : World} {b o : Nat} {q : Rat} (h : FrcAt IsRat w b o q) : ∃ x : R3, w.cell? ⟨b, o, none⟩ = some (.bool x.b) ∧ w.cell? ⟨b, o + 1, none⟩ = some (.slice x.a x.n x.c) ∧ w.cell? ⟨b, o + 2, none⟩ = some (.slice x.d x.m x.e) ∧ IsRat w x.val q := by
 obtain ⟨v0, vn, vd, h0, h1, h2, h3⟩ := h
 obtain ⟨x, hx⟩ := h3.open3
 injection hx with hx
 injection hx with hx
 simp only [List.cons.injEq, and_true] at hx
 obtain ⟨rfl, rfl, rfl⟩ := hx
 exact ⟨x, h0, h1, h2, h3⟩
end Go.Proofs.YtofijjomfhmbjaaGreat

namespace Go.Proofs.YtofijjomfhmbjaaGreat
open Go.RowKit

set_option maxRecDepth 100000 in
set_option maxHeartbeats 4000000 in
theorem rnum_any (n : Int) (w : World) (h1 : -9223372036854775808 ≤ n) (h2 : n ≤ 9223372036854775807) : Calls Tryz.prog 43 #[.int .i64 n] w (RetR (n : Rat) w) := by
 have HS := Lib.hid (Sx.init w)
 have hwn : IntKind.i64.wrap n = n := IntWalk.i64_in _ (by omega)
 go_enter Tryz.func43, Tryz.ntmps43
 go_wp2_with fail
 generalize hW1 : (w).alloc (.cells _ _) = W1 at *
 replace HS := Lib.hid (((HS.out).alloc (B := w.heap.size) rfl (by rfl)).to hW1 (by (try simp only [nb5, nb6]); rfl))
 clear hW1
 refine (qint_any n _ h1 h2).mono ?_
 rintro e w2 ⟨v2, rfl, hv2, hb2⟩
 obtain ⟨z2, rfl⟩ := hv2.open3
 replace HS := Lib.hid (HS.out.below hb2)
 clear hb2
 replace HS := Lib.hid (HS.out.addQ hv2)
 clear hv2
 have b0e := (HS.out.at 0 _ _ _ rfl)
 have b0c0 := blk_cell b0e 0 (.bool false) rfl
 have b0c1 := blk_cell b0e 1 (.slice none 0 0) rfl
 have b0c2 := blk_cell b0e 2 (.slice none 0 0) rfl
 have b0f0 := blk_frozen b0e 0
 have b0f1 := blk_frozen b0e 1
 have b0f2 := blk_frozen b0e 2
 have b0l := blk_lt b0e
 clear b0e
 go_wp2_with fail
 clear b0c0 b0c1 b0c2 b0f0 b0f1 b0f2 b0l
 generalize hW3 : (((w2).setCell _ _).setCell _ _).setCell _ _ = W3 at *
 replace HS := Lib.hid (((HS.out).st_R 0 r30 z2 rfl).to hW3 (by (try simp only [nb5, nb6]); rfl))
 clear hW3
 obtain ⟨b0c0, b0c1, b0c2, _⟩ := fac3 (x := z2) (HS.out.at 0 _ _ _ rfl)
 refine bodyPost_ret (v := z2.val) (by simp [results, Tryz.results43, go_sem, b0c0, b0c1, b0c2]) rfl ⟨_, rfl, (HS.out.q 0 _ _ rfl), HS.out.bel⟩
set_option maxRecDepth 100000 in
set_option maxHeartbeats 4000000 in
theorem rright_any (a : Pt) (w : World) : Calls Tryz.prog 21 #[.agg #[.int .i64 a.1, .int .i64 a.2]] w (RetBool (ptOk a) w) := by
 have HS := Lib.hid (Sx.init w)
 obtain ⟨au, av⟩ := a
 have HR : Hid (ptOk (au, av) = (inL au (-4398046511104) 4398046511104 && inL av (-4398046511104) 4398046511104)) := rfl
 dsimp only
 go_enter Tryz.func21, Tryz.ntmps21
 go_wp2_with fail
 generalize hW1 : (w).alloc (.cells _ _) = W1 at *
 replace HS := Lib.hid (((HS.out).alloc (B := w.heap.size) rfl (by rfl)).to hW1 (by (try simp only [nb5, nb6]); rfl))
 clear hW1
 cases t2 : inL au (-4398046511104) 4398046511104 with
 | true =>
  refine (rwithin_any au 4398046511104 _ (by omega)).mono ?_
  rw [t2]
  rintro e w3 ⟨rfl, hb3⟩
  replace HS := Lib.hid (HS.out.below hb3)
  clear hb3
  have b0e := (HS.out.at 0 _ _ _ rfl)
  have b0c0 := blk_cell b0e 0 (.int .i64 au) rfl
  have b0c1 := blk_cell b0e 1 (.int .i64 av) rfl
  have b0f0 := blk_frozen b0e 0
  have b0f1 := blk_frozen b0e 1
  have b0l := blk_lt b0e
  clear b0e
  go_wp2_with fail
  clear b0c0 b0c1 b0f0 b0f1 b0l
  cases t4 : inL av (-4398046511104) 4398046511104 with
  | true =>
   refine (rwithin_any av 4398046511104 _ (by omega)).mono ?_
   rw [t4]
   rintro e w5 ⟨rfl, hb5⟩
   replace HS := Lib.hid (HS.out.below hb5)
   clear hb5
   go_wp2_with fail
   go_ret
   exact ⟨by rw [HR.out, t2, t4] <;> rfl, HS.out.bel⟩
  | false =>
   refine (rwithin_any av 4398046511104 _ (by omega)).mono ?_
   rw [t4]
   rintro e w6 ⟨rfl, hb6⟩
   replace HS := Lib.hid (HS.out.below hb6)
   clear hb6
   go_wp2_with fail
   go_ret
   exact ⟨by rw [HR.out, t2, t4] <;> rfl, HS.out.bel⟩
 | false =>
  refine (rwithin_any au 4398046511104 _ (by omega)).mono ?_
  rw [t2]
  rintro e w7 ⟨rfl, hb7⟩
  replace HS := Lib.hid (HS.out.below hb7)
  clear hb7
  go_wp2_with fail
  go_ret
  exact ⟨by rw [HR.out, t2] <;> rfl, HS.out.bel⟩
set_option maxRecDepth 100000 in
set_option maxHeartbeats 8000000 in
theorem rcross_any (a b c : Pt) (w : World) (ha : ptOk a = true) (hb : ptOk b = true) (hc : ptOk c = true) : Calls Tryz.prog 23 #[.agg #[.int .i64 a.1, .int .i64 a.2], .agg #[.int .i64 b.1, .int .i64 b.2], .agg #[.int .i64 c.1, .int .i64 c.2]] w (RetR ((crossI a b c : Int) : Rat) w) := by
 have HS := Lib.hid (Sx.init w)
 have HQ := Lib.hid (cross_cast a b c)
 generalize ((crossI a b c : Int) : Rat) = qr at *
 obtain ⟨⟨ra1, ra2⟩, ra3, ra4⟩ := ptOk_range ha
 unfold far at ra1 ra2 ra3 ra4
 obtain ⟨au, av⟩ := a
 try dsimp only at *
 have HNau : Hid (∀ W, Calls Tryz.prog 43 #[.int .i64 au] W (RetR ((au : Int) : Rat) W)) := fun W => rnum_any au W (by omega) (by omega)
 have Zau := Lib.hid (i64_szR au (by omega) (by omega) 1 (by omega))
 have HNav : Hid (∀ W, Calls Tryz.prog 43 #[.int .i64 av] W (RetR ((av : Int) : Rat) W)) := fun W => rnum_any av W (by omega) (by omega)
 have Zav := Lib.hid (i64_szR av (by omega) (by omega) 1 (by omega))
 obtain ⟨⟨rb1, rb2⟩, rb3, rb4⟩ := ptOk_range hb
 unfold far at rb1 rb2 rb3 rb4
 obtain ⟨bu, bv⟩ := b
 try dsimp only at *
 have HNbu : Hid (∀ W, Calls Tryz.prog 43 #[.int .i64 bu] W (RetR ((bu : Int) : Rat) W)) := fun W => rnum_any bu W (by omega) (by omega)
 have Zbu := Lib.hid (i64_szR bu (by omega) (by omega) 1 (by omega))
 have HNbv : Hid (∀ W, Calls Tryz.prog 43 #[.int .i64 bv] W (RetR ((bv : Int) : Rat) W)) := fun W => rnum_any bv W (by omega) (by omega)
 have Zbv := Lib.hid (i64_szR bv (by omega) (by omega) 1 (by omega))
 obtain ⟨⟨rc1, rc2⟩, rc3, rc4⟩ := ptOk_range hc
 unfold far at rc1 rc2 rc3 rc4
 obtain ⟨cu, cv⟩ := c
 try dsimp only at *
 have HNcu : Hid (∀ W, Calls Tryz.prog 43 #[.int .i64 cu] W (RetR ((cu : Int) : Rat) W)) := fun W => rnum_any cu W (by omega) (by omega)
 have Zcu := Lib.hid (i64_szR cu (by omega) (by omega) 1 (by omega))
 have HNcv : Hid (∀ W, Calls Tryz.prog 43 #[.int .i64 cv] W (RetR ((cv : Int) : Rat) W)) := fun W => rnum_any cv W (by omega) (by omega)
 have Zcv := Lib.hid (i64_szR cv (by omega) (by omega) 1 (by omega))
 clear ha ra1 ra2 ra3 ra4 hb rb1 rb2 rb3 rb4 hc rc1 rc2 rc3 rc4
 generalize ((au : Int) : Rat) = qau at *
 generalize ((av : Int) : Rat) = qav at *
 generalize ((bu : Int) : Rat) = qbu at *
 generalize ((bv : Int) : Rat) = qbv at *
 generalize ((cu : Int) : Rat) = qcu at *
 generalize ((cv : Int) : Rat) = qcv at *
 go_enter Tryz.func23, Tryz.ntmps23
 go_wp2_with fail
 generalize hW1 : ((((w).alloc (.cells _ _)).alloc (.cells _ _)).alloc (.cells _ _)).alloc (.cells _ _) = W1 at *
 replace HS := Lib.hid ((((((HS.out).alloc (B := w.heap.size) rfl (by rfl)).alloc (B := w.heap.size + 1) (by simp) (by rfl)).alloc (B := w.heap.size + 2) (by simp) (by rfl)).alloc (B := w.heap.size + 3) (by simp) (by rfl)).to hW1 (by (try simp only [nb5, nb6]); rfl))
 clear hW1
 refine wp_region_held_drew (S := (fun w' => Sx w w' [(w.heap.size + 3, #[.bool false, .slice none 0 0, .slice none 0 0], 70), (w.heap.size + 2, #[.int .i64 cu, .int .i64 cv], 45), (w.heap.size + 1, #[.int .i64 bu, .int .i64 bv], 45), (w.heap.size, #[.int .i64 au, .int .i64 av], 45)] [])) (by kernel_rfl) ((HS.out.drew).bare) (fun hh => ?_)
 replace HS := Lib.hid HS.out.drew
 have HSW := Lib.hid HS.out.bel.size
 refine tkB (i := 0) (v := ?vk3) rfl ?hk3 ?rk3
 case hk3 => intro u hSu; go_simp <;> with_reducible rfl
 try simp only [nbs, Act.put]
 refine tkB (i := 1) (v := ?vk4) rfl ?hk4 ?rk4
 case hk4 => intro u hSu; (try dsimp only at hSu); have qb1e := (hSu.at 2 _ _ _ rfl); have qb1c0 := blk_cell qb1e 0 (.int .i64 bu) rfl; have qb1c1 := blk_cell qb1e 1 (.int .i64 bv) rfl; clear qb1e; clear hSu; go_simp <;> with_reducible rfl
 try simp only [nbs, Act.put]
 refine tkB (i := 3) (v := ?vk5) rfl ?hk5 ?rk5
 case hk5 => intro u hSu; go_simp <;> with_reducible rfl
 try simp only [nbs, Act.put]
 refine tkB (i := 4) (v := ?vk6) rfl ?hk6 ?rk6
 case hk6 => intro u hSu; (try dsimp only at hSu); have qb0e := (hSu.at 3 _ _ _ rfl); have qb0c0 := blk_cell qb0e 0 (.int .i64 au) rfl; have qb0c1 := blk_cell qb0e 1 (.int .i64 av) rfl; clear qb0e; clear hSu; go_simp <;> with_reducible rfl
 try simp only [nbs, Act.put]
 refine tkB (i := 7) (v := ?vk7) rfl ?hk7 ?rk7
 case hk7 => intro u hSu; go_simp <;> with_reducible rfl
 try simp only [nbs, Act.put]
 refine tkB (i := 8) (v := ?vk8) rfl ?hk8 ?rk8
 case hk8 => intro u hSu; (try dsimp only at hSu); have qb2e := (hSu.at 1 _ _ _ rfl); have qb2c0 := blk_cell qb2e 0 (.int .i64 cu) rfl; have qb2c1 := blk_cell qb2e 1 (.int .i64 cv) rfl; clear qb2e; clear hSu; go_simp <;> with_reducible rfl
 try simp only [nbs, Act.put]
 refine tkB (i := 10) (v := ?vk9) rfl ?hk9 ?rk9
 case hk9 => intro u hSu; go_simp <;> with_reducible rfl
 try simp only [nbs, Act.put]
 refine tkB (i := 11) (v := ?vk10) rfl ?hk10 ?rk10
 case hk10 => intro u hSu; (try dsimp only at hSu); have qb0e := (hSu.at 3 _ _ _ rfl); have qb0c0 := blk_cell qb0e 0 (.int .i64 au) rfl; have qb0c1 := blk_cell qb0e 1 (.int .i64 av) rfl; clear qb0e; clear hSu; go_simp <;> with_reducible rfl
 try simp only [nbs, Act.put]
 refine wpAnyH_modular [2, 5, 6, 9, 12, 13, 14, 15] [2, 5, 6, 9, 12, 13, 14, 15] [] [10, 13, 14, 17, 20, 21, 22, 7] #[true, true, true, true, true, true, true, true, true, true, true, true, true, true, true, true, false] 1 [(2, 10), (5, 13), (6, 14), (9, 17), (12, 20), (13, 21), (14, 22), (15, 7)] [(2, []), (5, [2]), (6, [2, 5]), (9, [6]), (12, [9]), (13, [9, 12]), (14, [6, 13]), (15, [])] [15] [(2, fun v w => ∃ z11 : R3, v = z11.val ∧ Fr false w z11.val qbu), (5, fun v w => ∃ z12 : R3, v = z12.val ∧ Fr false w z12.val qau), (6, fun v w => ∃ z13 : R3, v = z13.val ∧ Fr false w z13.val (qbu - qau)), (9, fun v w => ∃ z14 : R3, v = z14.val ∧ Fr false w z14.val qcv), (12, fun v w => ∃ z15 : R3, v = z15.val ∧ Fr false w z15.val qav), (13, fun v w => ∃ z16 : R3, v = z16.val ∧ Fr false w z16.val (qcv - qav)), (14, fun v w => ∃ z17 : R3, v = z17.val ∧ Fr false w z17.val ((qbu - qau) * (qcv - qav))), (15, fun v w => ∃ Br2_15 : Nat, v = .pointer (some ⟨Br2_15, 0, none⟩) ∧ W1.drew.heap.size ≤ Br2_15 ∧ w.heap[Br2_15]? = some (.cells #[.bool false, .slice none 0 0, .slice none 0 0] 70 (0, 0)))]
  rfl (by kernel_rfl) (by decide) rfl ⟨(fun v w w' hb ⟨z0, e, h0⟩ => ⟨z0, e, Fr.below h0 hb⟩), ⟨(fun v w w' hb ⟨z0, e, h0⟩ => ⟨z0, e, Fr.below h0 hb⟩), ⟨(fun v w w' hb ⟨z0, e, h0⟩ => ⟨z0, e, Fr.below h0 hb⟩), ⟨(fun v w w' hb ⟨z0, e, h0⟩ => ⟨z0, e, Fr.below h0 hb⟩), ⟨(fun v w w' hb ⟨z0, e, h0⟩ => ⟨z0, e, Fr.below h0 hb⟩), ⟨(fun v w w' hb ⟨z0, e, h0⟩ => ⟨z0, e, Fr.below h0 hb⟩), ⟨(fun v w w' hb ⟨z0, e, h0⟩ => ⟨z0, e, Fr.below h0 hb⟩), ⟨(fun v w w' hb ⟨B, e, g, k⟩ => ⟨B, e, g, blk_keep k hb (blk_lt k)⟩), trivial⟩⟩⟩⟩⟩⟩⟩⟩ ⟨fun v w ⟨B, e, g, k⟩ => ⟨B, e, blk_lt k⟩, trivial⟩ (fun w' hb => Sx.below hh hb) ⟨?_, ?_, ?_, ?_, ?_, ?_, ?_, ?_, trivial⟩ trivial (by decide) ?_
 ·
  refine StepM.of rfl (fun f w' hb hp K hK => ?_)
  have HSB := HS
  replace HS := Lib.hid (HS.out.below hb)
  simp only [fillA, fillT, List.foldl_cons, List.foldl_nil, Act.put, nb4, nb5, nb6]
  go_simp
  go_wp2_with (go_at_call 43; (with_reducible refine (HNbu.out _).mono ?_); rintro e w11 ⟨v11, rfl, hv11, hb11⟩; obtain ⟨z11, rfl⟩ := hv11.open3)
  exact hK.out _ _ (z11.val) (by simp only [fillA, fillT, List.foldl_cons, List.foldl_nil, Act.put, nb4, nb5, nb6, nb1, nb2, nb3]) ⟨z11, rfl, hv11⟩ (fun h => absurd h (by decide)) hb11
 ·
  refine StepM.of rfl (fun f w' hb hp K hK => ?_)
  have HSB := HS
  replace HS := Lib.hid (HS.out.below hb)
  simp only [fillA, fillT, List.foldl_cons, List.foldl_nil, Act.put, nb4, nb5, nb6]
  go_simp
  go_wp2_with (go_at_call 43; (with_reducible refine (HNau.out _).mono ?_); rintro e w12 ⟨v12, rfl, hv12, hb12⟩; obtain ⟨z12, rfl⟩ := hv12.open3)
  exact hK.out _ _ (z12.val) (by simp only [fillA, fillT, List.foldl_cons, List.foldl_nil, Act.put, nb4, nb5, nb6, nb1, nb2, nb3]) ⟨z12, rfl, hv12⟩ (fun h => absurd h (by decide)) hb12
 ·
  refine StepM.of rfl (fun f w' hb hp K hK => ?_)
  obtain ⟨z11, e2, h2_0⟩ : ∃ z11 : R3, f 10 = z11.val ∧ Fr false w' z11.val qbu := hp 2 (by decide)
  obtain ⟨z12, e5, h5_0⟩ : ∃ z12 : R3, f 13 = z12.val ∧ Fr false w' z12.val qau := hp 5 (by decide)
  have HSB := HS
  replace HS := Lib.hid (HS.out.below hb)
  replace HS := Lib.hid (HS.out.addQ h2_0)
  replace HS := Lib.hid (HS.out.addQ h5_0)
  simp only [fillA, fillT, List.foldl_cons, List.foldl_nil, Act.put, nb4, nb5, nb6, e2, e5]
  have a18 := HS.out.q 1 _ _ rfl
  have a19 := HS.out.q 0 _ _ rfl
  go_simp
  go_wp2_with (go_at_call 42; (with_reducible refine (qsub_any qbu qau _ _ _ a18 a19 (szQ_mono (szQ_of Zbu.out) (by omega)) (szQ_mono (szQ_of Zau.out) (by omega))).mono ?_); rintro e w13 ⟨v13, rfl, hv13, hb13⟩; obtain ⟨z13, rfl⟩ := hv13.open3)
  exact hK.out _ _ (z13.val) (by simp only [fillA, fillT, List.foldl_cons, List.foldl_nil, Act.put, nb4, nb5, nb6, nb1, nb2, nb3, e2, e5]) ⟨z13, rfl, hv13⟩ (fun h => absurd h (by decide)) hb13
 ·
  refine StepM.of rfl (fun f w' hb hp K hK => ?_)
  have HSB := HS
  replace HS := Lib.hid (HS.out.below hb)
  simp only [fillA, fillT, List.foldl_cons, List.foldl_nil, Act.put, nb4, nb5, nb6]
  go_simp
  go_wp2_with (go_at_call 43; (with_reducible refine (HNcv.out _).mono ?_); rintro e w14 ⟨v14, rfl, hv14, hb14⟩; obtain ⟨z14, rfl⟩ := hv14.open3)
  exact hK.out _ _ (z14.val) (by simp only [fillA, fillT, List.foldl_cons, List.foldl_nil, Act.put, nb4, nb5, nb6, nb1, nb2, nb3]) ⟨z14, rfl, hv14⟩ (fun h => absurd h (by decide)) hb14
 ·
  refine StepM.of rfl (fun f w' hb hp K hK => ?_)
  have HSB := HS
  replace HS := Lib.hid (HS.out.below hb)
  simp only [fillA, fillT, List.foldl_cons, List.foldl_nil, Act.put, nb4, nb5, nb6]
  go_simp
  go_wp2_with (go_at_call 43; (with_reducible refine (HNav.out _).mono ?_); rintro e w15 ⟨v15, rfl, hv15, hb15⟩; obtain ⟨z15, rfl⟩ := hv15.open3)
  exact hK.out _ _ (z15.val) (by simp only [fillA, fillT, List.foldl_cons, List.foldl_nil, Act.put, nb4, nb5, nb6, nb1, nb2, nb3]) ⟨z15, rfl, hv15⟩ (fun h => absurd h (by decide)) hb15
 ·
  refine StepM.of rfl (fun f w' hb hp K hK => ?_)
  obtain ⟨z14, e9, h9_0⟩ : ∃ z14 : R3, f 17 = z14.val ∧ Fr false w' z14.val qcv := hp 9 (by decide)
  obtain ⟨z15, e12, h12_0⟩ : ∃ z15 : R3, f 20 = z15.val ∧ Fr false w' z15.val qav := hp 12 (by decide)
  have HSB := HS
  replace HS := Lib.hid (HS.out.below hb)
  replace HS := Lib.hid (HS.out.addQ h9_0)
  replace HS := Lib.hid (HS.out.addQ h12_0)
  simp only [fillA, fillT, List.foldl_cons, List.foldl_nil, Act.put, nb4, nb5, nb6, e9, e12]
  have a20 := HS.out.q 1 _ _ rfl
  have a21 := HS.out.q 0 _ _ rfl
  go_simp
  go_wp2_with (go_at_call 42; (with_reducible refine (qsub_any qcv qav _ _ _ a20 a21 (szQ_mono (szQ_of Zcv.out) (by omega)) (szQ_mono (szQ_of Zav.out) (by omega))).mono ?_); rintro e w16 ⟨v16, rfl, hv16, hb16⟩; obtain ⟨z16, rfl⟩ := hv16.open3)
  exact hK.out _ _ (z16.val) (by simp only [fillA, fillT, List.foldl_cons, List.foldl_nil, Act.put, nb4, nb5, nb6, nb1, nb2, nb3, e9, e12]) ⟨z16, rfl, hv16⟩ (fun h => absurd h (by decide)) hb16
 ·
  refine StepM.of rfl (fun f w' hb hp K hK => ?_)
  obtain ⟨z13, e6, h6_0⟩ : ∃ z13 : R3, f 14 = z13.val ∧ Fr false w' z13.val (qbu - qau) := hp 6 (by decide)
  obtain ⟨z16, e13, h13_0⟩ : ∃ z16 : R3, f 21 = z16.val ∧ Fr false w' z16.val (qcv - qav) := hp 13 (by decide)
  have HSB := HS
  replace HS := Lib.hid (HS.out.below hb)
  replace HS := Lib.hid (HS.out.addQ h6_0)
  replace HS := Lib.hid (HS.out.addQ h13_0)
  simp only [fillA, fillT, List.foldl_cons, List.foldl_nil, Act.put, nb4, nb5, nb6, e6, e13]
  have a22 := HS.out.q 1 _ _ rfl
  have a23 := HS.out.q 0 _ _ rfl
  go_simp
  go_wp2_with (go_at_call 41; (with_reducible refine (qmul_any (qbu - qau) (qcv - qav) _ _ _ a22 a23 (szQ_mono (szQ_of (szR_sub Zbu.out Zau.out)) (by omega)) (szQ_mono (szQ_of (szR_sub Zcv.out Zav.out)) (by omega))).mono ?_); rintro e w17 ⟨v17, rfl, hv17, hb17⟩; obtain ⟨z17, rfl⟩ := hv17.open3)
  exact hK.out _ _ (z17.val) (by simp only [fillA, fillT, List.foldl_cons, List.foldl_nil, Act.put, nb4, nb5, nb6, nb1, nb2, nb3, e6, e13]) ⟨z17, rfl, hv17⟩ (fun h => absurd h (by decide)) hb17
 ·
  refine StepM.of rfl (fun f w' hb hp K hK => ?_)
  have HSB := HS
  replace HS := Lib.hid (HS.out.below hb)
  simp only [fillA, fillT, List.foldl_cons, List.foldl_nil, Act.put, nb4, nb5, nb6]
  go_simp
  exact hK.out _ _ (.pointer (some ⟨w'.heap.size, 0, none⟩)) (by simp only [fillA, fillT, List.foldl_cons, List.foldl_nil, Act.put, nb4, nb5, nb6, nb1, nb2, nb3]) ⟨_, rfl, hb.size, blk_new _ _ _⟩ (fun _ => rfl) (below1 w' _)
 ·
  intro f wr2 hb hp hd
  obtain ⟨z11, e2, h2_0⟩ : ∃ z11 : R3, f 10 = z11.val ∧ Fr false wr2 z11.val qbu := hp 2 (by decide)
  obtain ⟨z12, e5, h5_0⟩ : ∃ z12 : R3, f 13 = z12.val ∧ Fr false wr2 z12.val qau := hp 5 (by decide)
  obtain ⟨z13, e6, h6_0⟩ : ∃ z13 : R3, f 14 = z13.val ∧ Fr false wr2 z13.val (qbu - qau) := hp 6 (by decide)
  obtain ⟨z14, e9, h9_0⟩ : ∃ z14 : R3, f 17 = z14.val ∧ Fr false wr2 z14.val qcv := hp 9 (by decide)
  obtain ⟨z15, e12, h12_0⟩ : ∃ z15 : R3, f 20 = z15.val ∧ Fr false wr2 z15.val qav := hp 12 (by decide)
  obtain ⟨z16, e13, h13_0⟩ : ∃ z16 : R3, f 21 = z16.val ∧ Fr false wr2 z16.val (qcv - qav) := hp 13 (by decide)
  obtain ⟨z17, e14, h14_0⟩ : ∃ z17 : R3, f 22 = z17.val ∧ Fr false wr2 z17.val ((qbu - qau) * (qcv - qav)) := hp 14 (by decide)
  obtain ⟨Br2_15, e15, g15, k15⟩ : ∃ Br2_15 : Nat, f 7 = .pointer (some ⟨Br2_15, 0, none⟩) ∧ W1.drew.heap.size ≤ Br2_15 ∧ wr2.heap[Br2_15]? = some (.cells #[.bool false, .slice none 0 0, .slice none 0 0] 70 (0, 0)) := hp 15 (by decide)
  replace hh := Sx.below hh hb
  have hlt := HS.out.lt
  replace HS := Lib.hid (HS.out.below hb)
  replace HS := Lib.hid (HS.out.addQ h2_0)
  replace HS := Lib.hid (HS.out.addQ h5_0)
  replace HS := Lib.hid (HS.out.addQ h6_0)
  replace HS := Lib.hid (HS.out.addQ h9_0)
  replace HS := Lib.hid (HS.out.addQ h12_0)
  replace HS := Lib.hid (HS.out.addQ h13_0)
  replace HS := Lib.hid (HS.out.addQ h14_0)
  have hge15 : w.heap.size ≤ Br2_15 := Nat.le_trans HSW.out g15
  have hne15 : ∀ b, b ∈ ([(w.heap.size + 3, #[.bool false, .slice none 0 0, .slice none 0 0], 70), (w.heap.size + 2, #[.int .i64 cu, .int .i64 cv], 45), (w.heap.size + 1, #[.int .i64 bu, .int .i64 bv], 45), (w.heap.size, #[.int .i64 au, .int .i64 av], 45)] : List Bx) → b.1 ≠ Br2_15 := by
   intro b hb
   simp only [List.mem_cons, List.not_mem_nil, or_false] at hb
   rcases hb with rfl | rfl | rfl | rfl
   ·
    have := hlt _ (List.mem_iff_getElem?.2 ⟨0, rfl⟩); dsimp only at this ⊢; omega
   ·
    have := hlt _ (List.mem_iff_getElem?.2 ⟨1, rfl⟩); dsimp only at this ⊢; omega
   ·
    have := hlt _ (List.mem_iff_getElem?.2 ⟨2, rfl⟩); dsimp only at this ⊢; omega
   ·
    have := hlt _ (List.mem_iff_getElem?.2 ⟨3, rfl⟩); dsimp only at this ⊢; omega
  replace HS := Lib.hid (HS.out.addBox k15 hge15 (by rfl) hne15)
  simp only [fillA, fillT, List.foldl_cons, List.foldl_nil, Act.put, nb4, nb5, nb6, e2, e5, e6, e9, e12, e13, e14, e15]
  clear hp hd hb hlt e2 e5 e6 e9 e12 e13 e14 e15
  refine rdA (i := 16) rfl (fun K hK => ?_)
  have b4e := (HS.out.at 0 _ _ _ rfl)
  have b4c0 := blk_cell b4e 0 (.bool false) rfl
  have b4c1 := blk_cell b4e 1 (.slice none 0 0) rfl
  have b4c2 := blk_cell b4e 2 (.slice none 0 0) rfl
  have b4f0 := blk_frozen b4e 0
  have b4f1 := blk_frozen b4e 1
  have b4f2 := blk_frozen b4e 2
  have b4l := blk_lt b4e
  clear b4e
  go_simp
  refine hK.out _ _ ((((HS.out).st_R 0 r30 z17 rfl)).erase 0) (fun hh => ?_)
  clear hK K b4c0 b4c1 b4c2 b4f0 b4f1 b4f2 b4l
  try simp only [nbs, Act.put]
  generalize hW24 : (((wr2).setCell _ _).setCell _ _).setCell _ _ = W24 at *
  replace HS := Lib.hid (((HS.out).st_R 0 r30 z17 rfl).to hW24 (by (try simp only [nb5, nb6]); rfl))
  clear hW24
  refine wpAnyH_done (by kernel_rfl) ?_ _
  go_wp2_with fail
  refine wp_region_held_drew (S := (fun w' => Sx w w' [(Br2_15, z17.arr, 70), (w.heap.size + 2, #[.int .i64 cu, .int .i64 cv], 45), (w.heap.size + 1, #[.int .i64 bu, .int .i64 bv], 45), (w.heap.size, #[.int .i64 au, .int .i64 av], 45)] [])) (by kernel_rfl) ((HS.out.drew).erase 1) (fun hh => ?_)
  replace HS := Lib.hid HS.out.drew
  refine tkB (i := 0) (v := ?vk26) rfl ?hk26 ?rk26
  case hk26 => intro u hSu; (try dsimp only at hSu); obtain ⟨qb4c0, qb4c1, qb4c2, _⟩ := fac3 (x := z17) (hSu.at 0 _ _ _ rfl); clear hSu; go_simp <;> with_reducible rfl
  try simp only [nbs, Act.put]
  refine tkB (i := 1) (v := ?vk27) rfl ?hk27 ?rk27
  case hk27 => intro u hSu; go_simp <;> with_reducible rfl
  try simp only [nbs, Act.put]
  refine tkB (i := 2) (v := ?vk28) rfl ?hk28 ?rk28
  case hk28 => intro u hSu; (try dsimp only at hSu); have qb1e := (hSu.at 2 _ _ _ rfl); have qb1c0 := blk_cell qb1e 0 (.int .i64 bu) rfl; have qb1c1 := blk_cell qb1e 1 (.int .i64 bv) rfl; clear qb1e; clear hSu; go_simp <;> with_reducible rfl
  try simp only [nbs, Act.put]
  refine tkB (i := 4) (v := ?vk29) rfl ?hk29 ?rk29
  case hk29 => intro u hSu; go_simp <;> with_reducible rfl
  try simp only [nbs, Act.put]
  refine tkB (i := 5) (v := ?vk30) rfl ?hk30 ?rk30
  case hk30 => intro u hSu; (try dsimp only at hSu); have qb0e := (hSu.at 3 _ _ _ rfl); have qb0c0 := blk_cell qb0e 0 (.int .i64 au) rfl; have qb0c1 := blk_cell qb0e 1 (.int .i64 av) rfl; clear qb0e; clear hSu; go_simp <;> with_reducible rfl
  try simp only [nbs, Act.put]
  refine tkB (i := 8) (v := ?vk31) rfl ?hk31 ?rk31
  case hk31 => intro u hSu; go_simp <;> with_reducible rfl
  try simp only [nbs, Act.put]
  refine tkB (i := 9) (v := ?vk32) rfl ?hk32 ?rk32
  case hk32 => intro u hSu; (try dsimp only at hSu); have qb2e := (hSu.at 1 _ _ _ rfl); have qb2c0 := blk_cell qb2e 0 (.int .i64 cu) rfl; have qb2c1 := blk_cell qb2e 1 (.int .i64 cv) rfl; clear qb2e; clear hSu; go_simp <;> with_reducible rfl
  try simp only [nbs, Act.put]
  refine tkB (i := 11) (v := ?vk33) rfl ?hk33 ?rk33
  case hk33 => intro u hSu; go_simp <;> with_reducible rfl
  try simp only [nbs, Act.put]
  refine tkB (i := 12) (v := ?vk34) rfl ?hk34 ?rk34
  case hk34 => intro u hSu; (try dsimp only at hSu); have qb0e := (hSu.at 3 _ _ _ rfl); have qb0c0 := blk_cell qb0e 0 (.int .i64 au) rfl; have qb0c1 := blk_cell qb0e 1 (.int .i64 av) rfl; clear qb0e; clear hSu; go_simp <;> with_reducible rfl
  try simp only [nbs, Act.put]
  refine rdA (i := 3) rfl (fun K hK => ?_)
  go_simp
  go_wp2_with (go_at_call 43; (with_reducible refine (HNbv.out _).mono ?_); rintro e w35 ⟨v35, rfl, hv35, hb35⟩; obtain ⟨z35, rfl⟩ := hv35.open3)
  refine hK.out _ _ (Sx.below hh hb35) (fun hh => ?_)
  clear hK K
  try simp only [nbs, Act.put]
  replace HS := Lib.hid (HS.out.below hb35)
  clear hb35
  replace HS := Lib.hid (HS.out.addQ hv35)
  clear hv35
  refine rdA (i := 6) rfl (fun K hK => ?_)
  go_simp
  go_wp2_with (go_at_call 43; (with_reducible refine (HNav.out _).mono ?_); rintro e w36 ⟨v36, rfl, hv36, hb36⟩; obtain ⟨z36, rfl⟩ := hv36.open3)
  refine hK.out _ _ (Sx.below hh hb36) (fun hh => ?_)
  clear hK K
  try simp only [nbs, Act.put]
  replace HS := Lib.hid (HS.out.below hb36)
  clear hb36
  replace HS := Lib.hid (HS.out.addQ hv36)
  clear hv36
  refine rdA (i := 7) rfl (fun K hK => ?_)
  go_simp
  have a38 := HS.out.q 1 _ _ rfl
  have a39 := HS.out.q 0 _ _ rfl
  go_wp2_with (go_at_call 42; (with_reducible refine (qsub_any qbv qav _ _ _ a38 a39 (szQ_mono (szQ_of Zbv.out) (by omega)) (szQ_mono (szQ_of Zav.out) (by omega))).mono ?_); rintro e w37 ⟨v37, rfl, hv37, hb37⟩; obtain ⟨z37, rfl⟩ := hv37.open3)
  refine hK.out _ _ (Sx.below hh hb37) (fun hh => ?_)
  clear hK K
  try simp only [nbs, Act.put]
  replace HS := Lib.hid (HS.out.below hb37)
  clear hb37 a38 a39
  replace HS := Lib.hid (HS.out.addQ hv37)
  clear hv37
  refine rdA (i := 10) rfl (fun K hK => ?_)
  go_simp
  go_wp2_with (go_at_call 43; (with_reducible refine (HNcu.out _).mono ?_); rintro e w40 ⟨v40, rfl, hv40, hb40⟩; obtain ⟨z40, rfl⟩ := hv40.open3)
  refine hK.out _ _ (Sx.below hh hb40) (fun hh => ?_)
  clear hK K
  try simp only [nbs, Act.put]
  replace HS := Lib.hid (HS.out.below hb40)
  clear hb40
  replace HS := Lib.hid (HS.out.addQ hv40)
  clear hv40
  refine rdA (i := 13) rfl (fun K hK => ?_)
  go_simp
  go_wp2_with (go_at_call 43; (with_reducible refine (HNau.out _).mono ?_); rintro e w41 ⟨v41, rfl, hv41, hb41⟩; obtain ⟨z41, rfl⟩ := hv41.open3)
  refine hK.out _ _ (Sx.below hh hb41) (fun hh => ?_)
  clear hK K
  try simp only [nbs, Act.put]
  replace HS := Lib.hid (HS.out.below hb41)
  clear hb41
  replace HS := Lib.hid (HS.out.addQ hv41)
  clear hv41
  refine rdA (i := 14) rfl (fun K hK => ?_)
  go_simp
  have a43 := HS.out.q 1 _ _ rfl
  have a44 := HS.out.q 0 _ _ rfl
  go_wp2_with (go_at_call 42; (with_reducible refine (qsub_any qcu qau _ _ _ a43 a44 (szQ_mono (szQ_of Zcu.out) (by omega)) (szQ_mono (szQ_of Zau.out) (by omega))).mono ?_); rintro e w42 ⟨v42, rfl, hv42, hb42⟩; obtain ⟨z42, rfl⟩ := hv42.open3)
  refine hK.out _ _ (Sx.below hh hb42) (fun hh => ?_)
  clear hK K
  try simp only [nbs, Act.put]
  replace HS := Lib.hid (HS.out.below hb42)
  clear hb42 a43 a44
  replace HS := Lib.hid (HS.out.addQ hv42)
  clear hv42
  refine rdA (i := 15) rfl (fun K hK => ?_)
  go_simp
  have a46 := HS.out.q 3 _ _ rfl
  have a47 := HS.out.q 0 _ _ rfl
  go_wp2_with (go_at_call 41; (with_reducible refine (qmul_any (qbv - qav) (qcu - qau) _ _ _ a46 a47 (szQ_mono (szQ_of (szR_sub Zbv.out Zav.out)) (by omega)) (szQ_mono (szQ_of (szR_sub Zcu.out Zau.out)) (by omega))).mono ?_); rintro e w45 ⟨v45, rfl, hv45, hb45⟩; obtain ⟨z45, rfl⟩ := hv45.open3)
  refine hK.out _ _ (Sx.below hh hb45) (fun hh => ?_)
  clear hK K
  try simp only [nbs, Act.put]
  replace HS := Lib.hid (HS.out.below hb45)
  clear hb45 a46 a47
  replace HS := Lib.hid (HS.out.addQ hv45)
  clear hv45
  refine rdA (i := 16) rfl (fun K hK => ?_)
  go_simp
  have a49 := HS.out.q 7 _ _ rfl
  have a50 := HS.out.q 0 _ _ rfl
  go_wp2_with (go_at_call 42; (with_reducible refine (qsub_any ((qbu - qau) * (qcv - qav)) ((qbv - qav) * (qcu - qau)) _ _ _ a49 a50 (szQ_mono (szQ_of (szR_mul (szR_sub Zbu.out Zau.out) (szR_sub Zcv.out Zav.out))) (by omega)) (szQ_mono (szQ_of (szR_mul (szR_sub Zbv.out Zav.out) (szR_sub Zcu.out Zau.out))) (by omega))).mono ?_); rintro e w48 ⟨v48, rfl, hv48, hb48⟩; obtain ⟨z48, rfl⟩ := hv48.open3)
  refine hK.out _ _ (Sx.below hh hb48) (fun hh => ?_)
  clear hK K
  try simp only [nbs, Act.put]
  replace HS := Lib.hid (HS.out.below hb48)
  clear hb48 a49 a50
  replace HS := Lib.hid (HS.out.addQ hv48)
  clear hv48
  refine rdA (i := 17) rfl (fun K hK => ?_)
  have b3e := (HS.out.at 1 _ _ _ rfl)
  have b3c0 := blk_cell b3e 0 (.bool false) rfl
  have b3c1 := blk_cell b3e 1 (.slice none 0 0) rfl
  have b3c2 := blk_cell b3e 2 (.slice none 0 0) rfl
  have b3f0 := blk_frozen b3e 0
  have b3f1 := blk_frozen b3e 1
  have b3f2 := blk_frozen b3e 2
  have b3l := blk_lt b3e
  clear b3e
  go_simp
  refine hK.out _ _ ((((HS.out).st_R 1 r30 z48 rfl)).erase 1) (fun hh => ?_)
  clear hK K b3c0 b3c1 b3c2 b3f0 b3f1 b3f2 b3l
  try simp only [nbs, Act.put]
  generalize hW51 : (((w48).setCell _ _).setCell _ _).setCell _ _ = W51 at *
  replace HS := Lib.hid (((HS.out).st_R 1 r30 z48 rfl).to hW51 (by (try simp only [nb5, nb6]); rfl))
  clear hW51
  refine wpAnyH_done (by kernel_rfl) ?_ _
  obtain ⟨b3c0, b3c1, b3c2, b3f0, b3f1, b3f2⟩ := fac3 (x := z48) (HS.out.at 1 _ _ _ rfl)
  have b3l := blk_lt (HS.out.at 1 _ _ _ rfl)
  go_wp2_with fail
  clear b3c0 b3c1 b3c2 b3f0 b3f1 b3f2 b3l
  obtain ⟨b3c0, b3c1, b3c2, _⟩ := fac3 (x := z48) (HS.out.at 1 _ _ _ rfl)
  refine bodyPost_ret (v := z48.val) (by simp [results, Tryz.results23, go_sem, b3c0, b3c1, b3c2]) rfl ⟨_, rfl, by rw [← HQ.out]; exact (HS.out.q 0 _ _ rfl), HS.out.bel⟩
end Go.Proofs.YtofijjomfhmbjaaGreat
