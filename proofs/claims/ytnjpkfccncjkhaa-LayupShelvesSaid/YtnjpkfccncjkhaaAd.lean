/- Part d of the lemmas and walks. -/
import Derived.Test.YtnjpkfccncjkhaaAc

namespace Go.Proofs.Ytnjpkfccncjkhaa
open Go.RowKit

theorem ratPts_get (l : List Pt) (i : Nat) (hi : i < l.length) : (ratPts l).getD i (0, 0) = (((ptAt l i).1 : Rat), ((ptAt l i).2 : Rat)) := by
 unfold ratPts ptAt ratPt
 simp [hi]
theorem sumTo_int (l : List Pt) (n : Nat) (hn : n ≤ l.length) : sumTo (ratPts l) n = ((areaTo l n : Int) : Rat) := by
 induction n with
 | zero => simp [sumTo, areaTo]
 | succ n ih =>
  have hl : (ratPts l).length = l.length := by simp [ratPts]
  have h1 : (n + 1) % l.length < l.length := Nat.mod_lt _ (by omega)
  simp only [sumTo, areaTo]
  rw [ih (by omega), hl, ratPts_get l n (by omega), ratPts_get l _ h1]
  unfold edgeI
  rw [Rat.intCast_add, Rat.intCast_sub, Rat.intCast_mul, Rat.intCast_mul]
  grind
theorem SzV_int (l : List Pt) (h : ptsOk l = true) : SzV (ratPts l) := by
 intro i hi
 have hi' : i < l.length := by simpa [ratPts] using hi
 rw [ratPts_get l i hi']
 have := ptOk_range (ptsOk_get h i hi')
 unfold far at this
 exact ⟨i64_szR _ (by omega) (by omega) 1000 (by omega), i64_szR _ (by omega) (by omega) 1000 (by omega)⟩
theorem outErr_good {l : List Pt} (h : outErr l = 0) : (3 ≤ l.length ∧ l.length ≤ 16) ∧ ptsOk l = true := by
 unfold outErr at h
 split at h
 ·
  cases h
 ·
  rename_i h1
  split at h
  ·
   cases h
  ·
   rename_i h2
   exact ⟨by omega, by simpa using h2⟩
def areaQ (l : List Pt) : Rat := ((areaI l : Int) : Rat) / 2

set_option maxRecDepth 100000 in
set_option maxHeartbeats 4000000 in
theorem layupArea_ok (l : List Pt) (v : Value) (w : World) (h : PairsOf w v l) (h0 : outErr l = 0) : Calls Try.prog 9 #[v] w (RetRatE (areaQ l) 0 w) := by
 have H := Lib.hid h
 obtain ⟨ao, cap, rfl, _⟩ := h
 obtain ⟨⟨_, hl16⟩, hok⟩ := outErr_good h0
 have HC := Lib.hid (fun W (hW : PairsOf W (.slice ao l.length cap) l) => checkOutline_any l _ W hW)
 have HV := Lib.hid (fun W (hW : PairsOf W (.slice ao l.length cap) l) => vertices_any l _ W hW hok (by omega))
 have hlen : (ratPts l).length = l.length := by simp [ratPts]
 have hsum := sumTo_int l l.length (Nat.le_refl _)
 have HA : Hid (∀ v W, VtxOf W v (ratPts l) → Calls Try.prog 18 #[v] W (RetRat (areaQ l) W)) := fun v W hW => by
  have := area_any (ratPts l) v W hW (SzV_int l hok) (by omega)
  rw [hlen, hsum] at this
  exact this
 rw [h0] at HC
 clear h0 hlen hsum hok
 have hB0 := blk_new w #[.bool false, .slice none 0 0, .slice none 0 0] 45
 have hal := (Below.refl w.heap.size w).alloc (Nat.le_refl _) (.cells #[.bool false, .slice none 0 0, .slice none 0 0] 45)
 go_enter Try.func9, Try.ntmps9
 go_wp2_with fail
 refine (HC.out _ (H.out.below hal)).mono ?_
 rintro e w1 ⟨rfl, hb1⟩
 have hB1 := blk_keep hB0 hb1 (blk_lt hB0)
 have hx1 := ext_trans hal hb1
 clear hB0 hal hb1
 go_wp2_with fail
 refine (HV.out _ (H.out.below hx1)).mono ?_
 rintro e w2 ⟨vv, rfl, hvv, hb2⟩
 have hB2 := blk_keep hB1 hb2 (blk_lt hB1)
 have hx2 := ext_trans hx1 hb2
 clear hB1 hx1 hb2
 go_wp2_with fail
 refine (HA.out _ _ hvv).mono ?_
 rintro e w3 ⟨va, rfl, hva, hb3⟩
 have hRB : RB w3 w.heap.size := ⟨false, none, 0, 0, none, 0, 0, _, blk_keep hB2 hb3 (blk_lt hB2)⟩
 obtain ⟨a5, c5, a6, c6, rfl, n5, n6⟩ := IsRat.opened hva
 have hx := ext_trans hx2 hb3
 obtain ⟨g0, g1, g2, f0', f1', f2'⟩ := hRB.cell
 have hBl := hRB.lt
 generalize areaQ l = q at *
 clear hva hvv hb3 hx2 hB2
 go_wp2_with fail
 refine bodyPost_ret (v := .tuple #[.agg #[.bool (decide (q.num < 0)), .slice a5 (dig b64 q.num.natAbs).length _, .slice a6 (dig b64 (dn q.den)).length _], .int .i64 0]) (by simp [results, Try.results9, go_sem, g0, g1, g2]; first | done | exact ⟨⟨rfl, rfl⟩, rfl⟩ | exact ⟨rfl, rfl⟩ | rfl) rfl ⟨_, rfl, ?_, below_store3 hx (by omega)⟩
 exact IsRat.stored hRB n5 n6 rfl rfl

end Go.Proofs.Ytnjpkfccncjkhaa

namespace Go.Proofs.Ytnjpkfccncjkhaa
open Go.RowKit

structure Crs where
 first : Int
 tows : Int
 width : Int
 gap : Int
 from_ : Int
 to_ : Int
def crs0 : Crs := ⟨0, 0, 0, 0, 0, 0⟩
def CrsAt (w : World) (b o : Nat) (c : Crs) : Prop := w.cell? ⟨b, o, none⟩ = some (.int .i64 c.first) ∧ w.cell? ⟨b, o + 1, none⟩ = some (.int .i64 c.tows) ∧ w.cell? ⟨b, o + 2, none⟩ = some (.int .i64 c.width) ∧
 w.cell? ⟨b, o + 3, none⟩ = some (.int .i64 c.gap) ∧ w.cell? ⟨b, o + 4, none⟩ = some (.int .i64 c.from_) ∧ w.cell? ⟨b, o + 5, none⟩ = some (.int .i64 c.to_)
def CrsOf (w : World) (v : Value) (cs : List Crs) : Prop :=
 ∃ ao cap, v = .slice ao cs.length cap ∧ (0 < cs.length → ∃ b off, ao = some ⟨b, off, none⟩ ∧ b < w.heap.size ∧ ∀ i, i < cs.length → CrsAt w b (off + i * 6) (cs.getD i crs0))
theorem CrsAt.below {w w' : World} {b o : Nat} {r : Crs} (h : CrsAt w b o r) (hb : Below w.heap.size w w') (hl : b < w.heap.size) : CrsAt w' b o r := by
 obtain ⟨h0, h1, h2, h3, h4, h5⟩ := h
 have c : ∀ j v, w.cell? ⟨b, j, none⟩ = some v → w'.cell? ⟨b, j, none⟩ = some v := fun j v h => (hb.cell (p := ⟨b, j, none⟩) hl).trans h
 exact ⟨c _ _ h0, c _ _ h1, c _ _ h2, c _ _ h3, c _ _ h4, c _ _ h5⟩
theorem CrsOf.below {w w' : World} {v : Value} {cs : List Crs} (h : CrsOf w v cs) (hb : Below w.heap.size w w') : CrsOf w' v cs := by
 obtain ⟨ao, cap, rfl, h⟩ := h
 refine ⟨ao, cap, rfl, fun hl => ?_⟩
 obtain ⟨b, off, rfl, hlt, h⟩ := h hl
 exact ⟨b, off, rfl, Nat.lt_of_lt_of_le hlt hb.size, fun i hi => (h i hi).below hb hlt⟩

def cE (a b c d e f : Bool) : Int := if a && b && c then (if d then (if e || f then 7 else 0) else 1) else 1
def crsErr (c : Crs) : Int := cE (inL c.tows 1 24) (inL c.width 1 1000000) (inL c.gap (-1000000) 1000000) (ptsOk [(c.from_, c.first), (c.to_, 0)]) (decide (c.from_ ≥ c.to_)) (decide (c.width + c.gap ≤ 0))
structure GoodCrs (c : Crs) : Prop where
 tows : 1 ≤ c.tows ∧ c.tows ≤ 24
 width : 1 ≤ c.width ∧ c.width ≤ 1000000
 gap : -1000000 ≤ c.gap ∧ c.gap ≤ 1000000
 first : -4398046511104 ≤ c.first ∧ c.first ≤ 4398046511104
 sum : 0 < c.width + c.gap
theorem inB_iff (n lo hi : Int) : inL n lo hi = true ↔ lo ≤ n ∧ n ≤ hi := by simp [inL]
theorem crs_good {c : Crs} (h : crsErr c = 0) : GoodCrs c := by
 unfold crsErr cE at h
 split at h
 ·
  rename_i h1
  simp only [Bool.and_eq_true, inB_iff] at h1
  split at h
  ·
   rename_i h2
   split at h
   ·
    cases h
   ·
    rename_i h3
    simp only [Bool.or_eq_true, decide_eq_true_eq, not_or] at h3
    have := ptOk_range (ptsOk_get h2 0 (by simp))
    simp [ptAt, far] at this
    exact ⟨h1.1.1, h1.1.2, h1.2, this.2, by omega⟩
  ·
   cases h
 ·
  cases h

theorem cell_new22 (w : World) (a b c d : Int) (t : TypeId) : PairsOf (w.alloc (.cells #[.int .i64 a, .int .i64 b, .int .i64 c, .int .i64 d] t)) (.slice (some ⟨w.heap.size, 0, none⟩) 2 2) [(a, b), (c, d)] := by
 have hB := blk_new w #[.int .i64 a, .int .i64 b, .int .i64 c, .int .i64 d] t
 refine ⟨_, 2, rfl, fun _ => ⟨w.heap.size, 0, rfl, blk_lt hB, fun i hi => ?_⟩⟩
 match i, hi with
 | 0, _ => exact ⟨blk_cell hB 0 _ rfl, blk_cell hB 1 _ rfl⟩
 | 1, _ => exact ⟨blk_cell hB 2 _ rfl, blk_cell hB 3 _ rfl⟩
 | i + 2, hi => simp at hi; omega

set_option maxRecDepth 100000 in
set_option maxHeartbeats 4000000 in
theorem check_any (c : Crs) (w : World) : Calls Try.prog 20 #[.agg #[.int .i64 c.first, .int .i64 c.tows, .int .i64 c.width, .int .i64 c.gap, .int .i64 c.from_, .int .i64 c.to_]] w (RetInt (crsErr c) w) := by
 have Hc : Hid (crsErr c = cE (inL c.tows 1 24) (inL c.width 1 1000000) (inL c.gap (-1000000) 1000000) (ptsOk [(c.from_, c.first), (c.to_, 0)]) (decide (c.from_ ≥ c.to_)) (decide (c.width + c.gap ≤ 0))) := rfl
 generalize crsErr c = r at *
 generalize c.first = a0 at *
 generalize c.tows = a1 at *
 generalize c.width = a2 at *
 generalize c.gap = a3 at *
 generalize c.from_ = a4 at *
 generalize c.to_ = a5 at *
 have Hw : Hid (inL a2 1 1000000 = true → inL a3 (-1000000) 1000000 = true → IntKind.i64.wrap (a2 + a3) = a2 + a3) := fun h1 h2 => by
  rw [inB_iff] at h1 h2
  exact IntWalk.i64_in _ (by omega)
 have hB := blk_new w #[.int .i64 a0, .int .i64 a1, .int .i64 a2, .int .i64 a3, .int .i64 a4, .int .i64 a5] 52
 have hal := (Below.refl w.heap.size w).alloc (Nat.le_refl _) (.cells #[.int .i64 a0, .int .i64 a1, .int .i64 a2, .int .i64 a3, .int .i64 a4, .int .i64 a5] 52)
 go_enter Try.func20, Try.ntmps20
 go_wp2_with fail
 refine (within_any a1 1 24 _).mono ?_
 rintro e w1 ⟨rfl, hb1⟩
 have hB1 := blk_keep hB hb1 (blk_lt hB)
 have hx1 := ext_trans hal hb1
 have c2 := blk_cell hB1 2 (.int .i64 a2) rfl
 clear hB hal hb1
 generalize inL a1 1 24 = p1 at *
 cases p1 with
 | false =>
  go_wp2_with fail
  go_ret
  exact ⟨by rw [Hc.out]; rfl, hx1⟩
 | true =>
  go_wp2_with fail
  refine (within_any a2 1 1000000 _).mono ?_
  rintro e w2 ⟨rfl, hb2⟩
  have hB2 := blk_keep hB1 hb2 (blk_lt hB1)
  have hx2 := ext_trans hx1 hb2
  have c3 := blk_cell hB2 3 (.int .i64 a3) rfl
  clear hB1 hx1 hb2 c2
  generalize inL a2 1 1000000 = p2 at *
  cases p2 with
  | false =>
   go_wp2_with fail
   go_ret
   exact ⟨by rw [Hc.out]; rfl, hx2⟩
  | true =>
   go_wp2_with fail
   refine (within_any a3 _ _ _).mono ?_
   rintro e w3 ⟨rfl, hb3⟩
   have hB3 := blk_keep hB2 hb3 (blk_lt hB2)
   have hx3 := ext_trans hx2 hb3
   have c4 := blk_cell hB3 4 (.int .i64 a4) rfl
   have c0 := blk_cell hB3 0 (.int .i64 a0) rfl
   have c5 := blk_cell hB3 5 (.int .i64 a5) rfl
   clear hB2 hx2 hb3 c3
   generalize inL a3 (-1000000) 1000000 = p3 at *
   cases p3 with
   | false =>
    go_wp2_with fail
    go_ret
    exact ⟨by rw [Hc.out]; rfl, hx3⟩
   | true =>
    have hw := Hw.out (by simp) (by simp)
    have HP := Lib.hid (cell_new22 w3 a4 a0 a5 0 36)
    have hx4 := hx3.alloc hx3.size (.cells #[.int .i64 a4, .int .i64 a0, .int .i64 a5, .int .i64 0] 36)
    have hB4 := blk_keep hB3 ((Below.refl _ _).alloc (Nat.le_refl _) (.cells #[.int .i64 a4, .int .i64 a0, .int .i64 a5, .int .i64 0] 36)) (blk_lt hB3)
    clear hB3 hx3
    go_wp2_with fail
    refine (isRight_any [(a4, a0), (a5, 0)] _ _ HP.out (by simp)).mono ?_
    rintro e w4 ⟨rfl, hb4⟩
    have hB5 := blk_keep hB4 hb4 (blk_lt hB4)
    have hx5 := ext_trans hx4 hb4
    have d2 := blk_cell hB5 2 (.int .i64 a2) rfl
    have d3 := blk_cell hB5 3 (.int .i64 a3) rfl
    have d4 := blk_cell hB5 4 (.int .i64 a4) rfl
    have d5 := blk_cell hB5 5 (.int .i64 a5) rfl
    clear hB4 hB5 hx4 hb4 HP c4 c0 c5
    generalize ptsOk [(a4, a0), (a5, 0)] = p4 at *
    cases p4 with
    | false =>
     go_wp2_with fail
     go_ret
     exact ⟨by rw [Hc.out]; rfl, hx5⟩
    | true =>
     by_cases h6 : a4 ≥ a5
     ·
      have t6 : decide (a4 ≥ a5) = true := decide_eq_true h6
      have Hr : Hid (r = 7) := by show _ = _; rw [Hc.out, t6]; rfl
      clear h6 Hc
      go_wp2_with fail
      go_ret
      exact ⟨by rw [Hr.out]; rfl, hx5⟩
     ·
      have t6 : decide (a4 ≥ a5) = false := decide_eq_false h6
      by_cases h7 : a2 + a3 ≤ 0
      ·
       have t7 : decide (a2 + a3 ≤ 0) = true := decide_eq_true h7
       have Hr : Hid (r = 7) := by show _ = _; rw [Hc.out, t6, t7]; rfl
       clear h6 h7 Hc
       go_wp2_with fail
       go_ret
       exact ⟨by rw [Hr.out]; rfl, hx5⟩
      ·
       have t7 : decide (a2 + a3 ≤ 0) = false := decide_eq_false h7
       have Hr : Hid (r = 0) := by show _ = _; rw [Hc.out, t6, t7]; rfl
       clear h6 h7 Hc
       go_wp2_with fail
       go_ret
       exact ⟨by rw [Hr.out]; rfl, hx5⟩

abbrev Bx4 := Int × Int × Int × Int
def bxI (c : Crs) (k : Nat) : Bx4 := (c.from_, c.first + k * (c.width + c.gap), c.to_, c.first + k * (c.width + c.gap) + c.width)
def bxsOf (c : Crs) (n : Nat) : List Bx4 := (List.range n).map (bxI c)
theorem bxsOf_succ (c : Crs) (n : Nat) : bxsOf c (n + 1) = bxsOf c n ++ [bxI c n] := by simp [bxsOf, List.range_succ]
def bxsTo (cs : List Crs) : Nat → List Bx4
 | 0 => []
 | n + 1 => bxsTo cs n ++ bxsOf (cs.getD n crs0) (cs.getD n crs0).tows.toNat
def bxCells : List Bx4 → List Value
 | [] => []
 | x :: l => .int .i64 x.1 :: .int .i64 x.2.1 :: .int .i64 x.2.2.1 :: .int .i64 x.2.2.2 :: bxCells l
theorem bxCells_append (a b : List Bx4) : bxCells (a ++ b) = bxCells a ++ bxCells b := by
 induction a with
 | nil => rfl
 | cons r a ih => simp [bxCells, ih]
theorem bxCells_get (ls : List Bx4) : ∀ i, i < ls.length → (bxCells ls)[i * 4]? = some (.int .i64 (ls.getD i (0, 0, 0, 0)).1) ∧ (bxCells ls)[i * 4 + 1]? = some (.int .i64 (ls.getD i (0, 0, 0, 0)).2.1) ∧ (bxCells ls)[i * 4 + 2]? = some (.int .i64 (ls.getD i (0, 0, 0, 0)).2.2.1) ∧ (bxCells ls)[i * 4 + 3]? = some (.int .i64 (ls.getD i (0, 0, 0, 0)).2.2.2) := by
 induction ls with
 | nil => intro i hi; simp at hi
 | cons r l ih =>
  intro i hi
  cases i with
  | zero => simp [bxCells]
  | succ i =>
   have := ih i (by simpa using hi)
   simpa [bxCells, Nat.succ_mul] using this
def BxAt (w : World) (b o : Nat) (r : Bx4) : Prop := w.cell? ⟨b, o, none⟩ = some (.int .i64 r.1) ∧ w.cell? ⟨b, o + 1, none⟩ = some (.int .i64 r.2.1) ∧ w.cell? ⟨b, o + 2, none⟩ = some (.int .i64 r.2.2.1) ∧ w.cell? ⟨b, o + 3, none⟩ = some (.int .i64 r.2.2.2)
def BxsOf (w : World) (v : Value) (ls : List Bx4) : Prop :=
 ∃ ao cap, v = .slice ao ls.length cap ∧ (0 < ls.length → ∃ b off, ao = some ⟨b, off, none⟩ ∧ b < w.heap.size ∧ ∀ i, i < ls.length → BxAt w b (off + i * 4) (ls.getD i (0, 0, 0, 0)))
theorem BxAt.below {w w' : World} {b o : Nat} {r : Bx4} (h : BxAt w b o r) (hb : Below w.heap.size w w') (hl : b < w.heap.size) : BxAt w' b o r := by
 obtain ⟨h0, h1, h2, h3⟩ := h
 have c : ∀ j v, w.cell? ⟨b, j, none⟩ = some v → w'.cell? ⟨b, j, none⟩ = some v := fun j v h => (hb.cell (p := ⟨b, j, none⟩) hl).trans h
 exact ⟨c _ _ h0, c _ _ h1, c _ _ h2, c _ _ h3⟩
theorem BxsOf.below {w w' : World} {v : Value} {cs : List Bx4} (h : BxsOf w v cs) (hb : Below w.heap.size w w') : BxsOf w' v cs := by
 obtain ⟨ao, cap, rfl, h⟩ := h
 refine ⟨ao, cap, rfl, fun hl => ?_⟩
 obtain ⟨b, off, rfl, hlt, h⟩ := h hl
 exact ⟨b, off, rfl, Nat.lt_of_lt_of_le hlt hb.size, fun i hi => (h i hi).below hb hlt⟩
theorem BxsOf.nil (w : World) : BxsOf w (.slice none 0 0) [] := ⟨none, 0, rfl, fun h => absurd h (by simp)⟩
theorem BxsOf.ofRow {w : World} {base : Nat} {e : TypeId} {v : Value} {ls : List Bx4} (h : LRow w base e 4 v ls.length (bxCells ls)) : BxsOf w v ls := by
 rcases Nat.eq_zero_or_pos ls.length with h0 | hp
 ·
  rcases h.1.2 with ⟨rfl, _⟩ | ⟨g, cap, cur, rfl, _⟩
  ·
   exact ⟨none, 0, by rw [h0], fun h => absurd h (by omega)⟩
  ·
   exact ⟨_, _, rfl, fun h => absurd h (by omega)⟩
 ·
  obtain ⟨g, cap, rfl⟩ := ownsRow_some h.1 hp
  have hc : ∀ j u, (bxCells ls)[j]? = some u → w.cell? ((⟨g, 0, none⟩ : Addr).add j) = some u := h.1.cells (g := g) rfl
  have hlt : g < w.heap.size := (h.lt rfl).1
  refine ⟨_, _, rfl, fun _ => ⟨g, 0, rfl, hlt, fun i hi => ?_⟩⟩
  obtain ⟨h0, h1, h2, h3⟩ := bxCells_get ls i hi
  have ea : ∀ j, (⟨g, 0, none⟩ : Addr).add j = ⟨g, 0 + j, none⟩ := fun j => by unfold Addr.add; split <;> simp_all
  refine ⟨?_, ?_, ?_, ?_⟩
  ·
   rw [← ea]; exact hc _ _ h0
  all_goals rw [Nat.add_assoc, ← ea]
  ·
   exact hc _ _ h1
  ·
   exact hc _ _ h2
  ·
   exact hc _ _ h3
theorem info_box : (Try.prog.info? 56).map (fun i => (i.zero, i.size, i.bytes)) = some (some (.agg #[.int .i64 0, .int .i64 0, .int .i64 0, .int .i64 0]), 4, 32) := by kernel_rfl
theorem cell_new4i (w : World) (a b c d : Value) (t : TypeId) : ∀ j u, [a, b, c, d][j]? = some u → (w.alloc (.cells #[a, b, c, d] t)).cell? ((⟨w.heap.size, 0, none⟩ : Addr).add j) = some u := by
 intro j u hj
 match j, hj with
 | 0, hj => simp at hj; subst hj; simp [Addr.add]
 | 1, hj => simp at hj; subst hj; simp [Addr.add]
 | 2, hj => simp at hj; subst hj; simp [Addr.add]
 | 3, hj => simp at hj; subst hj; simp [Addr.add]
 | j + 4, hj => simp at hj

def crsTo (cs : List Crs) : Nat → Int
 | 0 => 0
 | n + 1 => if crsTo cs n = 0 then crsErr (cs.getD n crs0) else crsTo cs n
theorem crsTo_stay (cs : List Crs) (k : Nat) : ∀ n, crsTo cs k ≠ 0 → k ≤ n → crsTo cs n = crsTo cs k := by
 intro n h hk
 induction n with
 | zero =>
  obtain rfl : k = 0 := by omega
  rfl
 | succ n ih =>
  rcases Nat.lt_or_ge k (n + 1) with h1 | h1
  ·
   rw [crsTo, ih (by omega), if_neg h]
  ·
   obtain rfl : k = n + 1 := by omega
   rfl
theorem crsTo_good (cs : List Crs) : ∀ n, crsTo cs n = 0 → ∀ i, i < n → crsErr (cs.getD i crs0) = 0
 | 0, _, i, hi => absurd hi (by omega)
 | n + 1, h, i, hi => by
  rw [crsTo] at h
  split at h
  ·
   rename_i h0
   rcases Nat.lt_or_ge i n with h1 | h1
   ·
    exact crsTo_good cs n h0 i h1
   ·
    obtain rfl : i = n := by omega
    exact h
  ·
   rename_i h0; exact absurd h h0
theorem bxsTo_length (cs : List Crs) : ∀ n, crsTo cs n = 0 → (bxsTo cs n).length ≤ 24 * n
 | 0, _ => by simp [bxsTo]
 | n + 1, h => by
  have hg := crs_good (crsTo_good cs (n + 1) h n (by omega))
  have h0 : crsTo cs n = 0 := by
   rw [crsTo] at h
   split at h
   ·
    assumption
   ·
    rename_i h0; exact absurd h h0
  have := bxsTo_length cs n h0
  have := hg.tows
  have e : (bxsOf (cs.getD n crs0) (cs.getD n crs0).tows.toNat).length = (cs.getD n crs0).tows.toNat := by simp [bxsOf]
  simp only [bxsTo, List.length_append]
  rw [e]
  omega
def towsErr (cs : List Crs) : Int := if 24 < cs.length then 4 else if crsTo cs cs.length ≠ 0 then crsTo cs cs.length else if 24 < (bxsTo cs cs.length).length then 9 else 0
def towsVal (cs : List Crs) : List Bx4 := if towsErr cs = 0 then bxsTo cs cs.length else []
def RetTows (cs : List Crs) (w : World) (e : Ending) (w' : World) : Prop := ∃ v, e = .returned (.tuple #[v, .int .i64 (towsErr cs)]) ∧ BxsOf w' v (towsVal cs) ∧ Below w.heap.size w w'
theorem towsVal_err {cs : List Crs} (h : towsErr cs ≠ 0) : towsVal cs = [] := by unfold towsVal; rw [if_neg h]

theorem ownBlock_low' {w : World} {base : Nat} {e : TypeId} {size : Nat} {v : Value} {n : Nat} {xs : List Value} (h : w.ownsRow base e size v n xs) : ∀ k, v.ownBlock = some k → base ≤ k := by
 intro k hk
 rcases h.2 with ⟨rfl, _⟩ | ⟨g, cap, cur, rfl, hb, _⟩
 ·
  simp [Value.ownBlock] at hk
 ·
  simp [Value.ownBlock] at hk
  omega
set_option maxRecDepth 100000 in
set_option maxHeartbeats 8000000 in
theorem tows_any (cs : List Crs) (v : Value) (w : World) (h : CrsOf w v cs) : Calls Try.prog 10 #[v] w (RetTows cs w) := by
 obtain ⟨ao, cap, rfl, hE⟩ := h
 have HE := Lib.hid hE
 clear hE
 by_cases c1 : 24 < cs.length
 ·
  have Hr : Hid (towsErr cs = 4) := by show _ = _; unfold towsErr; rw [if_pos c1]
  have t1 : decide ((cs.length : Int) > 24) = true := by simp; omega
  clear c1
  go_enter Try.func10, Try.ntmps10
  go_wp2_with fail
  go_ret2
  exact ⟨.slice none 0 0, by rw [Hr.out]; rfl, by rw [towsVal_err (by rw [Hr.out]; omega)]; exact BxsOf.nil _, Below.refl _ _⟩
 ·
  have t1 : decide ((cs.length : Int) > 24) = false := by simp; omega
  have h24 : cs.length ≤ 24 := by omega
  have Hc1 := Lib.hid c1
  obtain ⟨i0, hi0, hz0, hz1, hz2⟩ := info_parts info_box
  have hzd : ∀ u ∈ (Value.agg #[.int .i64 0, .int .i64 0, .int .i64 0, .int .i64 0]).cells.toList, noDig u := by
   intro u hu
   simp [Value.cells] at hu
   subst hu
   exact noDig_i64 _
  clear c1
  go_enter Try.func10, Try.ntmps10
  go_wp2_with fail
  go_loopw [4, 15] (fun ov iv wr => ∃ (i : Nat), i ≤ cs.length ∧ iv = .int .i64 i ∧ Hid (crsTo cs i = 0) ∧ Hid (LRow wr w.heap.size 56 4 ov (bxsTo cs i).length (bxCells (bxsTo cs i))) ∧ Below w.heap.size w wr) (fun _ iv _ => cs.length - (intOf iv).toNat)
  case atStart => exact ⟨0, Nat.zero_le _, rfl, rfl, LRow.nil _ _ _ _, Below.refl _ _⟩
  case round =>
   obtain ⟨i, hi, rfl, hC, hL, hbel⟩ := hrel
   by_cases hlt : i < cs.length
   ·
    obtain ⟨b, off, rfl, hbl, hEE⟩ := HE.out (by omega)
    obtain ⟨g0, g1, g2, g3, g4, g5⟩ := (hEE i hlt).below hbel hbl
    have hlt' : (i : Int) < cs.length := by omega
    have hge' : (0 : Int) ≤ i := by omega
    have hbl2 : b < wr.heap.size := Nat.lt_of_lt_of_le hbl hbel.size
    have hbs0 := hbel.size
    have Hst : Hid (crsTo cs (i + 1) = crsErr (cs.getD i crs0)) := by show _ = _; rw [crsTo, if_pos hC.out]
    have Hbs : Hid (bxsTo cs (i + 1) = bxsTo cs i ++ bxsOf (cs.getD i crs0) (cs.getD i crs0).tows.toNat) := rfl
    have Hbl := bxsTo_length cs i hC.out
    have HCK := Lib.hid (fun W => check_any (cs.getD i crs0) W)
    have Hbad : Hid (crsErr (cs.getD i crs0) ≠ 0 → towsErr cs = crsErr (cs.getD i crs0)) := fun h => by
     have h2 : crsTo cs cs.length = crsErr (cs.getD i crs0) := by rw [← Hst.out]; exact crsTo_stay cs (i + 1) cs.length (by rw [Hst.out]; exact h) hlt
     unfold towsErr
     rw [if_neg Hc1.out, h2, if_pos h]
    have HG := Lib.hid (fun h => crs_good (c := cs.getD i crs0) h)
    generalize cs.getD i crs0 = c at *
    have hN := blk_new wr #[.int .i64 c.first, .int .i64 c.tows, .int .i64 c.width, .int .i64 c.gap, .int .i64 c.from_, .int .i64 c.to_] 52
    have hal := (Below.refl wr.heap.size wr).alloc (Nat.le_refl _) (.cells #[.int .i64 c.first, .int .i64 c.tows, .int .i64 c.width, .int .i64 c.gap, .int .i64 c.from_, .int .i64 c.to_] 52)
    have HL0 := Lib.hid (hL.out.below hal)
    have hOlt := Lib.hid (fun g (hg : u4.ownBlock = some g) => (hL.out.lt hg).1)
    have hx0 := ext_trans hbel hal
    clear hEE hbel hL
    go_wp2_with fail
    refine (HCK.out _).mono ?_
    rintro e w1 ⟨rfl, hb1⟩
    have hN1 := blk_keep hN hb1 (blk_lt hN)
    have HL1 := Lib.hid (HL0.out.below hb1)
    have hx1 := ext_trans hx0 hb1
    have c1 := blk_cell hN1 1 (.int .i64 c.tows) rfl
    clear HL0 hx0 hb1 hN hal g0 g1 g2 g3 g4 g5
    by_cases he : crsErr c = 0
    ·
     have hg := HG.out he
     obtain ⟨⟨ht1, ht2⟩, hw, hgp, hf, _⟩ := hg
     have te : (crsErr c != 0) = false := by rw [he]; rfl
     have He := Lib.hid he
     clear he
     generalize crsErr c = er at *
     go_wp2_with fail
     have HNn := Lib.hid hN1
     have hCl := blk_lt hN1
     have hCB : w.heap.size ≤ wr.heap.size := hbs0
     clear hN1 c1 te
     generalize wr.heap.size = CB at *
     go_loopw [26, 4] (fun kv ov wx => ∃ (k : Nat), (k : Int) ≤ c.tows ∧ kv = .int .i64 k ∧ Hid (LRow wx w.heap.size 56 4 ov (bxsTo cs i ++ bxsOf c k).length (bxCells (bxsTo cs i ++ bxsOf c k))) ∧ Hid (wx.heap[CB]? = some (.cells #[.int .i64 c.first, .int .i64 c.tows, .int .i64 c.width, .int .i64 c.gap, .int .i64 c.from_, .int .i64 c.to_] 52 (0, 0))) ∧ Hid (∀ g, ov.ownBlock = some g → g ≠ CB) ∧ Below w.heap.size w wx) (fun kv _ _ => (c.tows - intOf kv).toNat)
     case atStart => exact ⟨0, by omega, rfl, by simp only [bxsOf, List.range_zero, List.map_nil, List.append_nil]; exact HL1.out, HNn.out, fun g hg e => Nat.lt_irrefl CB (by have := hOlt.out g hg; omega), hx1⟩
     case round =>
      clear HL1 HNn hx1
      obtain ⟨k, hk, rfl, hLk, hNk, hne, hbx⟩ := hrel
      have hCl' := blk_lt hNk.out
      by_cases hlk : (k : Int) < c.tows
      ·
       have tk : decide ((k : Int) < c.tows) = true := decide_eq_true hlk
       have m0 := blk_cell hNk.out 0 (.int .i64 c.first) rfl
       have m2 := blk_cell hNk.out 2 (.int .i64 c.width) rfl
       have m3 := blk_cell hNk.out 3 (.int .i64 c.gap) rfl
       have m4 := blk_cell hNk.out 4 (.int .i64 c.from_) rfl
       have m5 := blk_cell hNk.out 5 (.int .i64 c.to_) rfl
       have hbi : bxI c k = (c.from_, c.first + (k : Int) * (c.width + c.gap), c.to_, c.first + (k : Int) * (c.width + c.gap) + c.width) := rfl
       obtain ⟨S, hS⟩ : ∃ S, S = c.width + c.gap := ⟨_, rfl⟩
       have hS1 : -2000000 ≤ S ∧ S ≤ 2000000 := by omega
       have e1 : IntKind.i64.wrap (c.width + c.gap) = S := by rw [hS]; exact IntWalk.i64_in _ (by omega)
       rw [← hS] at hbi
       have hp := mul_absI (show -24 ≤ (k : Int) ∧ (k : Int) ≤ 24 by omega) hS1
       obtain ⟨P, hP⟩ : ∃ P, P = (k : Int) * S := ⟨_, rfl⟩
       rw [← hP] at hbi hp
       have e2 : IntKind.i64.wrap ((k : Int) * S) = P := by rw [← hP]; exact IntWalk.i64_in _ (by omega)
       obtain ⟨Y, hY⟩ : ∃ Y, Y = c.first + P := ⟨_, rfl⟩
       rw [← hY] at hbi
       have e3 : IntKind.i64.wrap (c.first + P) = Y := by rw [hY]; exact IntWalk.i64_in _ (by omega)
       obtain ⟨Y2, hY2⟩ : ∃ Y2, Y2 = Y + c.width := ⟨_, rfl⟩
       rw [← hY2] at hbi
       have e4 : IntKind.i64.wrap (Y + c.width) = Y2 := by rw [hY2]; exact IntWalk.i64_in _ (by omega)
       have Hsn : Hid (bxsTo cs i ++ bxsOf c (k + 1) = (bxsTo cs i ++ bxsOf c k) ++ [(c.from_, Y, c.to_, Y2)]) := by show _ = _; rw [bxsOf_succ, hbi, List.append_assoc]
       have hpl : (bxsTo cs i ++ bxsOf c k).length ≤ 1000 := by rw [List.length_append]; simp only [bxsOf, List.length_map, List.length_range]; omega
       have hbw := hbx.size
       clear hbi hS hS1 hp hP hY hY2
       generalize bxsTo cs i ++ bxsOf c k = pre at *
       have hal := (Below.refl wr.heap.size wr).alloc (Nat.le_refl _) (.cells #[.int .i64 c.from_, .int .i64 Y, .int .i64 c.to_, .int .i64 Y2] 56)
       have HLa := Lib.hid (hLk.out.below hal)
       have HNa := Lib.hid (blk_keep hNk.out hal hCl')
       have hxa := hbx.alloc hbx.size (.cells #[.int .i64 c.from_, .int .i64 Y, .int .i64 c.to_, .int .i64 Y2] 56)
       have HNE := Lib.hid hne.out
       clear hLk hNk hal hne hbx
       go_wp2_with (at_builtin; refine wpList_append_lrow _ rfl (.tmp 39) (.tmp 52) 48 rfl w.heap.size 56 i0 _ 4 32 Try.underlying48 hi0 hz0 hz1 hz2 rfl (by decide) hzd _ _ _ rfl HLa.out ⟨wr.heap.size, 0, none⟩ 1 1 [.int .i64 c.from_, .int .i64 Y, .int .i64 c.to_, .int .i64 Y2] rfl rfl (cell_new4i _ _ _ _ _ _) (by simp [Value.oneCell']) (by intro u hu; simp at hu; rcases hu with rfl | rfl | rfl | rfl <;> exact noDig_i64 _) (by omega) (by unfold maxLen; omega) (by omega) (by simp; omega) ?_)
       intro g' cap' w3 hL4 hgr hat
       have HL4 : Hid (LRow w3 w.heap.size 56 4 (.slice (some ⟨g', 0, none⟩) (pre.length + 1) cap') (pre ++ [(c.from_, Y, c.to_, Y2)]).length (bxCells (pre ++ [(c.from_, Y, c.to_, Y2)]))) := by
        show LRow _ _ _ _ _ _ _
        rw [bxCells_append, List.length_append]
        exact hL4
       have hx4 : Below w.heap.size w w3 := hxa.grown hgr (by simp; omega) (ownBlock_low' HLa.out.1)
       have HN4 : Hid (w3.heap[CB]? = some (.cells #[.int .i64 c.first, .int .i64 c.tows, .int .i64 c.width, .int .i64 c.gap, .int .i64 c.from_, .int .i64 c.to_] 52 (0, 0))) := (hgr.block CB (by simp; omega) (fun e => HNE.out CB e.symm rfl)).trans HNa.out
       have HE4 : Hid (∀ g, (Value.slice (some ⟨g', 0, none⟩) (pre.length + 1) cap').ownBlock = some g → g ≠ CB) := by
        intro g hg
        simp [Value.ownBlock] at hg
        subst hg
        rcases hat with h | h
        ·
         exact HNE.out _ h
        ·
         rw [h]; simp; omega
       clear hL4 hgr hat HLa HNa hxa
       go_wp2_with fail
       exact ⟨⟨k + 1, by omega, by go_num, by rw [Hsn.out]; exact HL4.out, HN4.out, HE4.out, hx4⟩, by simp [intOf]; omega⟩
      ·
       have tk : decide ((k : Int) < c.tows) = false := decide_eq_false hlk
       have hkt : c.tows.toNat = k := by omega
       have Hfin : Hid (bxsTo cs (i + 1) = bxsTo cs i ++ bxsOf c k) := by show _ = _; rw [Hbs.out, hkt]
       have Hc0 : Hid (crsTo cs (i + 1) = 0) := by show _ = _; rw [Hst.out]; exact He.out
       clear hkt hlk hne hNk
       go_wp2_with fail
       exact ⟨⟨i + 1, by omega, by go_num, Hc0.out, by rw [Hfin.out]; exact hLk.out, hbx⟩, meas_up hlt⟩
    ·
     have te : (crsErr c != 0) = true := bne_iff_ne.2 he
     have Hr := Lib.hid (Hbad.out he)
     have He := Lib.hid he
     clear he
     generalize crsErr c = er at *
     go_wp2_with fail
     go_ret2
     exact ⟨.slice none 0 0, by rw [Hr.out]; rfl, by rw [towsVal_err (by rw [Hr.out]; exact He.out)]; exact BxsOf.nil _, hx1⟩
   ·
    obtain rfl : i = cs.length := by omega
    have hform : ∃ ao2 cap2, u4 = .slice ao2 (bxsTo cs cs.length).length cap2 := by
     rcases hL.out.1.2 with ⟨e, h0⟩ | ⟨g, cap, cur, e, _⟩
     ·
      exact ⟨none, 0, by rw [e, h0]⟩
     ·
      exact ⟨_, _, e⟩
    obtain ⟨ao2, cap2, rfl⟩ := hform
    have HB := Lib.hid (BxsOf.ofRow hL.out)
    have Hte : Hid (towsErr cs = if 24 < (bxsTo cs cs.length).length then 9 else 0) := by show _ = _; unfold towsErr; rw [if_neg Hc1.out, hC.out, if_neg (by simp)]
    have Htv : Hid (towsVal cs = if towsErr cs = 0 then bxsTo cs cs.length else []) := rfl
    by_cases c2 : 24 < (bxsTo cs cs.length).length
    ·
     have t2 : decide (((bxsTo cs cs.length).length : Int) > 24) = true := by simp; omega
     have Hr : Hid (towsErr cs = 9) := by show _ = _; rw [Hte.out, if_pos c2]
     clear c2 hL
     generalize bxsTo cs cs.length = bl at *
     go_wp2_with fail
     go_ret2
     exact ⟨.slice none 0 0, by rw [Hr.out]; rfl, by rw [towsVal_err (by rw [Hr.out]; omega)]; exact BxsOf.nil _, hbel⟩
    ·
     have t2 : decide (((bxsTo cs cs.length).length : Int) > 24) = false := by simp; omega
     have Hr : Hid (towsErr cs = 0) := by show _ = _; rw [Hte.out, if_neg c2]
     have Hv : Hid (towsVal cs = bxsTo cs cs.length) := by show _ = _; rw [Htv.out, if_pos Hr.out]
     clear c2 hL
     generalize bxsTo cs cs.length = bl at *
     go_wp2_with fail
     go_ret2
     exact ⟨.slice ao2 bl.length cap2, by rw [Hr.out]; rfl, by rw [Hv.out]; exact HB.out, hbel⟩

end Go.Proofs.Ytnjpkfccncjkhaa

namespace Go.Proofs.Ytnjpkfccncjkhaa

theorem ten_two : 2 ≤ 10 := by omega
def chD (d : Nat) : UInt8 := UInt8.ofNat (48 + d)
def decP (n m : Nat) : List UInt8 := ((dig 10 n).take m).reverse.map chD
def decL (n : Nat) : List UInt8 := (dig 10 n).reverse.map chD
def decT (n : Nat) : List UInt8 := if n = 0 then [48] else decL n

theorem dig_drop {B : Nat} (hB : 2 ≤ B) : ∀ (k n : Nat), (dig B n).drop k = dig B (n / B ^ k)
 | 0, n => by simp
 | k + 1, n => by
  by_cases h : n = 0
  ·
   subst h; simp [dig_zero]
  ·
   rw [dig_pos hB h, List.drop_succ_cons, dig_drop hB k, Nat.div_div_eq_div_mul, Nat.pow_succ, Nat.mul_comm B]
theorem dig_length_gt {B : Nat} (hB : 2 ≤ B) (k n : Nat) : k < (dig B n).length ↔ n / B ^ k ≠ 0 := by
 rw [Ne, ← dig_nil_iff hB, ← dig_drop hB, List.drop_eq_nil_iff]
 omega
theorem dig_getD {B : Nat} (hB : 2 ≤ B) (k n : Nat) : (dig B n).getD k 0 = n / B ^ k % B := by
 by_cases h : n / B ^ k = 0
 ·
  have := (not_congr (dig_length_gt hB k n)).2 (fun hne => hne h)
  rw [h, List.getD_eq_getElem?_getD, List.getElem?_eq_none (by omega)]
  simp
 ·
  have hl := (dig_length_gt hB k n).2 h
  have e := dig_drop hB k n
  rw [dig_pos hB h, List.drop_eq_getElem_cons hl] at e
  rw [List.getD_eq_getElem?_getD, List.getElem?_eq_getElem hl]
  exact (List.cons.inj e).1
theorem decP_step (n m : Nat) (h : n / 10 ^ m ≠ 0) : decP n (m + 1) = chD (n / 10 ^ m % 10) :: decP n m := by
 have hl := (dig_length_gt ten_two m n).2 h
 have e := dig_getD ten_two m n
 rw [List.getD_eq_getElem?_getD, List.getElem?_eq_getElem hl] at e
 unfold decP
 rw [List.take_succ_eq_append_getElem hl, List.reverse_append]
 simp at e ⊢
 rw [e]
theorem decP_all (n m : Nat) (h : n / 10 ^ m = 0) : decP n m = decL n := by
 have := (not_congr (dig_length_gt ten_two m n)).2 (fun hne => hne h)
 unfold decP decL
 rw [List.take_of_length_le (by omega)]
theorem decP_length (n m : Nat) (h : m = 0 ∨ n / 10 ^ (m - 1) ≠ 0) : (decP n m).length = m := by
 rcases h with rfl | h
 ·
  simp [decP]
 ·
  rcases Nat.eq_zero_or_pos m with rfl | hp
  ·
   simp [decP]
  ·
   have := (dig_length_gt ten_two (m - 1) n).2 h
   simp [decP]
   omega
theorem decL_zero : decL 0 = [] := rfl
theorem decL_length (n : Nat) : (decL n).length = (dig 10 n).length := by simp [decL]
theorem lv_inj {B : Nat} : ∀ {a b : List Nat}, Dgs B a → Dgs B b → a.length = b.length → lv B a = lv B b → a = b
 | [], [], _, _, _, _ => rfl
 | x :: a, y :: b, ha, hb, hl, hv => by
  rw [lv_cons, lv_cons] at hv
  have hx := ha.head
  have hy := hb.head
  have e1 : x = y := by
   have h1 : (x + B * lv B a) % B = x := by rw [Nat.add_mul_mod_self_left, Nat.mod_eq_of_lt hx]
   have h2 : (y + B * lv B b) % B = y := by rw [Nat.add_mul_mod_self_left, Nat.mod_eq_of_lt hy]
   rw [← h1, ← h2, hv]
  subst e1
  have e2 : lv B a = lv B b := Nat.eq_of_mul_eq_mul_left (show 0 < B by omega) (Nat.add_left_cancel hv)
  rw [lv_inj ha.tail hb.tail (by simpa using hl) e2]
theorem dig_take {B : Nat} (hB : 2 ≤ B) (k n : Nat) (h : n / B ^ k ≠ 0) : (dig B n).take k = dig B (n % B ^ k) ++ List.replicate (k - (dig B (n % B ^ k)).length) 0 := by
 have hl := (dig_length_gt hB k n).2 h
 have hp : 0 < B ^ k := Nat.pow_pos (by omega)
 have hm := dig_length_le hB k (n % B ^ k) (Nat.mod_lt _ hp)
 have htk : ((dig B n).take k).length = k := by simp; omega
 refine lv_inj ((dgs_dig hB n).take k) ((dgs_dig hB _).append (Dgs.replicate (by omega) _)) (by simp; omega) ?_
 have hv := lv_take_drop B (dig B n) k (by omega)
 have ht := lv_lt ((dgs_dig hB n).take k)
 rw [lv_dig hB, dig_drop hB, lv_dig hB] at hv
 rw [htk] at ht
 have e : n % B ^ k = lv B ((dig B n).take k) := by
  have h1 : n % B ^ k = (lv B ((dig B n).take k) + B ^ k * (n / B ^ k)) % B ^ k := by rw [← hv]
  rw [h1, Nat.add_mul_mod_self_left, Nat.mod_eq_of_lt ht]
 rw [lv_append, lv_replicate, lv_dig hB, Nat.mul_zero, Nat.add_zero, e]
def decZ (k n : Nat) : List UInt8 := List.replicate (k - (decL n).length) 48 ++ decL n
theorem decL_split (k n : Nat) (h : n / 10 ^ k ≠ 0) : decL n = decL (n / 10 ^ k) ++ decZ k (n % 10 ^ k) := by
 have e : dig 10 n = (dig 10 n).take k ++ dig 10 (n / 10 ^ k) := by
  rw [← dig_drop ten_two, List.take_append_drop]
 unfold decL decZ
 rw [e, dig_take ten_two k n h, decL_length]
 simp [decL, chD, List.map_reverse]
theorem chD_toNat (d : Nat) (h : d < 10) : (chD d).toNat = 48 + d := by
 unfold chD
 rw [UInt8.toNat_ofNat', Nat.mod_eq_of_lt (by omega)]

def txtQ (q : Rat) : List UInt8 := (if q.num < 0 then [45] else []) ++ (decT q.num.natAbs ++ (if q.den = 1 then [] else 47 :: decT q.den))

end Go.Proofs.Ytnjpkfccncjkhaa

namespace Go.Proofs.Ytnjpkfccncjkhaa
open Go.RowKit Go.Shelf

def strB (l : List UInt8) : ByteArray := ⟨l.toArray⟩
theorem strB_size (l : List UInt8) : (strB l).size = l.length := rfl
theorem strB_append (a b : List UInt8) : strB a ++ strB b = strB (a ++ b) := by
 apply ByteArray.ext
 simp [strB, ByteArray.data_append]
def RetStr (l : List UInt8) (w : World) (e : Ending) (w' : World) : Prop := e = .returned (.string (strB l)) ∧ Below w.heap.size w w'
theorem repeat_zero (c : Nat) : Lib.repeatL [48] c = List.replicate c 48 := by
 induction c with
 | zero => rfl
 | succ c ih => rw [Lib.repeatL, ih]; rfl

def DecRow (w : World) (B n m : Nat) : Prop := ∃ cs : List Value, cs.length = 20 ∧ w.heap[B]? = some (.cells cs.toArray 105 (0, 0)) ∧ cs.drop (20 - m) = (decP n m).map fun c => Value.int .u8 c.toNat
theorem DecRow.bytes {w : World} {B n m : Nat} (h : DecRow w B n m) (hm : m ≤ 20) (hl : (decP n m).length = m) : Lib.Bytes w B (20 - m) (strB (decP n m)) := by
 obtain ⟨cs, hc, hh, hd⟩ := h
 intro i hi
 rw [strB_size] at hi
 rw [cell_of_row w B _ _ _ (0, 0) hh]
 have e : cs[20 - m + i]? = ((decP n m).map fun c => Value.int .u8 c.toNat)[i]? := by rw [← hd, List.getElem?_drop]
 simp only [List.getElem?_toArray]
 rw [e, List.getElem?_map, List.getElem?_eq_getElem hi]
 rfl
theorem DecRow.step {w : World} {B n m k : Nat} (h : DecRow w B n m) (hk : k + 1 + m = 20) (h0 : n / 10 ^ m ≠ 0) (v : Value) (hv : v = .int .u8 (chD (n / 10 ^ m % 10)).toNat) : DecRow (w.setCell ⟨B, k, none⟩ v) B n (m + 1) := by
 obtain ⟨cs, hc, hh, hd⟩ := h
 refine ⟨cs.set k v, by simp [hc], ?_, ?_⟩
 ·
  rw [heap_setCell_same w B k _ _ _ hh]
  simp
 ·
  rw [decP_step n m h0, List.map_cons, ← hd, hv]
  rw [show 20 - (m + 1) = k by omega, show 20 - m = k + 1 by omega]
  rw [List.drop_eq_getElem_cons (by simp [hc]; omega)]
  simp [List.drop_set]
theorem DecRow.cell {w : World} {B n m : Nat} (h : DecRow w B n m) (k : Nat) (hk : k < 20) : ∃ v, w.cell? ⟨B, k, none⟩ = some v ∧ w.frozen? ⟨B, k, none⟩ = false := by
 obtain ⟨cs, hc, hh, hd⟩ := h
 refine ⟨cs[k], ?_, frozen_of_row w B k _ _ hh⟩
 rw [cell_of_row w B k _ _ (0, 0) hh]
 simp [hc, hk]

theorem arr20 : Try.prog.arrayLen 105 = 20 := by kernel_rfl
theorem und20 : Try.prog.underlying 105 = some (.array (Try.prog.arrayLen 105) (Try.prog.elem 105)) := by kernel_rfl
theorem size20 (w : World) : (sizeOf (Try.prog.elem 105)).run Try.prog w = .ok 1 w := by kernel_rfl
theorem slice20 (B a : Nat) (ha : a < 20) (w : World) : (Instr.sliceAt 105 (.pointer (some ⟨B, 0, none⟩)) (some (.int .i64 (a : Int))) none none).run Try.prog w = .ok (.slice (some ⟨B, a, none⟩) (20 - a) (20 - a)) w := by
 rw [run_sliceAt_array_l w _ _ und20 .i64 a (by omega) (by rw [arr20]; omega), size20, arr20]
 have h : ¬ 20 = a := by omega
 have e : (⟨B, 0, none⟩ : Addr).add (a * 1) = ⟨B, a, none⟩ := by unfold Addr.add; split <;> simp_all
 simp only [Result.andThen_ok, slicedAt, Int.toNat_natCast, if_neg h, e]
theorem slice20_end (B : Nat) (w : World) : (Instr.sliceAt 105 (.pointer (some ⟨B, 0, none⟩)) (some (.int .i64 ((20 : Nat) : Int))) none none).run Try.prog w = .ok (.slice (some ⟨B, 0, none⟩) 0 0) w := by
 rw [run_sliceAt_array_l w _ _ und20 .i64 _ (by omega) (by rw [arr20]; omega), size20, arr20]
 simp [slicedAt]

set_option maxRecDepth 100000 in
set_option maxHeartbeats 4000000 in
theorem decimal_any (n : Nat) (w : World) (hn : n < b64) : Calls Try.prog 32 #[.int .u64 n] w (RetStr (decL n) w) := by
 have h20 : n / 10 ^ 20 = 0 := Nat.div_eq_of_lt (by unfold b64 at hn; omega)
 have H20 := Lib.hid h20
 have hN : DecRow (w.alloc (.cells #[.int .u8 0, .int .u8 0, .int .u8 0, .int .u8 0, .int .u8 0, .int .u8 0, .int .u8 0, .int .u8 0, .int .u8 0, .int .u8 0, .int .u8 0, .int .u8 0, .int .u8 0, .int .u8 0, .int .u8 0, .int .u8 0, .int .u8 0, .int .u8 0, .int .u8 0, .int .u8 0] 105)) w.heap.size n 0 :=
  ⟨List.replicate 20 (.int .u8 0), by simp, blk_new w _ _, by simp [decP]⟩
 have hal : Below w.heap.size w (w.alloc (.cells #[.int .u8 0, .int .u8 0, .int .u8 0, .int .u8 0, .int .u8 0, .int .u8 0, .int .u8 0, .int .u8 0, .int .u8 0, .int .u8 0, .int .u8 0, .int .u8 0, .int .u8 0, .int .u8 0, .int .u8 0, .int .u8 0, .int .u8 0, .int .u8 0, .int .u8 0, .int .u8 0] 105)) := (Below.refl _ _).alloc (Nat.le_refl _) _
 have HN := Lib.hid hN
 clear h20 hN
 go_enter Try.func32, Try.ntmps32
 go_wp2_with fail
 go_loopw [0, 4] (fun nv av wr => ∃ (m a : Nat), a + m = 20 ∧ nv = .int .u64 ((n / 10 ^ m : Nat) : Int) ∧ av = .int .i64 a ∧ (m = 0 ∨ n / 10 ^ (m - 1) ≠ 0) ∧ Hid (DecRow wr w.heap.size n m) ∧ Below w.heap.size w wr)
  (fun _ av _ => (intOf av).toNat)
 case atStart => exact ⟨0, 20, rfl, by simp, rfl, .inl rfl, HN.out, hal⟩
 case round =>
  clear hal HN
  obtain ⟨m, a, ha, rfl, rfl, hm, hD, hbel⟩ := hrel
  have HM := Lib.hid hm
  have HA := Lib.hid ha
  clear hm
  by_cases h0 : n / 10 ^ m = 0
  ·
   have Hh := Lib.hid h0
   by_cases ha20 : a = 20
   ·
    have h00 : n = 0 := by
     obtain rfl : m = 0 := by omega
     simpa using h0
    have hw := Lib.run_convert_whole (P := Try.prog) wr 86 5 9 Try.underlying86 Try.underlying5 Try.underlying9 w.heap.size 0 (strB []) (fun i hi => absurd hi (Nat.not_lt_zero i)) 0
    rw [strB_size, List.length_nil] at hw
    have hsl := slice20_end w.heap.size
    have Hn0 : Hid (decL n = []) := by show _ = _; rw [h00]; rfl
    rw [h0]
    subst ha20
    clear h0 h00 ha
    go_wp2_with fail
    go_ret
    exact ⟨by rw [Hn0.out]; rfl, hbel⟩
   ·
    have hl := decP_length n m HM.out
    have hm2 : m = 20 - a := by omega
    have hw := Lib.run_convert_whole (P := Try.prog) wr 86 5 9 Try.underlying86 Try.underlying5 Try.underlying9 w.heap.size (20 - m) (strB (decP n m)) (hD.out.bytes (by omega) hl) (20 - a)
    rw [strB_size, hl, decP_all n m h0, show 20 - m = a by omega, hm2] at hw
    have hsl := slice20 w.heap.size a (by omega)
    rw [h0]
    clear h0 hl hm2
    go_wp2_with fail
    go_ret
    exact ⟨rfl, hbel⟩
  ·
   have hq : ((n / 10 ^ m : Nat) : Int) > 0 := Int.natCast_pos.2 (Nat.pos_of_ne_zero h0)
   have t1 : decide (((n / 10 ^ m : Nat) : Int) > 0) = true := decide_eq_true hq
   have hm20 : m < 20 := by
    rcases Nat.lt_or_ge m 20 with h | h
    ·
     exact h
    ·
     obtain rfl : m = 20 := by omega
     exact absurd H20.out h0
   obtain ⟨k, rfl⟩ : ∃ k, a = k + 1 := ⟨a - 1, by omega⟩
   obtain ⟨v0, g0, f0⟩ := hD.out.cell k (by omega)
   have hst := fun v hv => hD.out.step (k := k) (by omega) h0 v hv
   have HST := Lib.hid hst
   have Hm1 : Hid (n / 10 ^ (m + 1 - 1) ≠ 0) := by show _ ≠ _; rw [Nat.add_sub_cancel]; exact h0
   have hdv : Hid (n / 10 ^ m / 10 = n / 10 ^ (m + 1)) := by show _ = _; rw [Nat.div_div_eq_div_mul, Nat.pow_succ]
   have hch : Hid (((chD (n / 10 ^ m % 10)).toNat : Int) = 48 + ((n / 10 ^ m % 10 : Nat) : Int)) := by show _ = _; rw [chD_toNat _ (Nat.mod_lt _ (by omega))]; omega
   have hqb : n / 10 ^ m < b64 := Nat.lt_of_le_of_lt (Nat.div_le_self _ _) hn
   have e1 : IntKind.i64.wrap (((k + 1 : Nat) : Int) - 1) = (k : Int) := by rw [show (((k + 1 : Nat) : Int) - 1) = (k : Int) by omega]; exact IntWalk.i64_in _ (by omega)
   have e2 : IntKind.i64.wrap ((k : Int) + 1 - 1) = (k : Int) := by rw [show ((k : Int) + 1 - 1) = (k : Int) by omega]; exact IntWalk.i64_in _ (by omega)
   have hk20 : (k : Int) < 20 := by omega
   have hk0 : (0 : Int) ≤ k := by omega
   clear hst h0 hD
   generalize n / 10 ^ m = q at *
   unfold b64 at hqb
   clear hn
   go_wp2_with fail
   refine ⟨⟨m + 1, k, by have := HA.out; omega, by rw [← hdv.out, Int.natCast_ediv]; rfl, rfl, .inr Hm1.out, HST.out _ (by rw [hch.out, Int.natCast_emod]; rfl), hbel.setCell (p := ⟨w.heap.size, k, none⟩) (Nat.le_refl _) _⟩, by simp [intOf]⟩

def decC : Nat := 10000000000000000000
theorem decC_eq : decC = 10 ^ 19 := by unfold decC; omega
def partL (n i : Nat) : List UInt8 := if n / decC ^ i / decC = 0 then decL (n / decC ^ i) else decZ 19 (n / decC ^ i % decC)
theorem partL_step (n i : Nat) : decL (n / decC ^ (i + 1)) ++ partL n i = decL (n / decC ^ i) := by
 have e : n / decC ^ (i + 1) = n / decC ^ i / decC := by rw [Nat.div_div_eq_div_mul, Nat.pow_succ]
 rw [e]
 unfold partL
 by_cases h : n / decC ^ i / decC = 0
 ·
  rw [if_pos h, h, decL_zero]; rfl
 ·
  rw [if_neg h]
  rw [decC_eq] at *
  exact (decL_split 19 _ h).symm
def partCells (n k : Nat) : List Value := (List.range k).map fun i => Value.string (strB (partL n i))
theorem partCells_succ (n k : Nat) : partCells n (k + 1) = partCells n k ++ [Value.string (strB (partL n k))] := by
 simp [partCells, List.range_succ]

theorem digits_len (n : Nat) : (dig 10 n).length ≤ 20 * (dig b64 n).length := by
 refine dig_length_le ten_two _ _ (Nat.lt_of_lt_of_le (lt_pow_dig_length b64_two n) ?_)
 rw [Nat.pow_mul]
 exact Nat.pow_le_pow_left (by unfold b64; omega) _
theorem parts_len (n k : Nat) (h : n / decC ^ k ≠ 0) : 19 * k < 20 * (dig b64 n).length := by
 have h1 : n / 10 ^ (19 * k) ≠ 0 := by rw [Nat.pow_mul, ← decC_eq]; exact h
 have := (dig_length_gt ten_two (19 * k) n).2 h1
 have := digits_len n
 omega
theorem decC_pos : 0 < decC := by unfold decC; omega
theorem partL_len (n i : Nat) : (partL n i).length ≤ 19 + (dig 10 n).length := by
 unfold partL
 split
 ·
  rw [decL_length]
  have : (dig 10 (n / decC ^ i)).length ≤ (dig 10 n).length := dig_length_mono ten_two (Nat.div_le_self _ _)
  omega
 ·
  unfold decZ
  have h1 : (decL (n / decC ^ i % decC)).length ≤ 19 := by
   rw [decL_length]
   refine dig_length_le ten_two 19 _ ?_
   rw [← decC_eq]
   exact Nat.mod_lt _ decC_pos
  simp
  omega
theorem LRow.cellAt {w : World} {base : Nat} {e : TypeId} {g n cap : Nat} {xs : List Value} (h : LRow w base e 1 (.slice (some ⟨g, 0, none⟩) n cap) n xs) (j : Nat) (v : Value) (hj : xs[j]? = some v) : w.cell? ⟨g, j, none⟩ = some v := by
 have hc : ∀ j u, xs[j]? = some u → w.cell? ((⟨g, 0, none⟩ : Addr).add j) = some u := h.1.cells (g := g) rfl
 have := hc j v hj
 have e : (⟨g, 0, none⟩ : Addr).add j = ⟨g, j, none⟩ := by unfold Addr.add; split <;> simp_all
 rwa [e] at this
theorem noDig_string (s : ByteArray) : noDig (.string s) := fun _ => ⟨by simp, by simp⟩
theorem info_string : (Try.prog.info? 9).map (fun i => (i.zero, i.size, i.bytes)) = some (some (.string .empty), 1, 16) := by kernel_rfl
theorem cell_new1 (w : World) (a : Value) (t : TypeId) : ∀ j u, [a][j]? = some u → (w.alloc (.cells #[a] t)).cell? ((⟨w.heap.size, 0, none⟩ : Addr).add j) = some u := by
 intro j u hj
 match j, hj with
 | 0, hj => simp at hj; subst hj; simp [Addr.add]
 | j + 1, hj => simp at hj
def sliceLen : Value → Nat | .slice _ n _ => n | _ => 0
theorem LRow.form {w : World} {base : Nat} {e : TypeId} {size : Nat} {v : Value} {n : Nat} {xs : List Value} (h : LRow w base e size v n xs) : ∃ ao cap, v = .slice ao n cap ∧ (0 < n → ∃ g, ao = some ⟨g, 0, none⟩ ∧ g < w.heap.size ∧ base ≤ g) := by
 rcases h.1.2 with ⟨rfl, h0⟩ | ⟨g, cap, cur, rfl, hb, hg, _⟩
 ·
  exact ⟨none, 0, by rw [h0], fun h => absurd h (by omega)⟩
 ·
  exact ⟨_, _, rfl, fun _ => ⟨g, rfl, (Array.getElem?_eq_some_iff.1 hg).1, hb⟩⟩
theorem bw_any (q : Nat) (v : Value) (W : World) (h : IsNat .u64 b64 W v q) (hl : (dig b64 q).length ≤ 1099511627776) : Calls Try.prog 31 #[v, .int .u64 10000000000000000000] W (RetNatWord (q / decC) (q % decC) W) := by
 have h2 := byWord_any q decC v W h hl decC_pos (by unfold decC b64; omega)
 have e : ((decC : Nat) : Int) = 10000000000000000000 := rfl
 rw [e] at h2
 exact h2
theorem rep_any (c : Nat) (W : World) (hc : c ≤ 19) : Calls Try.prog 33 #[.string { data := #[48] }, .int .i64 (c : Int)] W (fun e w' => e = .returned (.string (strB (List.replicate c 48))) ∧ Below W.heap.size W w') := by
 have h := Try.strings_Repeat { data := #[48] } c W (by omega) (by show 1 * c ≤ _; omega)
 rw [show Lib.repeatL (ByteArray.mk #[48]).data.toList c = List.replicate c 48 from repeat_zero c] at h
 exact h
theorem write_any (B b : Nat) (l m : List UInt8) (W : World) (h : Lib.IsBuilder 88 5 B b (Lib.byteCells l) W) (hl : l.length + m.length ≤ 140737488355328) (hB : B ≤ W.heap.size) :
  Calls Try.prog 34 #[.pointer (some ⟨b, 0, none⟩), .string (strB m)] W (fun e w' => e = .returned (.tuple #[.int .i64 ((strB m).size : Int), .nilIface]) ∧ Lib.IsBuilder 88 5 B b (Lib.byteCells (l ++ m)) w' ∧ Below B W w') := by
 refine (Any.Builder_WriteString { Try.lays105 with } Try.Builder_Extra_105 B b (Lib.byteCells l) (strB m) W h (by rw [Lib.byteCells_length, strB_size]; exact hl) hB).mono fun e w' he => ?_
 obtain ⟨he, h1, h2⟩ := he
 refine ⟨he, .inr ?_, h2⟩
 have e2 : Lib.byteCells (l ++ m) = Lib.byteCells l ++ Lib.strCells (strB m) := by simp [Lib.byteCells, Lib.strCells, strB]
 rw [e2]
 exact h1
theorem new_builder (w : World) : Lib.IsBuilder 88 5 w.heap.size w.heap.size (Lib.byteCells []) (w.alloc (.cells #[.pointer none, .slice none 0 0] 88)) :=
 .inl ⟨Nat.le_refl _, _, blk_new w _ _, World.ownsRow_nil _ _ _ _, by simp [Value.ownBlock]⟩

theorem own_base {w : World} {base : Nat} {e : TypeId} {size : Nat} {v : Value} {n : Nat} {xs : List Value} (h : w.ownsRow base e size v n xs) : ∀ k, v.ownBlock = some k → base ≤ k := by
 intro k hk
 rcases h.2 with ⟨rfl, _⟩ | ⟨g, cap, cur, rfl, hb, _⟩
 ·
  simp [Value.ownBlock] at hk
 ·
  simp [Value.ownBlock] at hk
  omega
theorem decT_pos (n : Nat) (h : n ≠ 0) : decT n = decL n := by unfold decT; rw [if_neg h]
set_option maxRecDepth 100000 in
set_option maxHeartbeats 8000000 in
theorem text_any (n : Nat) (v : Value) (w : World) (h : IsNat .u64 b64 w v n) (hsz : (dig b64 n).length ≤ 68719476736) : Calls Try.prog 21 #[v] w (RetStr (decT n) w) := by
 have H := Lib.hid h
 have hd := digits_len n
 have HD := Lib.hid hd
 have HSZ := Lib.hid hsz
 obtain ⟨iS, hiS, hzS, hsS, hyS⟩ := info_parts info_string
 have hzd : ∀ u ∈ (Value.string ByteArray.empty).cells.toList, noDig u := by
  intro u hu
  simp [Value.cells] at hu
  subst hu
  exact noDig_string _
 clear h hd hsz
 have HN1 : Hid (n / decC ^ 0 = n) := by show _ = _; rw [Nat.pow_zero, Nat.div_one]
 have hvs : ∃ ao cap, v = .slice ao (dig b64 n).length cap := by obtain ⟨ao, cap, e, _⟩ := IsRow.opened H.out; exact ⟨ao, cap, e⟩
 obtain ⟨ao0, cap0, rfl⟩ := hvs
 go_enter Try.func21, Try.ntmps21
 go_wp2_with fail
 go_loopw [0, 3] (fun av pv wr => ∃ (k : Nat), IsNat .u64 b64 wr av (n / decC ^ k) ∧ (k = 0 ∨ n / decC ^ (k - 1) ≠ 0) ∧ Hid (LRow wr w.heap.size 9 1 pv k (partCells n k)) ∧ Below w.heap.size w wr)
  (fun _ pv _ => 1374389534721 - sliceLen pv)
 case atStart => exact ⟨0, by rw [HN1.out]; exact H.out, .inl rfl, LRow.nil _ _ _ _, Below.refl _ _⟩
 case round =>
  clear H
  obtain ⟨k, hA, hk, hL, hbel⟩ := hrel
  have HK := Lib.hid hk
  obtain ⟨ao, cap, rfl, hg⟩ := hL.out.form
  have HA := Lib.hid hA
  obtain ⟨aa, ca, rfl, _⟩ := IsRow.opened hA
  clear hA hk
  by_cases h0 : n / decC ^ k = 0
  ·
   have Hq0 := Lib.hid h0
   rw [h0, dig_zero, List.length_nil]
   clear h0 HA
   by_cases hk0 : k = 0
   ·
    have Hn : Hid (decT n = [48]) := by
     show _ = _
     have : n = 0 := by have := Hq0.out; rw [hk0, HN1.out] at this; exact this
     rw [this]; rfl
    subst hk0
    go_wp2_with fail
    go_ret
    exact ⟨by rw [Hn.out]; rfl, hbel⟩
   ·
    have hn0 : Hid (n ≠ 0) := by
     show n ≠ 0
     rintro rfl
     rcases HK.out with h | h
     ·
      exact hk0 h
     ·
      exact h (Nat.zero_div _)
    have Hkb : Hid (k ≤ 1374389534720) := by
     show _ ≤ _
     rcases HK.out with h | h
     ·
      omega
     ·
      have := parts_len n (k - 1) h; have := HSZ.out; omega
    have tk : ((k : Int) == 0) = false := beq_eq_false_iff_ne.2 (by omega)
    obtain ⟨g, rfl, hgl, hgb⟩ := hg (by omega)
    have hkb := Hkb.out
    have ek : IntKind.i64.wrap ((k : Int) - 1) = (k : Int) - 1 := IntWalk.i64_in _ (by omega)
    obtain ⟨kp, hkp⟩ : ∃ z : Int, z = (k : Int) - 1 := ⟨_, rfl⟩
    have HKP := Lib.hid hkp
    rw [← hkp] at ek
    have ek2 : IntKind.i64.wrap ((k : Int) - 1) = kp := by rw [hkp]; exact IntWalk.i64_in _ (by omega)
    have hnb := new_builder wr
    have hal := (Below.refl wr.heap.size wr).alloc (Nat.le_refl _) (.cells #[.pointer none, .slice none 0 0] 88)
    have HL1 := Lib.hid (hL.out.below hal)
    have hx1 := ext_trans hbel hal
    have hBs : wr.heap.size < (wr.alloc (.cells #[.pointer none, .slice none 0 0] 88)).heap.size := by simp
    have HNB := Lib.hid hnb
    have hwB := hbel.size
    clear ek hkp hkb hL hbel hnb
    go_wp2_with fail
    generalize wr.alloc (.cells #[.pointer none, .slice none 0 0] 88) = W1 at *
    generalize wr.heap.size = B at *
    go_loopw [8] (fun iv wx => ∃ (j : Nat) (z : Int), z = (j : Int) - 1 ∧ j ≤ k ∧ iv = .int .i64 z ∧ Hid (Lib.IsBuilder 88 5 B B (Lib.byteCells (decL (n / decC ^ j))) wx) ∧ Below B W1 wx) (fun iv _ => (intOf iv + 1).toNat)
    case atStart => exact ⟨k, _, HKP.out, Nat.le_refl _, rfl, by rw [Hq0.out]; exact HNB.out, Below.refl _ _⟩
    case round =>
     clear HNB hal
     obtain ⟨j, z, hz, hj, rfl, hIB, hbx⟩ := hrel
     have hBx : B < wr.heap.size := Nat.lt_of_lt_of_le hBs hbx.size
     have hgx : g < B := hgl
     have hxx : Below w.heap.size w wr := hx1.trans (hbx.mono hwB)
     by_cases hj0 : j = 0
     ·
      have t9 : decide (z ≥ 0) = false := decide_eq_false (by omega)
      have hs := fun h => Try.Builder_String_any B B (decL n) wr h (Nat.le_of_lt hBx)
      have HS := Lib.hid (hs (by have := hIB.out; rw [hj0, HN1.out] at this; exact this))
      have HT := Lib.hid (decT_pos n hn0.out)
      clear hs hz hj0 hIB
      go_wp2_with fail
      refine HS.out.mono ?_
      rintro e w3 ⟨rfl, hb3⟩
      go_wp2_with fail
      go_ret
      exact ⟨by rw [HT.out]; rfl, hxx.trans (hb3.mono (by omega))⟩
     ·
      obtain ⟨i, rfl⟩ : ∃ i, j = i + 1 := ⟨j - 1, by omega⟩
      obtain rfl : z = (i : Int) := by omega
      have t9 : decide ((i : Int) ≥ 0) = true := decide_eq_true (by omega)
      have hi0 : (0 : Int) ≤ i := by omega
      have hik : (i : Int) < k := by omega
      have hce : (partCells n k)[i]? = some (.string (strB (partL n i))) := by
       unfold partCells
       rw [List.getElem?_map, List.getElem?_range (by omega)]
       rfl
      have c0 := HL1.out.cellAt i _ hce
      have c1 : wr.cell? ⟨g, i, none⟩ = some (.string (strB (partL n i))) := (hbx.cell (p := ⟨g, i, none⟩) hgx).trans c0
      have c2 : wr.cell? ⟨g, 0 + i, none⟩ = some (.string (strB (partL n i))) := by rw [Nat.zero_add]; exact c1
      have hps := Lib.hid (partL_step n i)
      have hlen1 := partL_len n i
      have hlen2 : (decL (n / decC ^ (i + 1))).length ≤ (dig 10 n).length := by rw [decL_length]; exact dig_length_mono ten_two (Nat.div_le_self _ _)
      have HW := Lib.hid (write_any B B (decL (n / decC ^ (i + 1))) (partL n i) wr hIB.out (by have := HD.out; have := HSZ.out; omega) (Nat.le_of_lt hBx))
      clear c0 hce hz hj0 hIB hlen1 hlen2
      generalize partL n i = pp at *
      go_wp2_with fail
      refine HW.out.mono ?_
      rintro e w3 ⟨rfl, hib3, hb3⟩
      rw [hps.out] at hib3
      have HIB := Lib.hid hib3
      have e1 : IntKind.i64.wrap ((i : Int) - 1) = (i : Int) - 1 := IntWalk.i64_in _ (by have := Hkb.out; omega)
      have e2 : Hid (((intOf (.int .i64 ((i : Int) - 1))) + 1).toNat < ((intOf (.int .i64 (i : Int))) + 1).toNat) := by show _ < _; simp [intOf] <;> omega
      clear hib3
      go_wp2_with fail
      exact ⟨⟨i, (i : Int) - 1, rfl, by omega, rfl, HIB.out, hbx.trans hb3⟩, e2.out⟩
  ·
   have hlen : 0 < (dig b64 (n / decC ^ k)).length := by
    rcases Nat.eq_zero_or_pos (dig b64 (n / decC ^ k)).length with h | h
    ·
     exact absurd ((dig_nil_iff b64_two _).1 (List.eq_nil_of_length_eq_zero h)) h0
    ·
     exact h
   have t1 : decide (0 < (dig b64 (n / decC ^ k)).length) = true := decide_eq_true hlen
   have hLq : (dig b64 (n / decC ^ k)).length ≤ (dig b64 n).length := dig_length_mono b64_two (Nat.div_le_self _ _)
   have hpl := parts_len n k h0
   have Hk1 : Hid (n / decC ^ (k + 1 - 1) ≠ 0) := by show _ ≠ _; rw [Nat.add_sub_cancel]; exact h0
   have Hsu := Lib.hid (partCells_succ n k)
   have Hpd : Hid (n / decC ^ (k + 1) = n / decC ^ k / decC) := by show _ = _; rw [Nat.div_div_eq_div_mul, Nat.pow_succ]
   have Hpl : Hid (partL n k = if n / decC ^ k / decC = 0 then decL (n / decC ^ k) else decZ 19 (n / decC ^ k % decC)) := rfl
   have hkb : k ≤ 1374389534720 := by have := HSZ.out; omega
   have HBW := Lib.hid (fun W h => bw_any (n / decC ^ k) (.slice aa (dig b64 (n / decC ^ k)).length ca) W h (by have := HSZ.out; omega))
   clear hlen hLq hpl h0 hg
   generalize hPK : partL n k = pk at *
   generalize n / decC ^ k = q at *
   clear hPK
   go_wp2_with fail
   refine (HBW.out _ HA.out).mono ?_
   rintro e w1 ⟨vq, rfl, hvq, hb1⟩
   have HVQ := Lib.hid hvq
   obtain ⟨aq, cq, rfl, _⟩ := IsRow.opened hvq
   have hr : q % decC < decC := Nat.mod_lt _ decC_pos
   have HL1 := Lib.hid (hL.out.below hb1)
   have hx1 := ext_trans hbel hb1
   clear hvq hb1 hL hbel HBW t1
   go_wp2_with fail
   refine (decimal_any (q % decC) _ (Nat.lt_trans hr (by unfold decC b64; omega))).mono ?_
   rintro e w2 ⟨rfl, hb2⟩
   have HL2 := Lib.hid (HL1.out.below hb2)
   have HVQ2 := Lib.hid (HVQ.out.below hb2)
   have hx2 := ext_trans hx1 hb2
   clear HL1 HVQ hx1 hb2
   by_cases h1 : q / decC = 0
   ·
    have hL0 : (dig b64 (q / decC)).length = 0 := by rw [h1]; rfl
    have Hpk : Hid (pk = decL (q % decC)) := by
     show _ = _
     rw [Hpl.out, if_pos h1]
     rcases Nat.lt_or_ge q decC with h | h
     ·
      rw [Nat.mod_eq_of_lt h]
     ·
      exact absurd (Nat.div_pos h decC_pos) (by omega)
    rw [hL0] at HVQ2 ⊢
    generalize decL (q % decC) = m at *
    have HL3 := Lib.hid (HL2.out.below ((Below.refl w2.heap.size w2).alloc (Nat.le_refl _) (.cells #[.string (strB m)] 9)))
    have hx3 := hx2.alloc hx2.size (.cells #[.string (strB m)] 9)
    have hsz2 := hx2.size
    clear hr h1 hL0
    have HVQ3 := Lib.hid (HVQ2.out.below ((Below.refl w2.heap.size w2).alloc (Nat.le_refl _) (.cells #[.string (strB m)] 9)))
    go_wp2_with (at_builtin; refine wpList_append_lrow _ rfl (.tmp 28) (.tmp 30) 79 rfl w.heap.size 9 iS _ 1 16 Try.underlying79 hiS hzS hsS hyS rfl (by decide) hzd _ _ _ rfl HL3.out ⟨w2.heap.size, 0, none⟩ 1 1 [.string (strB m)] rfl rfl (cell_new1 _ _ _) (by simp [Value.oneCell']) (by intro u hu; simp at hu; subst hu; exact noDig_string _) (by omega) (by unfold maxLen; omega) (by omega) (by simp; omega) ?_)
    intro g' cap' w3 hL4 hgr hat
    have HL4 := Lib.hid hL4
    have hx4 : Below w.heap.size w w3 := hx3.grown hgr (by simp; omega) (own_base HL3.out.1)
    have HVQ4 := Lib.hid (IsRow.grown (.inl rfl) (HVQ3.out) hgr HL3.out.2)
    clear hL4 hx3
    go_wp2_with fail
    exact ⟨⟨k + 1, by rw [Hpd.out]; exact HVQ4.out, .inr Hk1.out, by rw [Hsu.out, Hpk.out]; exact HL4.out, hx4⟩, by show 1374389534721 - (k + 1) < 1374389534721 - k; omega⟩
   ·
    have hl2 : 0 < (dig b64 (q / decC)).length := by
     rcases Nat.eq_zero_or_pos (dig b64 (q / decC)).length with h | h
     ·
      exact absurd ((dig_nil_iff b64_two _).1 (List.eq_nil_of_length_eq_zero h)) h1
     ·
      exact h
    have t2 : decide (0 < (dig b64 (q / decC)).length) = true := decide_eq_true hl2
    have Hpk : Hid (pk = decZ 19 (q % decC)) := by show _ = _; rw [Hpl.out, if_neg h1]
    have hm19 : (decL (q % decC)).length ≤ 19 := by
     rw [decL_length]
     exact dig_length_le ten_two 19 _ (by rw [← decC_eq]; exact hr)
    have Hz : Hid (decZ 19 (q % decC) = List.replicate (19 - (decL (q % decC)).length) 48 ++ decL (q % decC)) := rfl
    generalize decL (q % decC) = m at *
    obtain ⟨c, hc⟩ : ∃ c, m.length + c = 19 := ⟨19 - m.length, by omega⟩
    have hsm : (strB m).size = m.length := rfl
    have e1 : IntKind.i64.wrap (19 - ((strB m).size : Int)) = (c : Int) := by rw [hsm, show (19 : Int) - (m.length : Int) = (c : Int) by omega]; exact IntWalk.i64_in _ (by omega)
    have hcat : strB (List.replicate c 48) ++ strB m = strB pk := by rw [strB_append, Hpk.out, Hz.out, show 19 - m.length = c by omega]
    have hc19 : c ≤ 19 := by omega
    have hz1 : (strB (List.replicate c 48)).size ≤ 19 := by rw [strB_size, List.length_replicate]; exact hc19
    have hz2 : (strB m).size ≤ 19 := by rw [strB_size]; omega
    clear hr h1 hl2 hm19 hc hsm Hz
    go_wp2_with fail
    refine (rep_any c _ hc19).mono ?_
    rintro e w2' ⟨rfl, hb3⟩
    have HL3 := Lib.hid ((HL2.out.below hb3).below ((Below.refl w2'.heap.size w2').alloc (Nat.le_refl _) (.cells #[.string (strB pk)] 9)))
    have HVQ3 := Lib.hid ((HVQ2.out.below hb3).below ((Below.refl w2'.heap.size w2').alloc (Nat.le_refl _) (.cells #[.string (strB pk)] 9)))
    have hx2' := ext_trans hx2 hb3
    have hx3 := hx2'.alloc hx2'.size (.cells #[.string (strB pk)] 9)
    have hsz2 := hx2'.size
    clear hb3 hx2 hx2'
    go_wp2_with (at_builtin; refine wpList_append_lrow _ rfl (.tmp 28) (.tmp 30) 79 rfl w.heap.size 9 iS _ 1 16 Try.underlying79 hiS hzS hsS hyS rfl (by decide) hzd _ _ _ rfl HL3.out ⟨w2'.heap.size, 0, none⟩ 1 1 [.string (strB pk)] rfl rfl (cell_new1 _ _ _) (by simp [Value.oneCell']) (by intro u hu; simp at hu; subst hu; exact noDig_string _) (by omega) (by unfold maxLen; omega) (by omega) (by simp; omega) ?_)
    intro g' cap' w3 hL4 hgr hat
    have HL4 := Lib.hid hL4
    have hx4 : Below w.heap.size w w3 := hx3.grown hgr (by simp; omega) (own_base HL3.out.1)
    have HVQ4 := Lib.hid (IsRow.grown (.inl rfl) (HVQ3.out) hgr HL3.out.2)
    clear hL4 hx3
    go_wp2_with fail
    exact ⟨⟨k + 1, by rw [Hpd.out]; exact HVQ4.out, .inr Hk1.out, by rw [Hsu.out]; exact HL4.out, hx4⟩, by show 1374389534721 - (k + 1) < 1374389534721 - k; omega⟩

theorem decT_len (n : Nat) (h : (dig b64 n).length ≤ 68719476736) : (strB (decT n)).size ≤ 1374389534720 := by
 have := digits_len n
 rw [strB_size]
 unfold decT
 split
 ·
  simp
 ·
  rw [decL_length]; omega

set_option maxRecDepth 100000 in
set_option maxHeartbeats 4000000 in
theorem textRat_any (q : Rat) (v : Value) (w : World) (h : IsRat w v q) (hs : szR q 68719476736) : Calls Try.prog 11 #[v] w (RetStr (txtQ q) w) := by
 obtain ⟨a1, c1, a2, c2, rfl, n1, n2⟩ := h.opened
 have N1 := Lib.hid n1
 have N2 := Lib.hid n2
 have HS := Lib.hid hs
 have hB := blk_new w #[.bool (decide (q.num < 0)), .slice a1 (dig b64 q.num.natAbs).length c1, .slice a2 (dig b64 (dn q.den)).length c2] 45
 have hal := (Below.refl w.heap.size w).alloc (Nat.le_refl _) (.cells #[.bool (decide (q.num < 0)), .slice a1 (dig b64 q.num.natAbs).length c1, .slice a2 (dig b64 (dn q.den)).length c2] 45)
 have hT1 := text_any q.num.natAbs (.slice a1 (dig b64 q.num.natAbs).length c1) _ (n1.below hal) hs.1
 have HT1 := Lib.hid hT1
 clear h n1 n2 hs hT1
 have Htx : Hid (txtQ q = (if q.num < 0 then [45] else []) ++ (decT q.num.natAbs ++ (if q.den = 1 then [] else 47 :: decT q.den))) := rfl
 go_enter Try.func11, Try.ntmps11
 go_wp2_with fail
 refine HT1.out.mono ?_
 rintro e w1 ⟨rfl, hb1⟩
 have hB1 := blk_keep hB hb1 (blk_lt hB)
 have hx1 := ext_trans hal hb1
 have p0 := blk_cell hB1 0 (.bool (decide (q.num < 0))) rfl
 have p2 := blk_cell hB1 2 (.slice a2 (dig b64 (dn q.den)).length c2) rfl
 have HN2 := Lib.hid (N2.out.below hx1)
 clear hB hB1 hal hb1 HT1
 have hz1 := decT_len q.num.natAbs HS.out.1
 have ho1 : (ByteArray.mk #[45]).size = 1 := rfl
 have ho2 : (ByteArray.mk #[47]).size = 1 := rfl
 by_cases hneg : q.num < 0
 ·
  have tn : decide (q.num < 0) = true := decide_eq_true hneg
  have Hneg := Lib.hid hneg
  rw [tn] at p0 ⊢
  clear hneg tn
  by_cases hd : q.den = 1
  ·
   have hdn : dn q.den = 0 := by simp [dn, hd]
   rw [hdn] at p2 ⊢
   rw [dig_zero, List.length_nil] at p2 ⊢
   have Htx2 : Hid (txtQ q = [45] ++ decT q.num.natAbs) := by show _ = _; rw [Htx.out, if_pos Hneg.out, if_pos hd, List.append_nil]
   clear hd hdn Htx HN2 N2
   have hcat : ByteArray.mk #[45] ++ strB (decT q.num.natAbs) = strB (txtQ q) := by rw [show ByteArray.mk #[45] = strB [45] from rfl, strB_append, Htx2.out]
   go_wp2_with fail
   go_ret
   exact ⟨rfl, hx1⟩
  ·
   have hdn : dn q.den = q.den := by simp [dn, hd]
   rw [hdn] at p2 HN2 ⊢
   have hlen : 0 < (dig b64 q.den).length := by
    rcases Nat.eq_zero_or_pos (dig b64 q.den).length with h | h
    ·
     exact absurd ((dig_nil_iff b64_two _).1 (List.eq_nil_of_length_eq_zero h)) (by have := q.den_pos; omega)
    ·
     exact h
   have tl : decide (0 < (dig b64 q.den).length) = true := decide_eq_true hlen
   have Htx2 : Hid (txtQ q = [45] ++ (decT q.num.natAbs ++ 47 :: decT q.den)) := by show _ = _; rw [Htx.out, if_pos Hneg.out, if_neg hd]
   have hz2 := decT_len q.den HS.out.2
   have HT2 := Lib.hid (text_any q.den _ _ HN2.out HS.out.2)
   have hcat2 : ByteArray.mk #[47] ++ strB (decT q.den) = strB (47 :: decT q.den) := by rw [show ByteArray.mk #[47] = strB [47] from rfl, strB_append]; rfl
   have hz3 : (strB (47 :: decT q.den)).size ≤ 1374389534721 := by rw [strB_size] at hz2 ⊢; rw [List.length_cons]; omega
   have hcat1 : ByteArray.mk #[45] ++ strB (decT q.num.natAbs) = strB (45 :: decT q.num.natAbs) := by rw [show ByteArray.mk #[45] = strB [45] from rfl, strB_append]; rfl
   have hcat3 : strB (45 :: decT q.num.natAbs) ++ strB (47 :: decT q.den) = strB (txtQ q) := by rw [strB_append, Htx2.out]; rfl
   have hz4 : (strB (45 :: decT q.num.natAbs)).size ≤ 1374389534721 := by rw [strB_size] at hz1 ⊢; rw [List.length_cons]; omega
   clear hd hdn Htx hlen HN2 N2
   go_wp2_with fail
   refine HT2.out.mono ?_
   rintro e w2 ⟨rfl, hb2⟩
   go_wp2_with fail
   go_ret
   exact ⟨rfl, ext_trans hx1 hb2⟩
 ·
  have tn : decide (q.num < 0) = false := decide_eq_false hneg
  have Hneg := Lib.hid hneg
  rw [tn] at p0 ⊢
  clear hneg tn
  by_cases hd : q.den = 1
  ·
   have hdn : dn q.den = 0 := by simp [dn, hd]
   rw [hdn] at p2 ⊢
   rw [dig_zero, List.length_nil] at p2 ⊢
   have Htx2 : Hid (txtQ q = decT q.num.natAbs) := by show _ = _; rw [Htx.out, if_neg Hneg.out, if_pos hd, List.append_nil]; rfl
   clear hd hdn Htx HN2 N2
   go_wp2_with fail
   go_ret
   exact ⟨by rw [Htx2.out]; rfl, hx1⟩
  ·
   have hdn : dn q.den = q.den := by simp [dn, hd]
   rw [hdn] at p2 HN2 ⊢
   have hlen : 0 < (dig b64 q.den).length := by
    rcases Nat.eq_zero_or_pos (dig b64 q.den).length with h | h
    ·
     exact absurd ((dig_nil_iff b64_two _).1 (List.eq_nil_of_length_eq_zero h)) (by have := q.den_pos; omega)
    ·
     exact h
   have tl : decide (0 < (dig b64 q.den).length) = true := decide_eq_true hlen
   have Htx2 : Hid (txtQ q = decT q.num.natAbs ++ 47 :: decT q.den) := by show _ = _; rw [Htx.out, if_neg Hneg.out, if_neg hd]; rfl
   have hz2 := decT_len q.den HS.out.2
   have HT2 := Lib.hid (text_any q.den _ _ HN2.out HS.out.2)
   have hcat2 : ByteArray.mk #[47] ++ strB (decT q.den) = strB (47 :: decT q.den) := by rw [show ByteArray.mk #[47] = strB [47] from rfl, strB_append]; rfl
   have hz3 : (strB (47 :: decT q.den)).size ≤ 1374389534721 := by rw [strB_size] at hz2 ⊢; rw [List.length_cons]; omega
   have hcat3 : strB (decT q.num.natAbs) ++ strB (47 :: decT q.den) = strB (txtQ q) := by rw [strB_append, Htx2.out]
   clear hd hdn Htx hlen HN2 N2
   go_wp2_with fail
   refine HT2.out.mono ?_
   rintro e w2 ⟨rfl, hb2⟩
   go_wp2_with fail
   go_ret
   exact ⟨rfl, ext_trans hx1 hb2⟩

end Go.Proofs.Ytnjpkfccncjkhaa

namespace Go.Proofs.Ytnjpkfccncjkhaa
open Go.RowKit

theorem pt_fields : (Try.prog.fieldsOf 36).toList = [{ name := "X", type := 3, offset := 0, embedded := false, tag := "", pkgPath := "", byteOffset := 0 }, { name := "Y", type := 3, offset := 1, embedded := false, tag := "", pkgPath := "", byteOffset := 8 }] := by kernel_rfl
set_option maxRecDepth 100000 in
theorem eql_pt (a b c d : Int) (w : World) : (binOp .eql 36 (.agg #[.int .i64 a, .int .i64 b]) (.agg #[.int .i64 c, .int .i64 d])).run Try.prog w = .ok (.bool (a == c && b == d)) w := by
 rw [run_eql_struct, run_equalIn_struct w 9999 36 _ _ (by kernel_rfl) (by kernel_rfl), pt_fields]
 have n0 : ("X" ≠ "_") := by decide
 have n1 : ("Y" ≠ "_") := by decide
 unfold Op.eqFields
 rw [if_pos n0]
 simp only [Sem.run_bind, (part2 _ _ _).1, eqInt, Result.andThen_ok, Sem.run_ite]
 cases a == c with
 | false => simp
 | true =>
  unfold Op.eqFields
  rw [if_pos n1]
  simp only [Sem.run_bind, (part2 _ _ _).2, eqInt, Result.andThen_ok, Sem.run_ite]
  unfold Op.eqFields
  by_cases h : b = d <;> simp [h]

def ptsA : List Pt := [(0, 0), (10, 0), (0, 10)]
def crsA : Crs := ⟨0, 2, 6, 1, 0, 10⟩
theorem outErr_A : outErr ptsA = 0 := by
 refine outErr_ok _ (by decide) (by decide) ?_
 intro k hk j hj i hi
 have : k = 2 := by simp [ptsA] at hk; omega
 subst this
 obtain rfl : j = 1 := by omega
 obtain rfl : i = 0 := by omega
 decide
theorem areaQ_A : areaQ ptsA = 50 := by decide +kernel
theorem txt_50 : strB (txtQ 50) = { data := #[53, 48] } := by decide +kernel
theorem towsErr_A : towsErr [crsA] = 0 := by decide +kernel
theorem towsVal_A : towsVal [crsA] = [(0, 0, 10, 6), (0, 7, 10, 13)] := by decide +kernel
theorem pts_new3 (w : World) (a b c d e f : Int) (t : TypeId) : PairsOf (w.alloc (.cells #[.int .i64 a, .int .i64 b, .int .i64 c, .int .i64 d, .int .i64 e, .int .i64 f] t)) (.slice (some ⟨w.heap.size, 0, none⟩) 3 3) [(a, b), (c, d), (e, f)] := by
 have hB := blk_new w #[.int .i64 a, .int .i64 b, .int .i64 c, .int .i64 d, .int .i64 e, .int .i64 f] t
 refine ⟨_, 3, rfl, fun _ => ⟨w.heap.size, 0, rfl, blk_lt hB, fun i hi => ?_⟩⟩
 match i, hi with
 | 0, _ => exact ⟨blk_cell hB 0 _ rfl, blk_cell hB 1 _ rfl⟩
 | 1, _ => exact ⟨blk_cell hB 2 _ rfl, blk_cell hB 3 _ rfl⟩
 | 2, _ => exact ⟨blk_cell hB 4 _ rfl, blk_cell hB 5 _ rfl⟩
 | i + 3, hi => simp at hi; omega
theorem crs_new1 (w : World) (c : Crs) (t : TypeId) : CrsOf (w.alloc (.cells #[.int .i64 c.first, .int .i64 c.tows, .int .i64 c.width, .int .i64 c.gap, .int .i64 c.from_, .int .i64 c.to_] t)) (.slice (some ⟨w.heap.size, 0, none⟩) 1 1) [c] := by
 have hB := blk_new w #[.int .i64 c.first, .int .i64 c.tows, .int .i64 c.width, .int .i64 c.gap, .int .i64 c.from_, .int .i64 c.to_] t
 refine ⟨_, 1, rfl, fun _ => ⟨w.heap.size, 0, rfl, blk_lt hB, fun i hi => ?_⟩⟩
 match i, hi with
 | 0, _ => exact ⟨blk_cell hB 0 _ rfl, blk_cell hB 1 _ rfl, blk_cell hB 2 _ rfl, blk_cell hB 3 _ rfl, blk_cell hB 4 _ rfl, blk_cell hB 5 _ rfl⟩
 | i + 1, hi => simp at hi

set_option maxRecDepth 100000 in
set_option maxHeartbeats 1000000 in
theorem awake03_any (w : World) : Calls Try.prog 4 #[] w (RetBool true w) := by
 have HT : Hid (∀ W, Calls Try.prog 8 #[.agg #[.int .i64 3, .int .i64 4], .agg #[.int .i64 2, .int .i64 1]] W (fun e w' => e = .returned (.tuple #[.agg #[.int .i64 10, .int .i64 (-5)], .int .i64 0]) ∧ Below W.heap.size W w')) := fun W => turned_ok (3, 4) (2, 1) W (by decide) (by decide) (by decide) (by decide) (by decide)
 have HA : Hid (∀ W v, PairsOf W v ptsA → Calls Try.prog 9 #[v] W (RetRatE 50 0 W)) := fun W v h => by
  have := layupArea_ok ptsA v W h outErr_A
  rw [areaQ_A] at this
  exact this
 have HW : Hid (∀ W v, CrsOf W v [crsA] → Calls Try.prog 10 #[v] W (fun e w' => ∃ v, e = .returned (.tuple #[v, .int .i64 0]) ∧ BxsOf w' v [(0, 0, 10, 6), (0, 7, 10, 13)] ∧ Below W.heap.size W w')) := fun W v h => by
  have := tows_any [crsA] v W h
  unfold RetTows at this
  rw [towsErr_A, towsVal_A] at this
  exact this
 have HX : Hid (∀ W v, IsRat W v 50 → Calls Try.prog 11 #[v] W (fun e w' => e = .returned (.string { data := #[53, 48] }) ∧ Below W.heap.size W w')) := fun W v h => by
  have := textRat_any 50 v W h (i64_szR 50 (by omega) (by omega) _ (by omega))
  unfold RetStr at this
  rw [txt_50] at this
  exact this
 have he := eql_pt 10 (-5) 10 (-5)
 rw [show ((10 : Int) == 10 && (-5 : Int) == -5) = true from rfl] at he
 go_enter Try.func4, Try.ntmps4
 go_wp2_with fail
 refine (HT.out _).mono ?_
 rintro e w1 ⟨rfl, hb1⟩
 have hP := blk_new w1 #[.int .i64 10, .int .i64 (-5)] 36
 have hx1 := hb1.alloc hb1.size (.cells #[.int .i64 10, .int .i64 (-5)] 36)
 have hPl : w1.heap.size < (w1.alloc (.cells #[.int .i64 10, .int .i64 (-5)] 36)).heap.size := by simp
 clear hb1
 have hPA := pts_new3 (w1.alloc (.cells #[.int .i64 10, .int .i64 (-5)] 36)) 0 0 10 0 0 10 36
 rw [World.size_alloc] at hPA
 have HPA := Lib.hid hPA
 clear hPA
 have hP2 := blk_keep hP ((Below.refl _ _).alloc (Nat.le_refl _) (.cells #[.int .i64 0, .int .i64 0, .int .i64 10, .int .i64 0, .int .i64 0, .int .i64 10] 36)) hPl
 have hx2 := hx1.alloc hx1.size (.cells #[.int .i64 0, .int .i64 0, .int .i64 10, .int .i64 0, .int .i64 0, .int .i64 10] 36)
 clear hx1 hP hPl
 go_wp2_with fail
 refine (HA.out _ _ HPA.out).mono ?_
 rintro e w2 ⟨va, rfl, hva, hb2⟩
 have hP3 := blk_keep hP2 hb2 (blk_lt hP2)
 have hx3 := ext_trans hx2 hb2
 obtain ⟨a5, c5, a6, c6, rfl, _, _⟩ := hva.opened
 have HVA := Lib.hid hva
 clear hP2 hb2 hx2 hva HPA
 generalize hq : (50 : Rat) = q at *
 clear hq
 have hal4 := (Below.refl w2.heap.size w2).alloc (Nat.le_refl _) (.cells #[.bool (decide (q.num < 0)), .slice a5 (dig b64 q.num.natAbs).length c5, .slice a6 (dig b64 (dn q.den)).length c6] 45)
 have hQ := blk_new w2 #[.bool (decide (q.num < 0)), .slice a5 (dig b64 q.num.natAbs).length c5, .slice a6 (dig b64 (dn q.den)).length c6] 45
 have hP4 := blk_keep hP3 hal4 (blk_lt hP3)
 have hx4 := ext_trans hx3 hal4
 have HVA4 := Lib.hid (HVA.out.below hal4)
 clear hP3 hx3 hal4 HVA
 have hCA := (crs_new1 (w2.alloc (.cells #[.bool (decide (q.num < 0)), .slice a5 (dig b64 q.num.natAbs).length c5, .slice a6 (dig b64 (dn q.den)).length c6] 45)) crsA 52)
 rw [World.size_alloc] at hCA
 have HCA := Lib.hid hCA
 clear hCA
 have hal5 := (Below.refl (w2.alloc (.cells #[.bool (decide (q.num < 0)), .slice a5 (dig b64 q.num.natAbs).length c5, .slice a6 (dig b64 (dn q.den)).length c6] 45)).heap.size (w2.alloc (.cells #[.bool (decide (q.num < 0)), .slice a5 (dig b64 q.num.natAbs).length c5, .slice a6 (dig b64 (dn q.den)).length c6] 45))).alloc (Nat.le_refl _) (.cells #[.int .i64 0, .int .i64 2, .int .i64 6, .int .i64 1, .int .i64 0, .int .i64 10] 52)
 have hQ5 := blk_keep hQ hal5 (blk_lt hQ)
 have hP5 := blk_keep hP4 hal5 (blk_lt hP4)
 have hx5 := ext_trans hx4 hal5
 have HVA5 := Lib.hid (HVA4.out.below hal5)
 clear hQ hP4 hx4 hal5 HVA4
 go_wp2_with fail
 refine (HW.out _ _ HCA.out).mono ?_
 rintro e w6 ⟨vt, rfl, hvt, hb6⟩
 obtain ⟨ao, cap, rfl, hB⟩ := hvt
 obtain ⟨b, off, rfl, hbl, hBB⟩ := hB (by simp)
 obtain ⟨_, hy, _, _⟩ := hBB 1 (by simp)
 have hy2 : w6.cell? ⟨b, off + 4 + 1, none⟩ = some (.int .i64 7) := hy
 have hQ6 := blk_keep hQ5 hb6 (blk_lt hQ5)
 have hP6 := blk_keep hP5 hb6 (blk_lt hP5)
 have hx6 := ext_trans hx5 hb6
 have HVA6 := Lib.hid (HVA5.out.below hb6)
 have p0 := blk_cell hP6 0 (.int .i64 10) rfl
 have p1 := blk_cell hP6 1 (.int .i64 (-5)) rfl
 have q0 := blk_cell hQ6 0 (.bool (decide (q.num < 0))) rfl
 have q1 := blk_cell hQ6 1 (.slice a5 (dig b64 q.num.natAbs).length c5) rfl
 have q2 := blk_cell hQ6 2 (.slice a6 (dig b64 (dn q.den)).length c6) rfl
 clear hQ5 hP5 hx5 hb6 HVA5 HCA hQ6 hP6 hBB hB hy
 go_wp2_with fail
 refine (HX.out _ _ HVA6.out).mono ?_
 rintro e w7 ⟨rfl, hb7⟩
 have hy3 := (hb7.cell (p := ⟨b, off + 4 + 1, none⟩) hbl).trans hy2
 have hx7 := ext_trans hx6 hb7
 clear p0 p1 q0 q1 q2 hy2 hx6 hb7
 go_wp2_with fail
 go_ret
 exact ⟨rfl, hx7⟩

end Go.Proofs.Ytnjpkfccncjkhaa

namespace Go.Proofs.Ytnjpkfccncjkhaa
open Go.RowKit

def U8At (w : World) (b o : Nat) (r : Int × Int) : Prop := w.cell? ⟨b, o, none⟩ = some (.int .u8 r.1) ∧ w.cell? ⟨b, o + 1, none⟩ = some (.int .u8 r.2)
def byteU (x : Int) : Prop := 0 ≤ x ∧ x ≤ 255
def U8sOf (w : World) (v : Value) (ps : List (Int × Int)) : Prop :=
 ∃ ao cap, v = .slice ao ps.length cap ∧ (0 < ps.length → ∃ b off, ao = some ⟨b, off, none⟩ ∧ b < w.heap.size ∧ ∀ i, i < ps.length → U8At w b (off + i * 2) (ps.getD i (0, 0)) ∧ byteU (ps.getD i (0, 0)).1 ∧ byteU (ps.getD i (0, 0)).2)
theorem U8At.below {w w' : World} {b o : Nat} {r : Int × Int} (h : U8At w b o r) (hb : Below w.heap.size w w') (hl : b < w.heap.size) : U8At w' b o r :=
 ⟨(hb.cell (p := ⟨b, o, none⟩) hl).trans h.1, (hb.cell (p := ⟨b, o + 1, none⟩) hl).trans h.2⟩
theorem U8sOf.by2 {w : World} {v : Value} {ps : List (Int × Int)} (h : U8sOf w v ps) : by2 ps := fun i hi => by
 obtain ⟨ao, cap, rfl, h⟩ := h
 obtain ⟨b, off, _, _, h⟩ := h (by omega)
 exact (h i hi).2
theorem pcs_take (m : Int) (ps : List (Int × Int)) (i : Nat) (hi : i < ps.length) : pairCells ((pcsZ m ps).take (i + 1)) = pairCells ((pcsZ m ps).take i) ++ [.int .i64 (1 + (ps.getD i (0, 0)).1), .int .i64 (1 + (ps.getD i (0, 0)).2 % m)] := by
 rw [pairCells_take _ i (by rw [pcsZ_length]; exact hi)]
 have h := pcsZ_get m ps i hi
 unfold gP at h
 rw [h]
 rfl
theorem pcs_long (m : Int) (ps : List (Int × Int)) (i : Nat) (hi : i < ps.length) : longZ (pcsZ m ps) (i + 1) = max (longZ (pcsZ m ps) i) (1 + (ps.getD i (0, 0)).1) := by
 simp only [longZ]
 rw [pcsZ_get m ps i hi]
 rfl
theorem pcs_area (m : Int) (ps : List (Int × Int)) (i : Nat) (hi : i < ps.length) : areaZ (pcsZ m ps) (i + 1) = areaZ (pcsZ m ps) i + (1 + (ps.getD i (0, 0)).1) * (1 + (ps.getD i (0, 0)).2 % m) := by
 unfold areaZ
 simp only [sumZ]
 rw [pcsZ_get m ps i hi]
 rfl
theorem own_take (m : Int) (qs : List (Int × Int)) (i : Nat) : pairCells (ownZ m qs (i + 1)) = pairCells (ownZ m qs i) ++ [.int .i64 (ownP m qs i).1, .int .i64 (ownP m qs i).2] := by
 unfold ownZ
 rw [List.range_succ, List.map_append, pairCells_append]
 rfl
theorem pcs_good {ps : List (Int × Int)} {m : Int} (hb : by2 ps) (h1 : 1 ≤ m) (h2 : m ≤ 256) (hl : ps.length ≤ 10) : GoodPcs (pcsZ m ps) m :=
 ⟨(pcs_facts hb h1 h2).1, (pcs_facts hb h1 h2).2, by rw [pcsZ_length]; exact hl, by omega⟩
theorem own_range {qs : List (Int × Int)} {m : Int} (h1 : 1 ≤ m) (h2 : m ≤ 256) (n i : Nat) (hi : i < n) : -2000000000000 ≤ ((ownZ m qs n).getD i (0, 0)).2 ∧ ((ownZ m qs n).getD i (0, 0)).2 ≤ 2000000000000 := by
 have h := ownZ_get m qs n i hi
 unfold gP at h
 rw [h]
 unfold ownP
 split
 ·
  have := Int.emod_nonneg (qs.getD i (0, 0)).2 (show m ≠ 0 by omega)
  have := Int.emod_lt_of_pos (qs.getD i (0, 0)).2 (show 0 < m by omega)
  dsimp only
  omega
 ·
  dsimp only; omega
theorem acc_range {l : List (Int × Int)} {m : Int} {ls : List (Int × Int)} (hg : GoodPcs l m) (h : accB l m ls l.length = true) (i : Nat) (hi : i < l.length) : (0 ≤ (ls.getD i (0, 0)).1 ∧ (ls.getD i (0, 0)).1 ≤ 1099511627776) ∧ -2000000000000 ≤ (ls.getD i (0, 0)).2 ∧ (ls.getD i (0, 0)).2 ≤ 2000000000000 := by
 have a := ((accB_iff l m ls l.length).1 h i hi).1
 have b := hg.at hi
 have c := hg.w1
 unfold outB gP at a
 simp only [Bool.or_eq_false_iff, Bool.not_eq_false', Bool.and_eq_true, decide_eq_true_eq, decide_eq_false_iff_not] at a
 omega

set_option maxRecDepth 100000 in
set_option maxHeartbeats 16000000 in
theorem layupShelves_any (ps qs : List (Int × Int)) (wd : Int) (vp vq : Value) (w : World) (hp : U8sOf w vp ps) (hq : U8sOf w vq qs) (hd : 0 ≤ wd ∧ wd ≤ 255) :
  Calls Try.prog 3 #[vp, .int .u8 wd, vq] w (RetBool true w) := by
 have hby := hp.by2
 have hbq := hq.by2
 obtain ⟨aop, capp, rfl, hPE⟩ := hp
 obtain ⟨aoq, capq, rfl, hQE⟩ := hq
 have HPE := Lib.hid hPE
 have HQE := Lib.hid hQE
 clear hPE hQE
 by_cases c1 : 10 < ps.length
 ·
  have t1 : decide ((ps.length : Int) > 10) = true := by simp; omega
  clear c1 hby hbq
  go_enter Try.func3, Try.ntmps3
  go_wp2_with fail
  refine (awake03_any _).mono ?_
  rintro e w1 ⟨rfl, hb1⟩
  go_wp2_with fail
  refine (awake03_any _).mono ?_
  rintro e w2 ⟨rfl, hb2⟩
  go_wp2_with fail
  go_ret
  exact ⟨rfl, below_join hb1 hb2⟩
 ·
  have t1 : decide ((ps.length : Int) > 10) = false := by simp; omega
  have hlp : ps.length ≤ 10 := by omega
  obtain ⟨iC, hiC, hzC0, hzC1, hzC2⟩ := info_parts info_piece
  obtain ⟨iP, hiP, hzP0, hzP1, hzP2⟩ := info_parts info_pt
  have hzd := zd2
  have HBY := Lib.hid hby
  have HBQ := Lib.hid hbq
  clear c1 hby hbq
  go_enter Try.func3, Try.ntmps3
  go_wp2_with fail
  refine (awake03_any _).mono ?_
  rintro e w1 ⟨rfl, hb1⟩
  go_wp2_with fail
  have hm1 : 1 ≤ 1 + wd := by omega
  have hm2 : 1 + wd ≤ 256 := by omega
  generalize 1 + wd = m at *
  have HG := Lib.hid (pcs_good HBY.out hm1 hm2 hlp)
  have hmne : m ≠ 0 := by omega
  go_loopw [8, 9, 10, 39] (fun lv nv av iv wr => ∃ i : Nat, i ≤ ps.length ∧ iv = .int .i64 i ∧ nv = .int .i64 (longZ (pcsZ m ps) i) ∧ av = .int .i64 (areaZ (pcsZ m ps) i) ∧ LRow wr w1.heap.size 27 2 lv i (pairCells ((pcsZ m ps).take i)) ∧ Below w1.heap.size w1 wr)
   (fun _ _ _ iv _ => ps.length - (intOf iv).toNat)
  case atStart => exact ⟨0, Nat.zero_le _, rfl, rfl, rfl, LRow.nil _ _ _ _, Below.refl _ _⟩
  case round =>
   obtain ⟨i, hi, rfl, rfl, rfl, hL, hbel⟩ := hrel
   have hLr := longZ_range HG.out i (by rw [pcsZ_length]; exact hi)
   have hAr := areaZ_range HG.out i (by rw [pcsZ_length]; exact hi)
   by_cases hlt : i < ps.length
   ·
    obtain ⟨b, off, rfl, hbl, hPP⟩ := HPE.out (by omega)
    obtain ⟨⟨g0, g1⟩, hy0, hy1⟩ := hPP i hlt
    have hbl1 : b < w1.heap.size := Nat.lt_of_lt_of_le hbl hb1.size
    have g0 := (hbel.cell (p := ⟨b, off + i * 2, none⟩) hbl1).trans ((hb1.cell (p := ⟨b, off + i * 2, none⟩) hbl).trans g0)
    have g1 := (hbel.cell (p := ⟨b, off + i * 2 + 1, none⟩) hbl1).trans ((hb1.cell (p := ⟨b, off + i * 2 + 1, none⟩) hbl).trans g1)
    have hlt' : (i : Int) < ps.length := by omega
    have hge' : (0 : Int) ≤ i := by omega
    have hbl2 : b < wr.heap.size := Nat.lt_of_lt_of_le hbl1 hbel.size
    have HL1 := Lib.hid (pcs_long m ps i hlt)
    have HA1 := Lib.hid (pcs_area m ps i hlt)
    have HT1 := Lib.hid (pcs_take m ps i hlt)
    unfold byteU at hy0 hy1
    clear hPP
    generalize (ps.getD i (0, 0)).1 = x at *
    generalize (ps.getD i (0, 0)).2 = y at *
    generalize longZ (pcsZ m ps) i = L at *
    generalize areaZ (pcsZ m ps) i = A at *
    have hm : y.tmod m = y % m := Int.tmod_eq_emod_of_nonneg (by omega)
    have hr0 := Int.emod_nonneg y hmne
    have hr1 := Int.emod_lt_of_pos y (show 0 < m by omega)
    have hmp : (1 + x) * (1 + y % m) ≤ 256 * 256 := Int.mul_le_mul (by omega) (by omega) (by omega) (by omega)
    have hmq : 0 ≤ (1 + x) * (1 + y % m) := Int.mul_nonneg (by omega) (by omega)
    have HM := Lib.hid (show y % m = y % m from rfl)
    generalize hR : y % m = R at *
    have hw0 : IntKind.i64.wrap R = R := IntWalk.i64_in _ (by omega)
    have hw1 : IntKind.i64.wrap (1 + x) = 1 + x := IntWalk.i64_in _ (by omega)
    have hw2 : IntKind.i64.wrap (1 + R) = 1 + R := IntWalk.i64_in _ (by omega)
    have hw3 : IntKind.i64.wrap ((1 + x) * (1 + R)) = (1 + x) * (1 + R) := IntWalk.i64_in _ (by omega)
    have hw4 : IntKind.i64.wrap (A + (1 + x) * (1 + R)) = A + (1 + x) * (1 + R) := IntWalk.i64_in _ (by omega)
    have hN := blk_new wr #[.int .u8 x, .int .u8 y] 25
    have hx1 := (Below.refl wr.heap.size wr).alloc (Nat.le_refl _) (.cells #[.int .u8 x, .int .u8 y] 25)
    have n0 := blk_cell hN 0 (.int .u8 x) rfl
    have n1 := blk_cell hN 1 (.int .u8 y) rfl
    have hx2 := hx1.alloc hx1.size (.cells #[.int .i64 0, .int .i64 0] 27)
    have hN2 := blk_keep hN ((Below.refl _ _).alloc (Nat.le_refl _) (.cells #[.int .i64 0, .int .i64 0] 27)) (by simp)
    have k0 := blk_cell hN2 0 (.int .u8 x) rfl
    have k1 := blk_cell hN2 1 (.int .u8 y) rfl
    go_wp2_with fail
    go_region
    go_upto_region 10 with (fail)
    have hB3 : ((wr.alloc (.cells #[.int .u8 x, .int .u8 y] 25)).alloc (.cells #[.int .i64 (1 + x), .int .i64 (1 + R)] 27)).drew.heap[wr.heap.size + 1]? = some (.cells #[.int .i64 (1 + x), .int .i64 (1 + R)] 27 (0, 0)) := by
     have h := blk_new (wr.alloc (.cells #[.int .u8 x, .int .u8 y] 25)) #[.int .i64 (1 + x), .int .i64 (1 + R)] 27
     rw [World.size_alloc] at h
     exact h
    have hx3 := (hx1.alloc hx1.size (.cells #[.int .i64 (1 + x), .int .i64 (1 + R)] 27)).drew
    clear hN n0 n1 hx2 hN2 k0 k1 hx1 g0 g1
    generalize ((wr.alloc (.cells #[.int .u8 x, .int .u8 y] 25)).alloc (.cells #[.int .i64 (1 + x), .int .i64 (1 + R)] 27)).drew = W3 at *
    have hL3 := hL.below hx3
    have HLT := Lib.hid (fun q (h : u8.ownBlock = some q) => (hL.lt h).1)
    have c0 := blk_cell hB3 0 (.int .i64 (1 + x)) rfl
    have c1 := blk_cell hB3 1 (.int .i64 (1 + R)) rfl
    have hx4 := (Below.refl W3.heap.size W3).alloc (Nat.le_refl _) (.cells #[.int .i64 (1 + x), .int .i64 (1 + R)] 27)
    have HCN := Lib.hid (cell_new2 W3 (.int .i64 (1 + x)) (.int .i64 (1 + R)) 27)
    have HL4 := Lib.hid (hL3.below hx4)
    have hbs := hbel.size
    have h3s := hx3.size
    have hB3l := blk_lt hB3
    go_wp2_with (at_builtin; refine wpList_append_lrow _ rfl (.tmp 54) (.tmp 56) 24 rfl w1.heap.size 27 iC _ 2 16 Try.underlying24 hiC hzC0 hzC1 hzC2 rfl (by decide) hzd _ _ _ rfl HL4.out ⟨W3.heap.size, 0, none⟩ 1 1 [.int .i64 (1 + x), .int .i64 (1 + R)] rfl rfl HCN.out (one2 _ _) (nd2 _ _) (by omega) (by unfold maxLen; omega) (by omega) (by simp; omega) ?_)
    intro g cap' w5 hL5 hgr hat
    have hB5 : w5.heap[wr.heap.size + 1]? = some (.cells #[.int .i64 (1 + x), .int .i64 (1 + R)] 27 (0, 0)) := by
     rw [hgr.block _ (by simp; omega) (fun e => by have := HLT.out _ e.symm; omega)]
     exact blk_keep hB3 hx4 (blk_lt hB3)
    have q0 := blk_cell hB5 0 (.int .i64 (1 + x)) rfl
    have q1 := blk_cell hB5 1 (.int .i64 (1 + R)) rfl
    have hx5 : Below w1.heap.size w1 w5 := (hbel.trans ((hx3.trans (hx4.mono hx3.size)).mono hbel.size)).grown hgr (by simp; omega) (ownBlock_base HL4.out.1)
    clear hB3 c0 c1 hL3 hgr hB5 hx3 hx4
    go_wp2_with fail
    go_region
    go_wp2_with fail
    exact ⟨⟨i + 1, by omega, by go_num, by rw [HL1.out], by rw [HA1.out], by rw [HT1.out]; exact hL5.below (Below.refl _ _).drew, hx5.drew⟩, meas_up hlt⟩
   ·
    obtain rfl : i = ps.length := by omega
    have hL' : LRow wr w1.heap.size 27 2 u8 (pcsZ m ps).length (pairCells (pcsZ m ps)) := by
     have h := hL
     rw [← pcsZ_length m ps, List.take_length] at h
     rw [pcsZ_length] at h ⊢
     exact h
    have HP := Lib.hid (PairsOf.ofRow hL')
    obtain ⟨al, cl, rfl, _⟩ := HP.out
    have hxw := below_join hb1 hbel
    clear hL hL' HBY HPE t1 hlp
    have HLN := Lib.hid (pcsZ_length m ps)
    generalize pcsZ m ps = pl at *
    have hlen := HG.out.len
    go_wp2_with fail
    refine (nest_any _ _ HG.out HP.out).mono ?_
    rintro e w2 ⟨ov, out, n, rfl, HN, hov, hcap, hb2⟩
    have HOV := Lib.hid hov
    have HCAP := Lib.hid hcap
    obtain ⟨ao2, cap2, rfl, _⟩ := hov
    have hx2 := below_join hxw hb2
    have HOL : Hid (out.length = pl.length) := HN.out.1
    have HEN : Hid (endZ pl out pl.length = n) := HN.out.2.2.1
    go_wp2_with fail
    refine (checkNest_any out _ _ _ HG.out HOL.out (HP.out.below hb2) HOV.out HCAP.out (fun i hi => (acc_range HG.out HN.out.2.1 i (by rw [← HOL.out]; exact hi)).2)).mono ?_
    rintro e w3 ⟨n2, err, rfl, hyes, _, hb3⟩
    obtain ⟨h1, rfl⟩ := hyes HN.out.2.1
    rw [HEN.out] at h1
    obtain rfl : n = n2 := h1.symm
    have hx3 := below_join hx2 hb3
    clear hyes
    go_wp2_with fail
    refine (lbound_ok _ _ HG.out (HP.out.below (below_join hb2 hb3))).mono ?_
    rintro e w4 ⟨rfl, hb4⟩
    have hx4 := below_join hx3 hb4
    have HPB := Lib.hid (HP.out.below (below_join hb2 (below_join hb3 hb4)))
    have hbo := bound_le HG.out.pcs HN.out.2.1
    have hnn := HN.out.2.2.2
    have hera := endZ_range (ls := out) HG.out _ (Nat.le_refl _) (fun j hj => (acc_range HG.out HN.out.2.1 j hj).1.2)
    rw [HEN.out] at hbo hera
    have hara := areaZ_range HG.out _ (Nat.le_refl _)
    have hlra := longZ_range HG.out _ (Nat.le_refl _)
    have hlb : longZ pl pl.length ≤ boundZ pl m := by unfold boundZ; omega
    have HHB : Hid (∀ ls, accB pl m ls pl.length = true → boundZ pl m ≤ endZ pl ls pl.length) := fun ls h => bound_le HG.out.pcs h
    clear HN HEN HOL HOV HCAP hb2 hb3 hb4 hx2 hx3 HP
    rw [HLN.out] at hnn hara hlra hlb
    have hlps : ps.length ≤ 10 := by rw [← HLN.out]; exact hlen
    generalize longZ pl ps.length = L at *
    generalize areaZ pl ps.length = A at *
    generalize boundZ pl m = Z at *
    have tb : decide (n < Z) = false := decide_eq_false (by omega)
    have hq0 : 0 ≤ m * (n - L) := Int.mul_nonneg (by omega) (by omega)
    have hw1 : IntKind.i64.wrap (n - L) = n - L := IntWalk.i64_in _ (by omega)
    have hw2 : IntKind.i64.wrap (m * (n - L)) = m * (n - L) := IntWalk.i64_in _ (by omega)
    have hw3 : IntKind.i64.wrap (2 * A) = 2 * A := IntWalk.i64_in _ (by omega)
    have tc : decide (m * (n - L) > 2 * A) = false := decide_eq_false (by omega)
    have hxx : Below w.heap.size w w4 := hx4
    clear hnn hq0 hx4
    go_wp2_with fail
    go_loopw [21, 122] (fun ov iv wr => ∃ i : Nat, i ≤ pl.length ∧ iv = .int .i64 i ∧ LRow wr w4.heap.size 36 2 ov i (pairCells (ownZ m qs i)) ∧ Below w4.heap.size w4 wr)
     (fun _ iv _ => pl.length - (intOf iv).toNat)
    case atStart => exact ⟨0, Nat.zero_le _, rfl, LRow.nil _ _ _ _, Below.refl _ _⟩
    case round =>
     clear hw1 hw2 hw3 tb tc
     obtain ⟨i, hi, rfl, hL, hbel⟩ := hrel
     by_cases hlt : i < pl.length
     ·
      have hlt' : (i : Int) < pl.length := by omega
      have hge' : (0 : Int) ≤ i := by omega
      have HT1 := Lib.hid (own_take m qs i)
      by_cases hiq : i < qs.length
      ·
       have tq : decide ((i : Int) < qs.length) = true := decide_eq_true (by omega)
       obtain ⟨b, off, rfl, hbl, hQQ⟩ := HQE.out (by omega)
       obtain ⟨⟨g0, g1⟩, hy0, hy1⟩ := hQQ i hiq
       have hxw := hxx.trans (hbel.mono hxx.size)
       have hbl2 : b < wr.heap.size := Nat.lt_of_lt_of_le hbl hxw.size
       have hal := (Below.refl wr.heap.size wr).alloc (Nat.le_refl _) (.cells #[.int .i64 0, .int .i64 0] 36)
       have g0 := (hal.cell (p := ⟨b, off + i * 2, none⟩) hbl2).trans ((hxw.cell (p := ⟨b, off + i * 2, none⟩) hbl).trans g0)
       have g1 := (hal.cell (p := ⟨b, off + i * 2 + 1, none⟩) hbl2).trans ((hxw.cell (p := ⟨b, off + i * 2 + 1, none⟩) hbl).trans g1)
       have hiq' : (i : Int) < qs.length := by omega
       have HO : Hid (ownP m qs i = (4 * (qs.getD i (0, 0)).1, (qs.getD i (0, 0)).2 % m)) := by show _ = _; unfold ownP; rw [if_pos hiq]
       unfold byteU at hy0 hy1
       clear hQQ
       generalize (qs.getD i (0, 0)).1 = x at *
       generalize (qs.getD i (0, 0)).2 = y at *
       have hm : y.tmod m = y % m := Int.tmod_eq_emod_of_nonneg (by omega)
       have hr0 := Int.emod_nonneg y hmne
       have hr1 := Int.emod_lt_of_pos y (show 0 < m by omega)
       generalize y % m = R at *
       have hw0 : IntKind.i64.wrap R = R := IntWalk.i64_in _ (by omega)
       have hw1 : IntKind.i64.wrap (4 * x) = 4 * x := IntWalk.i64_in _ (by omega)
       go_wp2_with fail
       go_region
       go_upto_region 25 with (fail)
       clear g0 g1 hal
       have hB3 : (wr.alloc (.cells #[.int .i64 (4 * x), .int .i64 R] 36)).drew.heap[wr.heap.size]? = some (.cells #[.int .i64 (4 * x), .int .i64 R] 36 (0, 0)) := blk_new wr _ _
       have hx3 := ((Below.refl wr.heap.size wr).alloc (Nat.le_refl _) (.cells #[.int .i64 (4 * x), .int .i64 R] 36)).drew
       generalize (wr.alloc (.cells #[.int .i64 (4 * x), .int .i64 R] 36)).drew = W3 at *
       have hL3 := hL.below hx3
       have c0 := blk_cell hB3 0 (.int .i64 (4 * x)) rfl
       have c1 := blk_cell hB3 1 (.int .i64 R) rfl
       have hx4 := (Below.refl W3.heap.size W3).alloc (Nat.le_refl _) (.cells #[.int .i64 (4 * x), .int .i64 R] 36)
       have HCN := Lib.hid (cell_new2 W3 (.int .i64 (4 * x)) (.int .i64 R) 36)
       have HL4 := Lib.hid (hL3.below hx4)
       have hbs := hbel.size
       have h3s := hx3.size
       go_wp2_with (at_builtin; refine wpList_append_lrow _ rfl (.tmp 146) (.tmp 148) 28 rfl w4.heap.size 36 iP _ 2 16 Try.underlying28 hiP hzP0 hzP1 hzP2 rfl (by decide) hzd _ _ _ rfl HL4.out ⟨W3.heap.size, 0, none⟩ 1 1 [.int .i64 (4 * x), .int .i64 R] rfl rfl HCN.out (one2 _ _) (nd2 _ _) (by omega) (by unfold maxLen; omega) (by omega) (by simp; omega) ?_)
       intro g cap' w5 hL5 hgr hat
       have hx5 : Below w4.heap.size w4 w5 := (hbel.trans ((hx3.trans (hx4.mono hx3.size)).mono hbel.size)).grown hgr (by simp; omega) (ownBlock_base HL4.out.1)
       clear hL3 hgr hB3 c0 c1 hx3 hx4
       go_wp2_with fail
       exact ⟨⟨i + 1, by omega, by go_num, by rw [HT1.out, HO.out]; exact hL5, hx5⟩, meas_up hlt⟩
      ·
       have tq : decide ((i : Int) < qs.length) = false := decide_eq_false (by omega)
       have HO : Hid (ownP m qs i = (0, 0)) := by show _ = _; unfold ownP; rw [if_neg hiq]
       go_upto_region 25 with (fail)
       have hB3 : (wr.alloc (.cells #[.int .i64 0, .int .i64 0] 36)).heap[wr.heap.size]? = some (.cells #[.int .i64 0, .int .i64 0] 36 (0, 0)) := blk_new wr _ _
       have hx3 := ((Below.refl wr.heap.size wr).alloc (Nat.le_refl _) (.cells #[.int .i64 0, .int .i64 0] 36))
       generalize (wr.alloc (.cells #[.int .i64 0, .int .i64 0] 36)) = W3 at *
       have hL3 := hL.below hx3
       have c0 := blk_cell hB3 0 (.int .i64 0) rfl
       have c1 := blk_cell hB3 1 (.int .i64 0) rfl
       have hx4 := (Below.refl W3.heap.size W3).alloc (Nat.le_refl _) (.cells #[.int .i64 0, .int .i64 0] 36)
       have HCN := Lib.hid (cell_new2 W3 (.int .i64 0) (.int .i64 0) 36)
       have HL4 := Lib.hid (hL3.below hx4)
       have hbs := hbel.size
       have h3s := hx3.size
       go_wp2_with (at_builtin; refine wpList_append_lrow _ rfl (.tmp 146) (.tmp 148) 28 rfl w4.heap.size 36 iP _ 2 16 Try.underlying28 hiP hzP0 hzP1 hzP2 rfl (by decide) hzd _ _ _ rfl HL4.out ⟨W3.heap.size, 0, none⟩ 1 1 [.int .i64 0, .int .i64 0] rfl rfl HCN.out (one2 _ _) (nd2 _ _) (by omega) (by unfold maxLen; omega) (by omega) (by simp; omega) ?_)
       intro g cap' w5 hL5 hgr hat
       have hx5 : Below w4.heap.size w4 w5 := (hbel.trans ((hx3.trans (hx4.mono hx3.size)).mono hbel.size)).grown hgr (by simp; omega) (ownBlock_base HL4.out.1)
       clear hL3 hgr hB3 c0 c1 hx3 hx4
       go_wp2_with fail
       exact ⟨⟨i + 1, by omega, by go_num, by rw [HT1.out, HO.out]; exact hL5, hx5⟩, meas_up hlt⟩
     ·
      obtain rfl : i = pl.length := by omega
      have hL' : LRow wr w4.heap.size 36 2 u21 (ownZ m qs pl.length).length (pairCells (ownZ m qs pl.length)) := by
       rw [ownZ_length]
       exact hL
      have HO := Lib.hid (PairsOf.ofRow hL')
      have HC : Hid (CapOk u21) := by
       obtain ⟨a, c, e, h1, h2⟩ := hL.capOk
       exact ⟨a, _, c, e, h1, h2⟩
      obtain ⟨ao3, cap3, rfl, _⟩ := HO.out
      have hxw := hxx.trans (hbel.mono hxx.size)
      clear hL hL'
      go_wp2_with fail
      refine (checkNest_any (ownZ m qs pl.length) _ _ _ HG.out (ownZ_length _ _ _) (HPB.out.below hbel) HO.out HC.out (fun i hi => own_range hm1 hm2 _ i (by rw [ownZ_length] at hi; exact hi))).mono ?_
      rintro e w5 ⟨k, err, rfl, hyes, hno, hb5⟩
      have hx5 := hxw.trans (hb5.mono hxw.size)
      cases hacc : accB pl m (ownZ m qs pl.length) pl.length with
      | true =>
       obtain ⟨h1, rfl⟩ := hyes hacc
       have hz := HHB.out _ hacc
       rw [← h1] at hz
       have tz : decide (k ≥ Z) = true := decide_eq_true hz
       clear h1 hyes hno hacc hz
       go_wp2_with fail
       go_ret
       exact ⟨rfl, hx5⟩
      | false =>
       have he := hno hacc
       have te : (err != 0) = true := by simp [he]
       clear hyes hno hacc he
       go_wp2_with fail
       go_ret
       exact ⟨rfl, hx5⟩

end Go.Proofs.Ytnjpkfccncjkhaa
