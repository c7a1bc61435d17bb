/- Part f of the lemmas and walks. -/
import Derived.Test.YthhnkobkdhjfgaaGreatEe

namespace Go.Proofs.YthhnkobkdhjfgaaGreat
open Go.RowKit

theorem GsR.to {w0 w W : World} {bs cs : List Bx} {gs : List GrR} (h : GsR w0 w bs gs) (e : w = W) (eb : bs = cs) : GsR w0 W cs gs := by subst e; subst eb; exact h
def RetRecs (p : Bool) (k : Nat) (qs : List (List Rat)) (w : World) (e : Ending) (w' : World) : Prop := ∃ v, e = .returned v ∧ RecsOf p k w' v qs ∧ Below w.heap.size w w'
def RetRecsE (p : Bool) (k : Nat) (qs : List (List Rat)) (er : Int) (w : World) (e : Ending) (w' : World) : Prop := ∃ v, e = .returned (.tuple #[v, .int .i64 er]) ∧ RecsOf p k w' v qs ∧ Below w.heap.size w w'
def flT (qs : List (List Rat)) (er : Int) : List (List Rat) := if er = 0 then qs else []
theorem RecsOf.nil (p : Bool) (k : Nat) (w : World) : RecsOf p k w (.slice none 0 0) [] := ⟨none, 0, rfl, fun h => absurd h (by simp)⟩
theorem idx__2_ratio_Ratio_0 (x0 : R3) (x1 : R3) (w : World) : (Instr.index 219 (.agg #[.bool x0.b, .slice x0.a x0.n x0.c, .slice x0.d x0.m x0.e, .bool x1.b, .slice x1.a x1.n x1.c, .slice x1.d x1.m x1.e]) (.int .i64 0)).run Tryz.prog w = .ok (x0.val) w := by kernel_rfl
theorem idx__2_ratio_Ratio_1 (x0 : R3) (x1 : R3) (w : World) : (Instr.index 219 (.agg #[.bool x0.b, .slice x0.a x0.n x0.c, .slice x0.d x0.m x0.e, .bool x1.b, .slice x1.a x1.n x1.c, .slice x1.d x1.m x1.e]) (.int .i64 1)).run Tryz.prog w = .ok (x1.val) w := by kernel_rfl
theorem idx__4_ratio_Ratio_0 (x0 : R3) (x1 : R3) (x2 : R3) (x3 : R3) (w : World) : (Instr.index 218 (.agg #[.bool x0.b, .slice x0.a x0.n x0.c, .slice x0.d x0.m x0.e, .bool x1.b, .slice x1.a x1.n x1.c, .slice x1.d x1.m x1.e, .bool x2.b, .slice x2.a x2.n x2.c, .slice x2.d x2.m x2.e, .bool x3.b, .slice x3.a x3.n x3.c, .slice x3.d x3.m x3.e]) (.int .i64 0)).run Tryz.prog w = .ok (x0.val) w := by kernel_rfl
theorem idx__4_ratio_Ratio_1 (x0 : R3) (x1 : R3) (x2 : R3) (x3 : R3) (w : World) : (Instr.index 218 (.agg #[.bool x0.b, .slice x0.a x0.n x0.c, .slice x0.d x0.m x0.e, .bool x1.b, .slice x1.a x1.n x1.c, .slice x1.d x1.m x1.e, .bool x2.b, .slice x2.a x2.n x2.c, .slice x2.d x2.m x2.e, .bool x3.b, .slice x3.a x3.n x3.c, .slice x3.d x3.m x3.e]) (.int .i64 1)).run Tryz.prog w = .ok (x1.val) w := by kernel_rfl
theorem idx__4_ratio_Ratio_2 (x0 : R3) (x1 : R3) (x2 : R3) (x3 : R3) (w : World) : (Instr.index 218 (.agg #[.bool x0.b, .slice x0.a x0.n x0.c, .slice x0.d x0.m x0.e, .bool x1.b, .slice x1.a x1.n x1.c, .slice x1.d x1.m x1.e, .bool x2.b, .slice x2.a x2.n x2.c, .slice x2.d x2.m x2.e, .bool x3.b, .slice x3.a x3.n x3.c, .slice x3.d x3.m x3.e]) (.int .i64 2)).run Tryz.prog w = .ok (x2.val) w := by kernel_rfl
theorem idx__4_ratio_Ratio_3 (x0 : R3) (x1 : R3) (x2 : R3) (x3 : R3) (w : World) : (Instr.index 218 (.agg #[.bool x0.b, .slice x0.a x0.n x0.c, .slice x0.d x0.m x0.e, .bool x1.b, .slice x1.a x1.n x1.c, .slice x1.d x1.m x1.e, .bool x2.b, .slice x2.a x2.n x2.c, .slice x2.d x2.m x2.e, .bool x3.b, .slice x3.a x3.n x3.c, .slice x3.d x3.m x3.e]) (.int .i64 3)).run Tryz.prog w = .ok (x3.val) w := by kernel_rfl
theorem idx2_any (x0 x1 : R3) (e : Nat) (he : e < 2) (w : World) : (Instr.index 219 (.agg #[.bool x0.b, .slice x0.a x0.n x0.c, .slice x0.d x0.m x0.e, .bool x1.b, .slice x1.a x1.n x1.c, .slice x1.d x1.m x1.e]) (.int .i64 (e : Int))).run Tryz.prog w = .ok (pk2 x0 x1 e).val w := by
 match e, he with
 | 0, _ => exact idx__2_ratio_Ratio_0 x0 x1 w
 | 1, _ => exact idx__2_ratio_Ratio_1 x0 x1 w
theorem rhull_le (a b c d : Rat) (vx vy : Value) (w : World) (hx : IsRng w vx a b) (hy : IsRng w vy c d) (h1 : a ≤ b) (h2 : c ≤ d) (s1 : szR a 274877906944) (s2 : szR b 274877906944) (s3 : szR c 274877906944) (s4 : szR d 274877906944) :
  Calls Tryz.prog 39 #[vx, vy] w (RetRng (loQ a c) (hiQ b d) w) := by
 have := rhull_any a b c d vx vy w hx hy s1 s2 s3 s4
 rw [best_lo h1 h2, best_hi h1 h2] at this
 exact this
theorem inf_ratio_Range : (Tryz.prog.info? 86).map (fun i => (i.zero, i.size, i.bytes)) = some (some (.agg #[.bool false, .slice none 0 0, .slice none 0 0, .bool false, .slice none 0 0, .slice none 0 0]), 6, 112) := by kernel_rfl
set_option maxRecDepth 100000 in
set_option maxHeartbeats 4000000 in
theorem tcheck_any (l0 l1 : Rat) (n c : Nat) (a : Option Addr) (vx : Value) (w : World) (hx : IsRng w vx l0 l1) (s1 : szR l1 1000) : Calls Tryz.prog 78 #[vx, .slice a n c] w (RetInt (flErr l0 l1 n) w) := by
 obtain ⟨x1, x2, rfl, hx1, hx2⟩ := hx
 have HS := Lib.hid (((Sx.init w).addP hx1).addP hx2)
 have SL1 := Lib.hid s1
 clear hx1 hx2 s1
 by_cases hn : 256 < n
 ·
  have HNN := Lib.hid hn
  have tn1 : decide ((n : Int) > 256) = true := decide_eq_true (by omega)
  have tn2 : decide (256 < n) = true := decide_eq_true hn
  have tn3 : decide (256 < (n : Int)) = true := decide_eq_true (by omega)
  clear hn
  go_enter Tryz.func78, Tryz.ntmps78
  go_wp2_with fail
  generalize hW1 : (w).alloc (.cells _ _) = W1 at *
  replace HS := Lib.hid (((HS.out).alloc (B := w.heap.size) rfl (by rfl)).to hW1 (by (try simp only [nb5, nb6]); rfl))
  clear hW1
  cases t2 : partB l0 l1 with
  | true =>
   refine (part_any l0 l1 _ _ (rngP (HS.out.p 1 _ _ rfl) (HS.out.p 0 _ _ rfl)) (szR_mono SL1.out (by omega))).mono ?_
   rw [t2]
   rintro e w3 ⟨rfl, hb3⟩
   replace HS := Lib.hid (HS.out.below hb3)
   clear hb3
   go_wp2_with fail
   have HR : Hid (flErr l0 l1 n = 4) := by show _ = _; unfold flErr; rw [if_neg (by rw [t2]; simp)]; rw [if_pos HNN.out]
   go_ret
   exact ⟨by rw [HR.out] <;> rfl, HS.out.bel⟩
  | false =>
   refine (part_any l0 l1 _ _ (rngP (HS.out.p 1 _ _ rfl) (HS.out.p 0 _ _ rfl)) (szR_mono SL1.out (by omega))).mono ?_
   rw [t2]
   rintro e w4 ⟨rfl, hb4⟩
   replace HS := Lib.hid (HS.out.below hb4)
   clear hb4
   go_wp2_with fail
   have HR : Hid (flErr l0 l1 n = 1) := by show _ = _; unfold flErr; rw [if_pos t2]
   go_ret
   exact ⟨by rw [HR.out] <;> rfl, HS.out.bel⟩
 ·
  have HNN := Lib.hid hn
  have tn1 : decide ((n : Int) > 256) = false := decide_eq_false (by omega)
  have tn2 : decide (256 < n) = false := decide_eq_false hn
  have tn3 : decide (256 < (n : Int)) = false := decide_eq_false (by omega)
  clear hn
  go_enter Tryz.func78, Tryz.ntmps78
  go_wp2_with fail
  generalize hW5 : (w).alloc (.cells _ _) = W5 at *
  replace HS := Lib.hid (((HS.out).alloc (B := w.heap.size) rfl (by rfl)).to hW5 (by (try simp only [nb5, nb6]); rfl))
  clear hW5
  cases t6 : partB l0 l1 with
  | true =>
   refine (part_any l0 l1 _ _ (rngP (HS.out.p 1 _ _ rfl) (HS.out.p 0 _ _ rfl)) (szR_mono SL1.out (by omega))).mono ?_
   rw [t6]
   rintro e w7 ⟨rfl, hb7⟩
   replace HS := Lib.hid (HS.out.below hb7)
   clear hb7
   go_wp2_with fail
   have HR : Hid (flErr l0 l1 n = 0) := by show _ = _; unfold flErr; rw [if_neg (by rw [t6]; simp)]; rw [if_neg HNN.out]
   go_ret
   exact ⟨by rw [HR.out] <;> rfl, HS.out.bel⟩
  | false =>
   refine (part_any l0 l1 _ _ (rngP (HS.out.p 1 _ _ rfl) (HS.out.p 0 _ _ rfl)) (szR_mono SL1.out (by omega))).mono ?_
   rw [t6]
   rintro e w8 ⟨rfl, hb8⟩
   replace HS := Lib.hid (HS.out.below hb8)
   clear hb8
   go_wp2_with fail
   have HR : Hid (flErr l0 l1 n = 1) := by show _ = _; unfold flErr; rw [if_pos t6]
   go_ret
   exact ⟨by rw [HR.out] <;> rfl, HS.out.bel⟩
set_option maxRecDepth 100000 in
set_option maxHeartbeats 4000000 in
theorem ncheck_any (le mo ri : Rat) (m : Int) (y1 y2 y3 : R3) (w : World) (h1 : IsRat w y1.val le) (h2 : IsRat w y2.val mo) (h3 : IsRat w y3.val ri) (s1 : szR le 1000) (s2 : szR mo 1000) (s3 : szR ri 1000) : Calls Tryz.prog 81 #[.agg #[.bool y1.b, .slice y1.a y1.n y1.c, .slice y1.d y1.m y1.e, .bool y2.b, .slice y2.a y2.n y2.c, .slice y2.d y2.m y2.e, .bool y3.b, .slice y3.a y3.n y3.c, .slice y3.d y3.m y3.e, .int .i64 m]] w (RetInt (ndErr le mo ri m) w) := by
 have HS := Lib.hid ((((Sx.init w).addP h1).addP h2).addP h3)
 have SE := Lib.hid s1
 have SM := Lib.hid s2
 have SI := Lib.hid s3
 clear h1 h2 h3 s1 s2 s3
 go_enter Tryz.func81, Tryz.ntmps81
 by_cases t1p : m < 1
 ·
  have t1 : decide (m < 1) = true := decide_eq_true t1p
  have T1 := Lib.hid t1p
  clear t1p
  go_wp2_with fail
  generalize hW2 : (w).alloc (.cells _ _) = W2 at *
  replace HS := Lib.hid (((HS.out).alloc (B := w.heap.size) rfl (by rfl)).to hW2 (by (try simp only [nb5, nb6]); rfl))
  clear hW2
  have HR : Hid (ndErr le mo ri m = 1) := by
   show _ = _
   unfold ndErr
   have t1q := T1.out
   rw [if_pos (by omega)]
  go_ret
  exact ⟨by rw [HR.out] <;> rfl, HS.out.bel⟩
 ·
  have t1 : decide (m < 1) = false := decide_eq_false t1p
  have T1 := Lib.hid t1p
  clear t1p
  by_cases t3p : m > 256
  ·
   have t3 : decide (m > 256) = true := decide_eq_true t3p
   have T3 := Lib.hid t3p
   clear t3p
   go_wp2_with fail
   generalize hW4 : (w).alloc (.cells _ _) = W4 at *
   replace HS := Lib.hid (((HS.out).alloc (B := w.heap.size) rfl (by rfl)).to hW4 (by (try simp only [nb5, nb6]); rfl))
   clear hW4
   have HR : Hid (ndErr le mo ri m = 1) := by
    show _ = _
    unfold ndErr
    have t1q := T1.out
    have t3q := T3.out
    rw [if_pos (by omega)]
   go_ret
   exact ⟨by rw [HR.out] <;> rfl, HS.out.bel⟩
  ·
   have t3 : decide (m > 256) = false := decide_eq_false t3p
   have T3 := Lib.hid t3p
   clear t3p
   go_wp2_with fail
   generalize hW5 : (w).alloc (.cells _ _) = W5 at *
   replace HS := Lib.hid (((HS.out).alloc (B := w.heap.size) rfl (by rfl)).to hW5 (by (try simp only [nb5, nb6]); rfl))
   clear hW5
   obtain ⟨c6, hc6⟩ : ∃ κ, κ = sgnI (decide (ri.num < 0)) ri.num.natAbs := ⟨_, rfl⟩
   have HC6 := Lib.hid hc6
   clear hc6
   refine (signR_any ri _ _ (HS.out.p 0 _ _ rfl)).mono ?_
   rw [← HC6.out]
   rintro e w6 ⟨rfl, hb6⟩
   replace HS := Lib.hid (HS.out.below hb6)
   clear hb6
   by_cases t7p : c6 < 0
   ·
    have t7 : decide (c6 < 0) = true := decide_eq_true t7p
    have T7 := Lib.hid t7p
    clear t7p
    go_wp2_with fail
    have HR : Hid (ndErr le mo ri m = 1) := by
     show _ = _
     unfold ndErr
     rw [← HC6.out]
     have t1q := T1.out
     have t3q := T3.out
     have t7q := T7.out
     rw [if_pos (by omega)]
    go_ret
    exact ⟨by rw [HR.out] <;> rfl, HS.out.bel⟩
   ·
    have t7 : decide (c6 < 0) = false := decide_eq_false t7p
    have T7 := Lib.hid t7p
    clear t7p
    have b0e := (HS.out.at 0 _ _ _ rfl)
    have b0c0 := blk_cell b0e 0 (.bool y1.b) rfl
    have b0c1 := blk_cell b0e 1 (.slice y1.a y1.n y1.c) rfl
    have b0c2 := blk_cell b0e 2 (.slice y1.d y1.m y1.e) rfl
    have b0c3 := blk_cell b0e 3 (.bool y2.b) rfl
    have b0c4 := blk_cell b0e 4 (.slice y2.a y2.n y2.c) rfl
    have b0c5 := blk_cell b0e 5 (.slice y2.d y2.m y2.e) rfl
    have b0c6 := blk_cell b0e 6 (.bool y3.b) rfl
    have b0c7 := blk_cell b0e 7 (.slice y3.a y3.n y3.c) rfl
    have b0c8 := blk_cell b0e 8 (.slice y3.d y3.m y3.e) rfl
    have b0c9 := blk_cell b0e 9 (.int .i64 m) rfl
    have b0f0 := blk_frozen b0e 0
    have b0f1 := blk_frozen b0e 1
    have b0f2 := blk_frozen b0e 2
    have b0f3 := blk_frozen b0e 3
    have b0f4 := blk_frozen b0e 4
    have b0f5 := blk_frozen b0e 5
    have b0f6 := blk_frozen b0e 6
    have b0f7 := blk_frozen b0e 7
    have b0f8 := blk_frozen b0e 8
    have b0f9 := blk_frozen b0e 9
    have b0l := blk_lt b0e
    clear b0e
    go_wp2_with fail
    clear b0c0 b0c1 b0c2 b0c3 b0c4 b0c5 b0c6 b0c7 b0c8 b0c9 b0f0 b0f1 b0f2 b0f3 b0f4 b0f5 b0f6 b0f7 b0f8 b0f9 b0l
    obtain ⟨c8, hc8⟩ : ∃ κ, κ = cmpR le mo := ⟨_, rfl⟩
    have HC8 := Lib.hid hc8
    clear hc8
    refine (cmpRat_any le mo _ _ _ (HS.out.p 2 _ _ rfl) (HS.out.p 1 _ _ rfl) (szR_mono SE.out (by omega)) (szR_mono SM.out (by omega))).mono ?_
    rw [← HC8.out]
    rintro e w8 ⟨rfl, hb8⟩
    replace HS := Lib.hid (HS.out.below hb8)
    clear hb8
    by_cases t9p : c8 > 0
    ·
     have t9 : decide (c8 > 0) = true := decide_eq_true t9p
     have T9 := Lib.hid t9p
     clear t9p
     go_wp2_with fail
     have HR : Hid (ndErr le mo ri m = 1) := by
      show _ = _
      unfold ndErr
      rw [← HC6.out, ← HC8.out]
      have t1q := T1.out
      have t3q := T3.out
      have t7q := T7.out
      have t9q := T9.out
      rw [if_pos (by omega)]
     go_ret
     exact ⟨by rw [HR.out] <;> rfl, HS.out.bel⟩
    ·
     have t9 : decide (c8 > 0) = false := decide_eq_false t9p
     have T9 := Lib.hid t9p
     clear t9p
     go_wp2_with fail
     have HR : Hid (ndErr le mo ri m = 0) := by
      show _ = _
      unfold ndErr
      rw [← HC6.out, ← HC8.out]
      have t1q := T1.out
      have t3q := T3.out
      have t7q := T7.out
      have t9q := T9.out
      rw [if_neg (by omega)]
     go_ret
     exact ⟨by rw [HR.out] <;> rfl, HS.out.bel⟩
set_option maxRecDepth 100000 in
set_option maxHeartbeats 8000000 in
theorem follow_any (l0 l1 S : Rat) (aq : List Rat) (k : Nat) (hk : k ≤ 256) (z : Int) (hz : min (max z 0) 256 = (k : Int)) (vx vS va : Value) (w : World) (hx : IsRng w vx l0 l1) (hS : IsRat w vS S) (ha : FrcsOf IsRat w va aq) (hl : aq.length ≤ 300) (s0 : szR l0 1000) (s1 : szR l1 1000) (sS : szR S 1000) (sa : ∀ i, szR (aq.getD i 0) 1000) (sF : ∀ i, szR (flUp S l0 l1 k aq i).1 1000 ∧ szR (flUp S l0 l1 k aq i).2 1000) :
  Calls Tryz.prog 79 #[vx, vS, va, .int .i64 z] w (RetRecs true 2 (flR S l0 l1 k aq aq.length) w) := by
 obtain ⟨x1, x2, rfl, hx1, hx2⟩ := hx
 obtain ⟨x3, rfl⟩ := hS.open3
 have HS := Lib.hid ((((Sx.init w).addP hx1).addP hx2).addP hS)
 have SL0 := Lib.hid s0
 have SL1 := Lib.hid s1
 have SS := Lib.hid sS
 have HZA := Lib.hid sa
 have HZF := Lib.hid sF
 have HK := Lib.hid hk
 have HZK := Lib.hid hz
 obtain ⟨aa, ca, rfl, hE⟩ := ha
 have HE := Lib.hid hE
 clear hx1 hx2 hS s0 s1 sS sa sF hE hk hz
 go_enter Tryz.func79, Tryz.ntmps79
 go_wp2_with fail
 generalize hW1 : ((w).alloc (.cells _ _)).alloc (.cells _ _) = W1 at *
 replace HS := Lib.hid ((((HS.out).alloc (B := w.heap.size) rfl (by rfl)).alloc (B := w.heap.size + 1) (by simp) (by rfl)).to hW1 (by (try simp only [nb5, nb6]); rfl))
 clear hW1
 refine (only_any S _ _ (HS.out.p 0 _ _ rfl)).mono ?_
 rintro e w2 ⟨v2, rfl, ⟨z2a, z2b, rfl, hv2, hw2⟩, hb2⟩
 replace HS := Lib.hid (HS.out.below hb2)
 clear hb2
 replace HS := Lib.hid (HS.out.addP hv2)
 clear hv2
 replace HS := Lib.hid (HS.out.addP hw2)
 clear hw2
 go_wp2_with fail
 generalize hW3 : (w2).alloc (.cells _ _) = W3 at *
 replace HS := Lib.hid (((HS.out).alloc (B := w2.heap.size) rfl (by rfl)).to hW3 (by (try simp only [nb5, nb6]); rfl))
 clear hW3
 have HG := Lib.hid ((GsR.nil w W3 [(w2.heap.size, arr6 z2a z2b, 86), (w.heap.size + 1, x3.arr, 42), (w.heap.size, arr6 x1 x2, 90)]).add 86 true 2)
 go_wp2_with fail
 go_loopw [22, 9] (fun u22 u9 wr => ∃ (i : Nat) (m1 m2 : R3) (rv : Value) (rx : List Value), i ≤ aq.length ∧ u22 = .int .i64 i ∧ rv = u9 ∧ Hid (Sx w wr [(w2.heap.size, arr6 m1 m2, 86), (w.heap.size + 1, x3.arr, 42), (w.heap.size, arr6 x1 x2, 90)] [(true, m2.val, (flUp S l0 l1 k aq i).2), (true, m1.val, (flUp S l0 l1 k aq i).1), (true, x3.val, S), (true, x2.val, l1), (true, x1.val, l0)]) ∧ Hid (GsR w wr [(w2.heap.size, arr6 m1 m2, 86), (w.heap.size + 1, x3.arr, 42), (w.heap.size, arr6 x1 x2, 90)] [⟨86, true, 2, rv, rx, (flR S l0 l1 k aq i)⟩]))
  (fun u _ _ => aq.length - (intOf u).toNat)
 case atStart => exact ⟨0, z2a, z2b, .slice none 0 0, [], Nat.zero_le _, rfl, rfl, Lib.hid ((((((HS.out.bare).addP (HS.out.p 4 _ _ rfl)).addP (HS.out.p 3 _ _ rfl)).addP (HS.out.p 2 _ _ rfl)).addP (HS.out.p 1 _ _ rfl)).addP (HS.out.p 0 _ _ rfl)), HG⟩
 case round =>
  obtain ⟨wr4, hwr4⟩ : ∃ z, z = wr := ⟨_, rfl⟩
  subst hwr4
  clear HS HG
  obtain ⟨i, m1, m2, rv, rx, hi, rfl, rfl, HS, HG⟩ := hrel
  by_cases hlt : i < aq.length
  ·
   have hlt' : (i : Int) < aq.length := by omega
   have hge' : (0 : Int) ≤ i := by omega
   have HLT := Lib.hid hlt
   obtain ⟨b, off, rfl, hbl, hEE⟩ := HE.out (by omega)
   have HBL := Lib.hid hbl
   obtain ⟨A, g0, g1, g2, hA⟩ := FrcAt.r3 (hEE i hlt)
   have A0 := Lib.hid g0
   have A1 := Lib.hid g1
   have A2 := Lib.hid g2
   have hln := flR_len S l0 l1 k aq i
   have HFS := Lib.hid (flR_succ S l0 l1 k aq i)
   clear g0 g1 g2 hbl hEE
   replace HS := Lib.hid (HS.out.addP (hA.below HS.out.bel))
   clear hA
   have SA := Lib.hid (HZA.out i)
   obtain ⟨f1, f2⟩ := HZF.out i
   have ST0 := Lib.hid f1
   have ST1 := Lib.hid f2
   clear f1 f2
   have HU1 : Hid ((flUp S l0 l1 k aq (i + 1)).1 = downQ (flLo (flUp S l0 l1 k aq i).1 (flUp S l0 l1 k aq i).2 l0 l1 (aq.getD i 0)) k) := rfl
   have HU2 : Hid ((flUp S l0 l1 k aq (i + 1)).2 = upQ (flHi (flUp S l0 l1 k aq i).1 (flUp S l0 l1 k aq i).2 l0 l1 (aq.getD i 0)) k) := rfl
   generalize (flUp S l0 l1 k aq i).1 = t0 at *
   generalize (flUp S l0 l1 k aq i).2 = t1 at *
   generalize aq.getD i 0 = a at *
   rw [← nx_lo] at HU1
   rw [← nx_hi] at HU2
   clear hlt
   have Ac0 := (HS.out.bel.cell (p := ⟨b, off + i * 3, none⟩) HBL.out).trans A0.out
   have Ac1 := (HS.out.bel.cell (p := ⟨b, off + i * 3 + 1, none⟩) HBL.out).trans A1.out
   have Ac2 := (HS.out.bel.cell (p := ⟨b, off + i * 3 + 2, none⟩) HBL.out).trans A2.out
   go_wp2_with fail
   clear Ac0 Ac1 Ac2
   generalize hW5 : ((wr4).alloc (.cells _ _)).alloc (.cells _ _) = W5 at *
   replace HG := Lib.hid ((((HG.out).alloc (B := wr4.heap.size) rfl).alloc (B := wr4.heap.size + 1) (by simp)).to hW5 (by (try simp only [nb5, nb6]); rfl))
   replace HS := Lib.hid ((((HS.out).alloc (B := wr4.heap.size) rfl (by rfl)).alloc (B := wr4.heap.size + 1) (by simp) (by rfl)).to hW5 (by (try simp only [nb5, nb6]); rfl))
   clear hW5
   refine wp_region_held_drew (S := (fun w' => Sx w w' [(wr4.heap.size + 1, #[.bool false, .slice none 0 0, .slice none 0 0, .bool false, .slice none 0 0, .slice none 0 0], 86), (wr4.heap.size, A.arr, 42), (w2.heap.size, arr6 m1 m2, 86), (w.heap.size + 1, x3.arr, 42), (w.heap.size, arr6 x1 x2, 90)] [])) (by kernel_rfl) ((HS.out.drew).bare) (fun hh => ?_)
   replace HS := Lib.hid HS.out.drew
   replace HG := Lib.hid (HG.out.below (Below.refl _ _).drew)
   refine tkB (i := 0) (v := ?vk7) rfl ?hk7 ?rk7
   case hk7 => intro u hSu; (try dsimp only at hSu); obtain ⟨qb2c0, qb2c1, qb2c2, qb2c3, qb2c4, qb2c5, _⟩ := fac6 (x := m1) (y := m2) (hSu.at 2 _ _ _ rfl); clear hSu; go_simp <;> with_reducible rfl
   try simp only [nbs, Act.put]
   refine tkB (i := 2) (v := ?vk8) rfl ?hk8 ?rk8
   case hk8 => intro u hSu; (try dsimp only at hSu); obtain ⟨qb2c0, qb2c1, qb2c2, qb2c3, qb2c4, qb2c5, _⟩ := fac6 (x := m1) (y := m2) (hSu.at 2 _ _ _ rfl); clear hSu; go_simp <;> with_reducible rfl
   try simp only [nbs, Act.put]
   refine tkB (i := 4) (v := ?vk9) rfl ?hk9 ?rk9
   case hk9 => intro u hSu; (try dsimp only at hSu); obtain ⟨qb2c0, qb2c1, qb2c2, qb2c3, qb2c4, qb2c5, _⟩ := fac6 (x := m1) (y := m2) (hSu.at 2 _ _ _ rfl); clear hSu; go_simp <;> with_reducible rfl
   try simp only [nbs, Act.put]
   refine tkB (i := 6) (v := ?vk10) rfl ?hk10 ?rk10
   case hk10 => intro u hSu; (try dsimp only at hSu); obtain ⟨qb2c0, qb2c1, qb2c2, qb2c3, qb2c4, qb2c5, _⟩ := fac6 (x := m1) (y := m2) (hSu.at 2 _ _ _ rfl); clear hSu; go_simp <;> with_reducible rfl
   try simp only [nbs, Act.put]
   refine tkB (i := 9) (v := ?vk11) rfl ?hk11 ?rk11
   case hk11 => intro u hSu; go_simp <;> with_reducible rfl
   try simp only [nbs, Act.put]
   refine rdA (i := 1) rfl (fun K hK => ?_)
   go_simp
   have a13 := HS.out.p 2 _ _ rfl
   have a14 := HS.out.p 1 _ _ rfl
   go_wp2_with (go_at_call 61; (with_reducible refine (rlo_any t0 t1 _ _ (rngP a13 a14)).mono ?_); rintro e w12 ⟨v12, rfl, hv12, hb12⟩; obtain ⟨z12, rfl⟩ := hv12.open3)
   refine hK.out _ _ (Sx.below hh hb12) (fun hh => ?_)
   clear hK K
   try simp only [nbs, Act.put]
   replace HS := Lib.hid (HS.out.below hb12)
   replace HG := Lib.hid (HG.out.below hb12)
   clear hb12 a13 a14
   replace HS := Lib.hid (HS.out.addP hv12)
   clear hv12
   refine rdA (i := 3) rfl (fun K hK => ?_)
   go_simp
   have a16 := HS.out.p 3 _ _ rfl
   have a17 := HS.out.p 2 _ _ rfl
   go_wp2_with (go_at_call 61; (with_reducible refine (rlo_any t0 t1 _ _ (rngP a16 a17)).mono ?_); rintro e w15 ⟨v15, rfl, hv15, hb15⟩; obtain ⟨z15, rfl⟩ := hv15.open3)
   refine hK.out _ _ (Sx.below hh hb15) (fun hh => ?_)
   clear hK K
   try simp only [nbs, Act.put]
   replace HS := Lib.hid (HS.out.below hb15)
   replace HG := Lib.hid (HG.out.below hb15)
   clear hb15 a16 a17
   replace HS := Lib.hid (HS.out.addP hv15)
   clear hv15
   refine rdA (i := 5) rfl (fun K hK => ?_)
   go_simp
   have a19 := HS.out.p 4 _ _ rfl
   have a20 := HS.out.p 3 _ _ rfl
   go_wp2_with (go_at_call 69; (with_reducible refine (rhi_any t0 t1 _ _ (rngP a19 a20)).mono ?_); rintro e w18 ⟨v18, rfl, hv18, hb18⟩; obtain ⟨z18, rfl⟩ := hv18.open3)
   refine hK.out _ _ (Sx.below hh hb18) (fun hh => ?_)
   clear hK K
   try simp only [nbs, Act.put]
   replace HS := Lib.hid (HS.out.below hb18)
   replace HG := Lib.hid (HG.out.below hb18)
   clear hb18 a19 a20
   replace HS := Lib.hid (HS.out.addP hv18)
   clear hv18
   refine rdA (i := 7) rfl (fun K hK => ?_)
   go_simp
   have a22 := HS.out.p 5 _ _ rfl
   have a23 := HS.out.p 4 _ _ rfl
   go_wp2_with (go_at_call 69; (with_reducible refine (rhi_any t0 t1 _ _ (rngP a22 a23)).mono ?_); rintro e w21 ⟨v21, rfl, hv21, hb21⟩; obtain ⟨z21, rfl⟩ := hv21.open3)
   refine hK.out _ _ (Sx.below hh hb21) (fun hh => ?_)
   clear hK K
   try simp only [nbs, Act.put]
   replace HS := Lib.hid (HS.out.below hb21)
   replace HG := Lib.hid (HG.out.below hb21)
   clear hb21 a22 a23
   replace HS := Lib.hid (HS.out.addP hv21)
   clear hv21
   refine tkB (i := 8) (v := ?vk24) rfl ?hk24 ?rk24
   case hk24 => intro u hSu; go_simp <;> with_reducible rfl
   try simp only [nbs, Act.put]
   refine wpAnyH_done (by kernel_rfl) ?_ _
   go_wp2_with fail
   go_loopw [35] (fun u35 wr => ∃ (j : Nat) (n1 n2 : R3), j ≤ 4 ∧ u35 = .int .i64 j ∧ Hid (Sx w wr [(wr4.heap.size + 1, arr6 n1 n2, 86), (wr4.heap.size, A.arr, 42), (w2.heap.size, arr6 m1 m2, 86), (w.heap.size + 1, x3.arr, 42), (w.heap.size, arr6 x1 x2, 90)] [(true, n2.val, (nxH t0 t1 l0 l1 a j)), (true, n1.val, (nxL t0 t1 l0 l1 a j)), (true, z21.val, t1), (true, z18.val, t1), (true, z15.val, t0), (true, z12.val, t0), (true, A.val, a), (true, m2.val, t1), (true, m1.val, t0), (true, x3.val, S), (true, x2.val, l1), (true, x1.val, l0)]) ∧ Hid (GsR w wr [(wr4.heap.size + 1, arr6 n1 n2, 86), (wr4.heap.size, A.arr, 42), (w2.heap.size, arr6 m1 m2, 86), (w.heap.size + 1, x3.arr, 42), (w.heap.size, arr6 x1 x2, 90)] [⟨86, true, 2, rv, rx, (flR S l0 l1 k aq i)⟩]))
    (fun u _ => 4 - (intOf u).toNat)
   case atStart => exact ⟨0, r30, r30, Nat.zero_le _, rfl, Lib.hid (((((((((((((HS.out.bare).addP (HS.out.p 9 _ _ rfl)).addP (HS.out.p 8 _ _ rfl)).addP (HS.out.p 7 _ _ rfl)).addP (HS.out.p 6 _ _ rfl)).addP (HS.out.p 5 _ _ rfl)).addP (HS.out.p 4 _ _ rfl)).addP (HS.out.p 3 _ _ rfl)).addP (HS.out.p 2 _ _ rfl)).addP (HS.out.p 1 _ _ rfl)).addP (HS.out.p 0 _ _ rfl)).addP (isRat_r30 _)).addP (isRat_r30 _)), HG⟩
   case round =>
    obtain ⟨wr25, hwr25⟩ : ∃ z, z = wr := ⟨_, rfl⟩
    subst hwr25
    clear HS HG
    obtain ⟨j, n1, n2, hi, rfl, HS, HG⟩ := hrel
    by_cases hlt : j < 4
    ·
     have hlt' : (j : Int) < 4 := by omega
     have hge' : (0 : Int) ≤ j := by omega
     have HLT := Lib.hid hlt
     have HNX := Lib.hid (nx_sz ST0.out ST1.out SL0.out SL1.out SA.out j)
     have HNL := Lib.hid (nx_le t0 t1 l0 l1 a j)
     have hj4 : j = 0 ∨ j = 1 ∨ j = 2 ∨ j = 3 := by omega
     obtain ⟨TT, tq, lq, e, hix, hTT, he2, hr1, hsq, hpk, hzt, hzl⟩ : ∃ (TT : R3) (tq lq : Rat) (e : Nat), (∀ w, (Instr.index 218 (.agg #[.bool z12.b, .slice z12.a z12.n z12.c, .slice z12.d z12.m z12.e, .bool z15.b, .slice z15.a z15.n z15.c, .slice z15.d z15.m z15.e, .bool z18.b, .slice z18.a z18.n z18.c, .slice z18.d z18.m z18.e, .bool z21.b, .slice z21.a z21.n z21.c, .slice z21.d z21.m z21.e]) (.int .i64 (j : Int))).run Tryz.prog w = .ok TT.val w) ∧ IsRat wr25 TT.val tq ∧ e < 2 ∧ j % 2 = e ∧ nxStep t0 t1 l0 l1 a tq lq j ∧ (∀ x y w, Fr true w x.val l0 → Fr true w y.val l1 → Fr true w (pk2 x y e).val lq) ∧ szR tq 1000 ∧ szR lq 1000 := by
      rcases hj4 with rfl | rfl | rfl | rfl
      ·
       exact ⟨z12, t0, l0, 0, fun w => idx__4_ratio_Ratio_0 z12 z15 z18 z21 w, (HS.out.p 5 _ _ rfl), by omega, rfl, ⟨fun _ => ⟨rfl, rfl⟩, fun h => absurd rfl h⟩, fun _ _ _ h1 _ => h1, ST0.out, SL0.out⟩
      ·
       exact ⟨z15, t0, l1, 1, fun w => idx__4_ratio_Ratio_1 z12 z15 z18 z21 w, (HS.out.p 4 _ _ rfl), by omega, rfl, ⟨fun h => absurd h (by omega), fun _ => ⟨rfl, rfl⟩⟩, fun _ _ _ _ h2 => h2, ST0.out, SL1.out⟩
      ·
       exact ⟨z18, t1, l0, 0, fun w => idx__4_ratio_Ratio_2 z12 z15 z18 z21 w, (HS.out.p 3 _ _ rfl), by omega, rfl, ⟨fun h => absurd h (by omega), fun _ => ⟨rfl, rfl⟩⟩, fun _ _ _ h1 _ => h1, ST1.out, SL0.out⟩
      ·
       exact ⟨z21, t1, l1, 1, fun w => idx__4_ratio_Ratio_3 z12 z15 z18 z21 w, (HS.out.p 2 _ _ rfl), by omega, rfl, ⟨fun h => absurd h (by omega), fun _ => ⟨rfl, rfl⟩⟩, fun _ _ _ _ h2 => h2, ST1.out, SL1.out⟩
     have HIX := Lib.hid hix
     have HE2 := Lib.hid he2
     have HNS := Lib.hid hsq
     have HPK := Lib.hid hpk
     have STQ := Lib.hid hzt
     have SLQ := Lib.hid hzl
     have hr2 : Int.tmod (j : Int) 2 = (e : Int) := by rw [Int.tmod_eq_emod_of_nonneg (by omega)]; omega
     have hr3 : (j : Int) % 2 = (e : Int) := by omega
     have hr4 : IntKind.i64.wrap (e : Int) = (e : Int) := IntWalk.i64_in _ (by omega)
     replace HS := Lib.hid (HS.out.addP hTT)
     clear hix hTT he2 hsq hpk hzt hzl hlt hj4
     have ix26 := HIX.out
     go_wp2_with fail
     clear ix26
     generalize hW27 : (wr25).alloc (.cells _ _) = W27 at *
     replace HG := Lib.hid (((HG.out).alloc (B := wr25.heap.size) rfl).to hW27 (by (try simp only [nb5, nb6]); rfl))
     replace HS := Lib.hid (((HS.out).alloc (B := wr25.heap.size) rfl (by rfl)).to hW27 (by (try simp only [nb5, nb6]); rfl))
     clear hW27
     refine wp_region_held_drew (S := (fun w' => Sx w w' [(wr25.heap.size, TT.arr, 42), (wr4.heap.size + 1, arr6 n1 n2, 86), (wr4.heap.size, A.arr, 42), (w2.heap.size, arr6 m1 m2, 86), (w.heap.size + 1, x3.arr, 42), (w.heap.size, arr6 x1 x2, 90)] [])) (by kernel_rfl) ((HS.out.drew).bare) (fun hh => ?_)
     replace HS := Lib.hid HS.out.drew
     replace HG := Lib.hid (HG.out.below (Below.refl _ _).drew)
     have HSW := Lib.hid HS.out.bel.size
     refine tkB (i := 0) (v := ?vk29) rfl ?hk29 ?rk29
     case hk29 => intro u hSu; go_simp <;> with_reducible rfl
     try simp only [nbs, Act.put]
     refine tkB (i := 1) (v := ?vk30) rfl ?hk30 ?rk30
     case hk30 => intro u hSu; (try dsimp only at hSu); obtain ⟨qb0c0, qb0c1, qb0c2, qb0c3, qb0c4, qb0c5, _⟩ := fac6 (x := x1) (y := x2) (hSu.at 5 _ _ _ rfl); clear hSu; go_simp <;> with_reducible rfl
     try simp only [nbs, Act.put]
     refine tkB (i := 3) (v := ?vk31) rfl ?hk31 ?rk31
     case hk31 => intro u hSu; go_simp <;> with_reducible rfl
     try simp only [nbs, Act.put]
     refine tkB (i := 4) (v := ?vk32) rfl ?hk32 ?rk32
     case hk32 => intro u hSu; (try dsimp only at hSu); obtain ⟨qb0c0, qb0c1, qb0c2, qb0c3, qb0c4, qb0c5, _⟩ := fac6 (x := x1) (y := x2) (hSu.at 5 _ _ _ rfl); clear hSu; go_simp <;> with_reducible rfl
     try simp only [nbs, Act.put]
     refine tkB (i := 7) (v := ?vk33) rfl ?hk33 ?rk33
     case hk33 => intro u hSu; go_simp <;> with_reducible rfl
     try simp only [nbs, Act.put]
     refine tkB (i := 8) (v := ?vk34) rfl ?hk34 ?rk34
     case hk34 => intro u hSu; go_simp <;> with_reducible rfl
     try simp only [nbs, Act.put]
     refine wpAnyH_modular [2, 5, 6, 9, 10] [2, 5, 10] [6, 9] [41, 44, 45, 48, 16] #[true, true, true, true, true, true, true, true, true, true, true, false] 1 [(2, 41), (5, 44), (6, 45), (9, 48), (10, 16)] [(2, []), (5, [2]), (6, [2, 5]), (9, [6]), (10, [])] [10] [(2, fun v w => ∃ z35 : R3, v = z35.val ∧ Fr true w z35.val l0), (5, fun v w => ∃ z36 : R3, v = z36.val ∧ Fr true w z36.val l1), (6, fun v w => ∃ z35q6 z36q6 : R3, v = .agg #[.bool z35q6.b, .slice z35q6.a z35q6.n z35q6.c, .slice z35q6.d z35q6.m z35q6.e, .bool z36q6.b, .slice z36q6.a z36q6.n z36q6.c, .slice z36q6.d z36q6.m z36q6.e] ∧ Fr true w z35q6.val l0 ∧ Fr true w z36q6.val l1), (9, fun v w => ∃ yr28q9 : R3, v = yr28q9.val ∧ Fr true w yr28q9.val lq), (10, fun v w => ∃ Br28_10 : Nat, v = .pointer (some ⟨Br28_10, 0, none⟩) ∧ W27.drew.heap.size ≤ Br28_10 ∧ w.heap[Br28_10]? = some (.cells #[.bool false, .slice none 0 0, .slice none 0 0] 42 (0, 0)))]
      rfl (by kernel_rfl) (by decide) rfl ⟨(fun v w w' hb ⟨z0, e, h0⟩ => ⟨z0, e, Fr.below h0 hb⟩), ⟨(fun v w w' hb ⟨z0, e, h0⟩ => ⟨z0, e, Fr.below h0 hb⟩), ⟨(fun v w w' hb ⟨z0, z1, e, h0, h1⟩ => ⟨z0, z1, e, Fr.below h0 hb, Fr.below h1 hb⟩), ⟨(fun v w w' hb ⟨z0, e, h0⟩ => ⟨z0, e, Fr.below h0 hb⟩), ⟨(fun v w w' hb ⟨B, e, g, k⟩ => ⟨B, e, g, blk_keep k hb (blk_lt k)⟩), trivial⟩⟩⟩⟩⟩ ⟨fun v w ⟨B, e, g, k⟩ => ⟨B, e, blk_lt k⟩, trivial⟩ (fun w' hb => Sx.below hh hb) ⟨?_, ?_, ?_, trivial⟩ ⟨?_, ?_, trivial⟩ (by decide) ?_
     ·
      refine StepM.of rfl (fun f w' hb hp K hK => ?_)
      have HSB := HS
      replace HS := Lib.hid (HS.out.below hb)
      simp only [fillA, fillT, List.foldl_cons, List.foldl_nil, Act.put, nb4, nb5, nb6]
      have a37 := HS.out.p 12 _ _ rfl
      have a38 := HS.out.p 11 _ _ rfl
      go_simp
      go_wp2_with (go_at_call 61; (with_reducible refine (rlo_any l0 l1 _ _ (rngP a37 a38)).mono ?_); rintro e w35 ⟨v35, rfl, hv35, hb35⟩; obtain ⟨z35, rfl⟩ := hv35.open3)
      exact hK.out _ _ (z35.val) (by simp only [fillA, fillT, List.foldl_cons, List.foldl_nil, Act.put, nb4, nb5, nb6, nb1, nb2, nb3]) ⟨z35, rfl, hv35⟩ (fun h => absurd h (by decide)) hb35
     ·
      refine StepM.of rfl (fun f w' hb hp K hK => ?_)
      have HSB := HS
      replace HS := Lib.hid (HS.out.below hb)
      simp only [fillA, fillT, List.foldl_cons, List.foldl_nil, Act.put, nb4, nb5, nb6]
      have a39 := HS.out.p 12 _ _ rfl
      have a40 := HS.out.p 11 _ _ rfl
      go_simp
      go_wp2_with (go_at_call 69; (with_reducible refine (rhi_any l0 l1 _ _ (rngP a39 a40)).mono ?_); rintro e w36 ⟨v36, rfl, hv36, hb36⟩; obtain ⟨z36, rfl⟩ := hv36.open3)
      exact hK.out _ _ (z36.val) (by simp only [fillA, fillT, List.foldl_cons, List.foldl_nil, Act.put, nb4, nb5, nb6, nb1, nb2, nb3]) ⟨z36, rfl, hv36⟩ (fun h => absurd h (by decide)) hb36
     ·
      refine StepM.of rfl (fun f w' hb hp K hK => ?_)
      have HSB := HS
      replace HS := Lib.hid (HS.out.below hb)
      simp only [fillA, fillT, List.foldl_cons, List.foldl_nil, Act.put, nb4, nb5, nb6]
      go_simp
      exact hK.out _ _ (.pointer (some ⟨w'.heap.size, 0, none⟩)) (by simp only [fillA, fillT, List.foldl_cons, List.foldl_nil, Act.put, nb4, nb5, nb6, nb1, nb2, nb3]) ⟨_, rfl, hb.size, blk_new _ _ _⟩ (fun _ => rfl) (below1 w' _)
     ·
      refine EagerM.of rfl (fun f w' hb hp => ?_)
      obtain ⟨z35, e2, h2_0⟩ : ∃ z35 : R3, f 41 = z35.val ∧ Fr true w' z35.val l0 := hp 2 (by decide)
      obtain ⟨z36, e5, h5_0⟩ : ∃ z36 : R3, f 44 = z36.val ∧ Fr true w' z36.val l1 := hp 5 (by decide)
      refine ⟨.agg #[.bool z35.b, .slice z35.a z35.n z35.c, .slice z35.d z35.m z35.e, .bool z36.b, .slice z36.a z36.n z36.c, .slice z36.d z36.m z36.e], ⟨z35, z36, rfl, h2_0, h5_0⟩, by first | rfl | kernel_rfl, fun u => ?_⟩
      simp only [fillA, fillT, List.foldl_cons, List.foldl_nil, Act.put, nb4, nb5, nb6, e2, e5]
      go_simp <;> with_reducible rfl
     ·
      refine EagerM.of rfl (fun f w' hb hp => ?_)
      obtain ⟨z35q6, z36q6, e6, h6_0, h6_1⟩ : ∃ z35q6 z36q6 : R3, f 45 = .agg #[.bool z35q6.b, .slice z35q6.a z35q6.n z35q6.c, .slice z35q6.d z35q6.m z35q6.e, .bool z36q6.b, .slice z36q6.a z36q6.n z36q6.c, .slice z36q6.d z36q6.m z36q6.e] ∧ Fr true w' z35q6.val l0 ∧ Fr true w' z36q6.val l1 := hp 6 (by decide)
      refine ⟨(pk2 z35q6 z36q6 e).val, ⟨(pk2 z35q6 z36q6 e), rfl, (HPK.out _ _ _ h6_0 h6_1)⟩, by first | rfl | kernel_rfl, fun u => ?_⟩
      simp only [fillA, fillT, List.foldl_cons, List.foldl_nil, Act.put, nb4, nb5, nb6, e6]
      have fq := idx2_any z35q6 z36q6 e HE2.out
      go_simp <;> with_reducible rfl
     ·
      intro f wr28 hb hp hd
      obtain ⟨z35, e2, h2_0⟩ : ∃ z35 : R3, f 41 = z35.val ∧ Fr true wr28 z35.val l0 := hp 2 (by decide)
      obtain ⟨z36, e5, h5_0⟩ : ∃ z36 : R3, f 44 = z36.val ∧ Fr true wr28 z36.val l1 := hp 5 (by decide)
      obtain ⟨z35q6, z36q6, e6, h6_0, h6_1⟩ : ∃ z35q6 z36q6 : R3, f 45 = .agg #[.bool z35q6.b, .slice z35q6.a z35q6.n z35q6.c, .slice z35q6.d z35q6.m z35q6.e, .bool z36q6.b, .slice z36q6.a z36q6.n z36q6.c, .slice z36q6.d z36q6.m z36q6.e] ∧ Fr true wr28 z35q6.val l0 ∧ Fr true wr28 z36q6.val l1 := hp 6 (by decide)
      obtain ⟨yr28q9, e9, h9_0⟩ : ∃ yr28q9 : R3, f 48 = yr28q9.val ∧ Fr true wr28 yr28q9.val lq := hp 9 (by decide)
      obtain ⟨Br28_10, e10, g10, k10⟩ : ∃ Br28_10 : Nat, f 16 = .pointer (some ⟨Br28_10, 0, none⟩) ∧ W27.drew.heap.size ≤ Br28_10 ∧ wr28.heap[Br28_10]? = some (.cells #[.bool false, .slice none 0 0, .slice none 0 0] 42 (0, 0)) := hp 10 (by decide)
      replace hh := Sx.below hh hb
      have hlt := HS.out.lt
      replace HS := Lib.hid (HS.out.below hb)
      have hltg := HG.out.row
      replace HG := Lib.hid (HG.out.below hb)
      replace HS := Lib.hid (HS.out.addP h2_0)
      replace HS := Lib.hid (HS.out.addP h5_0)
      replace HS := Lib.hid (HS.out.addP h6_0)
      replace HS := Lib.hid (HS.out.addP h6_1)
      replace HS := Lib.hid (HS.out.addP h9_0)
      have hge10 : w.heap.size ≤ Br28_10 := Nat.le_trans HSW.out g10
      have hne10 : ∀ b, b ∈ ([(wr25.heap.size, TT.arr, 42), (wr4.heap.size + 1, arr6 n1 n2, 86), (wr4.heap.size, A.arr, 42), (w2.heap.size, arr6 m1 m2, 86), (w.heap.size + 1, x3.arr, 42), (w.heap.size, arr6 x1 x2, 90)] : List Bx) → b.1 ≠ Br28_10 := by
       intro b hb
       simp only [List.mem_cons, List.not_mem_nil, or_false] at hb
       rcases hb with rfl | rfl | rfl | rfl | rfl | rfl
       ·
        have := hlt _ (List.mem_iff_getElem?.2 ⟨0, rfl⟩); dsimp only at this ⊢; omega
       ·
        have := hlt _ (List.mem_iff_getElem?.2 ⟨1, rfl⟩); dsimp only at this ⊢; omega
       ·
        have := hlt _ (List.mem_iff_getElem?.2 ⟨2, rfl⟩); dsimp only at this ⊢; omega
       ·
        have := hlt _ (List.mem_iff_getElem?.2 ⟨3, rfl⟩); dsimp only at this ⊢; omega
       ·
        have := hlt _ (List.mem_iff_getElem?.2 ⟨4, rfl⟩); dsimp only at this ⊢; omega
       ·
        have := hlt _ (List.mem_iff_getElem?.2 ⟨5, rfl⟩); dsimp only at this ⊢; omega
      replace HS := Lib.hid (HS.out.addBox k10 hge10 (by rfl) hne10)
      replace HG := Lib.hid (HG.out.box (B := Br28_10) (T := 42) (cs := #[.bool false, .slice none 0 0, .slice none 0 0]) (fun g hg hc => by obtain ⟨n, hn⟩ := List.mem_iff_getElem?.1 hg; have := ((hltg n g hn).lt hc).1; have := g10; omega))
      simp only [fillA, fillT, List.foldl_cons, List.foldl_nil, Act.put, nb4, nb5, nb6, e2, e5, e6, e9, e10]
      clear hp hd hb hlt e2 e5 e6 e9 e10 hltg
      refine rdA (i := 11) rfl (fun K hK => ?_)
      have b6e := (HS.out.at 0 _ _ _ rfl)
      have b6c0 := blk_cell b6e 0 (.bool false) rfl
      have b6c1 := blk_cell b6e 1 (.slice none 0 0) rfl
      have b6c2 := blk_cell b6e 2 (.slice none 0 0) rfl
      have b6f0 := blk_frozen b6e 0
      have b6f1 := blk_frozen b6e 1
      have b6f2 := blk_frozen b6e 2
      have b6l := blk_lt b6e
      clear b6e
      go_simp
      refine hK.out _ _ ((((HS.out).st_R 0 r30 yr28q9 rfl)).erase 0) (fun hh => ?_)
      clear hK K b6c0 b6c1 b6c2 b6f0 b6f1 b6f2 b6l
      try simp only [nbs, Act.put]
      generalize hW41 : (((wr28).setCell _ _).setCell _ _).setCell _ _ = W41 at *
      replace HG := Lib.hid (((HG.out).st_R (HS.out) 0 r30 yr28q9 rfl).to hW41 (by (try simp only [nb5, nb6]); rfl))
      replace HS := Lib.hid (((HS.out).st_R 0 r30 yr28q9 rfl).to hW41 (by (try simp only [nb5, nb6]); rfl))
      clear hW41
      refine wpAnyH_done (by kernel_rfl) ?_ _
      go_wp2_with fail
      refine wp_region_held_drew (S := (fun w' => Sx w w' [(Br28_10, yr28q9.arr, 42), (wr25.heap.size, TT.arr, 42), (wr4.heap.size + 1, arr6 n1 n2, 86), (wr4.heap.size, A.arr, 42), (w2.heap.size, arr6 m1 m2, 86), (w.heap.size + 1, x3.arr, 42), (w.heap.size, arr6 x1 x2, 90)] [])) (by kernel_rfl) ((HS.out.drew).bare) (fun hh => ?_)
      replace HS := Lib.hid HS.out.drew
      replace HG := Lib.hid (HG.out.below (Below.refl _ _).drew)
      have HSW := Lib.hid HS.out.bel.size
      refine tkB (i := 0) (v := ?vk43) rfl ?hk43 ?rk43
      case hk43 => intro u hSu; (try dsimp only at hSu); obtain ⟨qb5c0, qb5c1, qb5c2, _⟩ := fac3 (x := TT) (hSu.at 1 _ _ _ rfl); clear hSu; go_simp <;> with_reducible rfl
      try simp only [nbs, Act.put]
      refine tkB (i := 1) (v := ?vk44) rfl ?hk44 ?rk44
      case hk44 => intro u hSu; (try dsimp only at hSu); obtain ⟨qb6c0, qb6c1, qb6c2, _⟩ := fac3 (x := yr28q9) (hSu.at 0 _ _ _ rfl); clear hSu; go_simp <;> with_reducible rfl
      try simp only [nbs, Act.put]
      refine tkB (i := 2) (v := ?vk45) rfl ?hk45 ?rk45
      case hk45 => intro u hSu; (try dsimp only at hSu); obtain ⟨qb3c0, qb3c1, qb3c2, _⟩ := fac3 (x := A) (hSu.at 3 _ _ _ rfl); clear hSu; go_simp <;> with_reducible rfl
      try simp only [nbs, Act.put]
      refine tkB (i := 3) (v := ?vk46) rfl ?hk46 ?rk46
      case hk46 => intro u hSu; (try dsimp only at hSu); obtain ⟨qb5c0, qb5c1, qb5c2, _⟩ := fac3 (x := TT) (hSu.at 1 _ _ _ rfl); clear hSu; go_simp <;> with_reducible rfl
      try simp only [nbs, Act.put]
      refine wpAnyH_modular [4, 5, 6, 7, 8] [4, 5, 6, 7, 8] [] [53, 54, 55, 56, 17] #[true, true, true, true, true, true, true, true, true, false] 1 [(4, 53), (5, 54), (6, 55), (7, 56), (8, 17)] [(4, []), (5, [4]), (6, [5]), (7, [6]), (8, [])] [8] [(4, fun v w => ∃ z47 : R3, v = z47.val ∧ Fr true w z47.val (a - tq)), (5, fun v w => ∃ z48 : R3, v = z48.val ∧ Fr true w z48.val (lq * (a - tq))), (6, fun v w => ∃ z49 : R3, v = z49.val ∧ Fr true w z49.val (tq + (lq * (a - tq)))), (7, fun v w => ∃ z50a z50b : R3, v = .agg #[.bool z50a.b, .slice z50a.a z50a.n z50a.c, .slice z50a.d z50a.m z50a.e, .bool z50b.b, .slice z50b.a z50b.n z50b.c, .slice z50b.d z50b.m z50b.e] ∧ Fr true w z50a.val (tq + (lq * (a - tq))) ∧ Fr true w z50b.val (tq + (lq * (a - tq)))), (8, fun v w => ∃ Br42_8 : Nat, v = .pointer (some ⟨Br42_8, 0, none⟩) ∧ W41.drew.heap.size ≤ Br42_8 ∧ w.heap[Br42_8]? = some (.cells #[.bool false, .slice none 0 0, .slice none 0 0, .bool false, .slice none 0 0, .slice none 0 0] 86 (0, 0)))]
       rfl (by kernel_rfl) (by decide) rfl ⟨(fun v w w' hb ⟨z0, e, h0⟩ => ⟨z0, e, Fr.below h0 hb⟩), ⟨(fun v w w' hb ⟨z0, e, h0⟩ => ⟨z0, e, Fr.below h0 hb⟩), ⟨(fun v w w' hb ⟨z0, e, h0⟩ => ⟨z0, e, Fr.below h0 hb⟩), ⟨(fun v w w' hb ⟨z0, z1, e, h0, h1⟩ => ⟨z0, z1, e, Fr.below h0 hb, Fr.below h1 hb⟩), ⟨(fun v w w' hb ⟨B, e, g, k⟩ => ⟨B, e, g, blk_keep k hb (blk_lt k)⟩), trivial⟩⟩⟩⟩⟩ ⟨fun v w ⟨B, e, g, k⟩ => ⟨B, e, blk_lt k⟩, trivial⟩ (fun w' hb => Sx.below hh hb) ⟨?_, ?_, ?_, ?_, ?_, trivial⟩ trivial (by decide) ?_
      ·
       refine StepM.of rfl (fun f w' hb hp K hK => ?_)
       have HSB := HS
       replace HS := Lib.hid (HS.out.below hb)
       simp only [fillA, fillT, List.foldl_cons, List.foldl_nil, Act.put, nb4, nb5, nb6]
       have a51 := HS.out.p 12 _ _ rfl
       have a52 := HS.out.p 5 _ _ rfl
       go_simp
       go_wp2_with (go_at_call 34; (with_reducible refine (subRat_any a tq _ _ _ a51 a52 (szR_mono SA.out (by omega)) (szR_mono STQ.out (by omega))).mono ?_); rintro e w47 ⟨v47, rfl, hv47, hb47⟩; obtain ⟨z47, rfl⟩ := hv47.open3)
       exact hK.out _ _ (z47.val) (by simp only [fillA, fillT, List.foldl_cons, List.foldl_nil, Act.put, nb4, nb5, nb6, nb1, nb2, nb3]) ⟨z47, rfl, hv47⟩ (fun h => absurd h (by decide)) hb47
      ·
       refine StepM.of rfl (fun f w' hb hp K hK => ?_)
       obtain ⟨z47, e4, h4_0⟩ : ∃ z47 : R3, f 53 = z47.val ∧ Fr true w' z47.val (a - tq) := hp 4 (by decide)
       have HSB := HS
       replace HS := Lib.hid (HS.out.below hb)
       replace HS := Lib.hid (HS.out.addP h4_0)
       simp only [fillA, fillT, List.foldl_cons, List.foldl_nil, Act.put, nb4, nb5, nb6, e4]
       have a53 := HS.out.p 1 _ _ rfl
       have a54 := HS.out.p 0 _ _ rfl
       go_simp
       go_wp2_with (go_at_call 33; (with_reducible refine (mulRat_any lq (a - tq) _ _ _ a53 a54 (szR_mono SLQ.out (by omega)) (szR_mono (szR_sub SA.out STQ.out) (by omega))).mono ?_); rintro e w48 ⟨v48, rfl, hv48, hb48⟩; obtain ⟨z48, rfl⟩ := hv48.open3)
       exact hK.out _ _ (z48.val) (by simp only [fillA, fillT, List.foldl_cons, List.foldl_nil, Act.put, nb4, nb5, nb6, nb1, nb2, nb3, e4]) ⟨z48, rfl, hv48⟩ (fun h => absurd h (by decide)) hb48
      ·
       refine StepM.of rfl (fun f w' hb hp K hK => ?_)
       obtain ⟨z48, e5, h5_0⟩ : ∃ z48 : R3, f 54 = z48.val ∧ Fr true w' z48.val (lq * (a - tq)) := hp 5 (by decide)
       have HSB := HS
       replace HS := Lib.hid (HS.out.below hb)
       replace HS := Lib.hid (HS.out.addP h5_0)
       simp only [fillA, fillT, List.foldl_cons, List.foldl_nil, Act.put, nb4, nb5, nb6, e5]
       have a55 := HS.out.p 6 _ _ rfl
       have a56 := HS.out.p 0 _ _ rfl
       go_simp
       go_wp2_with (go_at_call 32; (with_reducible refine (addRat_any tq (lq * (a - tq)) _ _ _ a55 a56 (szR_mono STQ.out (by omega)) (szR_mono (szR_mul SLQ.out (szR_sub SA.out STQ.out)) (by omega))).mono ?_); rintro e w49 ⟨v49, rfl, hv49, hb49⟩; obtain ⟨z49, rfl⟩ := hv49.open3)
       exact hK.out _ _ (z49.val) (by simp only [fillA, fillT, List.foldl_cons, List.foldl_nil, Act.put, nb4, nb5, nb6, nb1, nb2, nb3, e5]) ⟨z49, rfl, hv49⟩ (fun h => absurd h (by decide)) hb49
      ·
       refine StepM.of rfl (fun f w' hb hp K hK => ?_)
       obtain ⟨z49, e6, h6_0⟩ : ∃ z49 : R3, f 55 = z49.val ∧ Fr true w' z49.val (tq + (lq * (a - tq))) := hp 6 (by decide)
       have HSB := HS
       replace HS := Lib.hid (HS.out.below hb)
       replace HS := Lib.hid (HS.out.addP h6_0)
       simp only [fillA, fillT, List.foldl_cons, List.foldl_nil, Act.put, nb4, nb5, nb6, e6]
       have a57 := HS.out.p 0 _ _ rfl
       go_simp
       go_wp2_with (go_at_call 28; (with_reducible refine (only_any (tq + (lq * (a - tq))) _ _ a57).mono ?_); rintro e w50 ⟨v50, rfl, ⟨z50a, z50b, rfl, hv50, hw50⟩, hb50⟩)
       exact hK.out _ _ (.agg #[.bool z50a.b, .slice z50a.a z50a.n z50a.c, .slice z50a.d z50a.m z50a.e, .bool z50b.b, .slice z50b.a z50b.n z50b.c, .slice z50b.d z50b.m z50b.e]) (by simp only [fillA, fillT, List.foldl_cons, List.foldl_nil, Act.put, nb4, nb5, nb6, nb1, nb2, nb3, e6]) ⟨z50a, z50b, rfl, hv50, hw50⟩ (fun h => absurd h (by decide)) hb50
      ·
       refine StepM.of rfl (fun f w' hb hp K hK => ?_)
       have HSB := HS
       replace HS := Lib.hid (HS.out.below hb)
       simp only [fillA, fillT, List.foldl_cons, List.foldl_nil, Act.put, nb4, nb5, nb6]
       go_simp
       exact hK.out _ _ (.pointer (some ⟨w'.heap.size, 0, none⟩)) (by simp only [fillA, fillT, List.foldl_cons, List.foldl_nil, Act.put, nb4, nb5, nb6, nb1, nb2, nb3]) ⟨_, rfl, hb.size, blk_new _ _ _⟩ (fun _ => rfl) (below1 w' _)
      ·
       intro f wr42 hb hp hd
       obtain ⟨z47, e4, h4_0⟩ : ∃ z47 : R3, f 53 = z47.val ∧ Fr true wr42 z47.val (a - tq) := hp 4 (by decide)
       obtain ⟨z48, e5, h5_0⟩ : ∃ z48 : R3, f 54 = z48.val ∧ Fr true wr42 z48.val (lq * (a - tq)) := hp 5 (by decide)
       obtain ⟨z49, e6, h6_0⟩ : ∃ z49 : R3, f 55 = z49.val ∧ Fr true wr42 z49.val (tq + (lq * (a - tq))) := hp 6 (by decide)
       obtain ⟨z50a, z50b, e7, h7_0, h7_1⟩ : ∃ z50a z50b : R3, f 56 = .agg #[.bool z50a.b, .slice z50a.a z50a.n z50a.c, .slice z50a.d z50a.m z50a.e, .bool z50b.b, .slice z50b.a z50b.n z50b.c, .slice z50b.d z50b.m z50b.e] ∧ Fr true wr42 z50a.val (tq + (lq * (a - tq))) ∧ Fr true wr42 z50b.val (tq + (lq * (a - tq))) := hp 7 (by decide)
       obtain ⟨Br42_8, e8, g8, k8⟩ : ∃ Br42_8 : Nat, f 17 = .pointer (some ⟨Br42_8, 0, none⟩) ∧ W41.drew.heap.size ≤ Br42_8 ∧ wr42.heap[Br42_8]? = some (.cells #[.bool false, .slice none 0 0, .slice none 0 0, .bool false, .slice none 0 0, .slice none 0 0] 86 (0, 0)) := hp 8 (by decide)
       replace hh := Sx.below hh hb
       have hlt := HS.out.lt
       replace HS := Lib.hid (HS.out.below hb)
       have hltg := HG.out.row
       replace HG := Lib.hid (HG.out.below hb)
       replace HS := Lib.hid (HS.out.addP h4_0)
       replace HS := Lib.hid (HS.out.addP h5_0)
       replace HS := Lib.hid (HS.out.addP h6_0)
       replace HS := Lib.hid (HS.out.addP h7_0)
       replace HS := Lib.hid (HS.out.addP h7_1)
       have hge8 : w.heap.size ≤ Br42_8 := Nat.le_trans HSW.out g8
       have hne8 : ∀ b, b ∈ ([(Br28_10, yr28q9.arr, 42), (wr25.heap.size, TT.arr, 42), (wr4.heap.size + 1, arr6 n1 n2, 86), (wr4.heap.size, A.arr, 42), (w2.heap.size, arr6 m1 m2, 86), (w.heap.size + 1, x3.arr, 42), (w.heap.size, arr6 x1 x2, 90)] : List Bx) → b.1 ≠ Br42_8 := by
        intro b hb
        simp only [List.mem_cons, List.not_mem_nil, or_false] at hb
        rcases hb with rfl | rfl | rfl | rfl | rfl | rfl | rfl
        ·
         have := hlt _ (List.mem_iff_getElem?.2 ⟨0, rfl⟩); dsimp only at this ⊢; omega
        ·
         have := hlt _ (List.mem_iff_getElem?.2 ⟨1, rfl⟩); dsimp only at this ⊢; omega
        ·
         have := hlt _ (List.mem_iff_getElem?.2 ⟨2, rfl⟩); dsimp only at this ⊢; omega
        ·
         have := hlt _ (List.mem_iff_getElem?.2 ⟨3, rfl⟩); dsimp only at this ⊢; omega
        ·
         have := hlt _ (List.mem_iff_getElem?.2 ⟨4, rfl⟩); dsimp only at this ⊢; omega
        ·
         have := hlt _ (List.mem_iff_getElem?.2 ⟨5, rfl⟩); dsimp only at this ⊢; omega
        ·
         have := hlt _ (List.mem_iff_getElem?.2 ⟨6, rfl⟩); dsimp only at this ⊢; omega
       replace HS := Lib.hid (HS.out.addBox k8 hge8 (by rfl) hne8)
       replace HG := Lib.hid (HG.out.box (B := Br42_8) (T := 86) (cs := #[.bool false, .slice none 0 0, .slice none 0 0, .bool false, .slice none 0 0, .slice none 0 0]) (fun g hg hc => by obtain ⟨n, hn⟩ := List.mem_iff_getElem?.1 hg; have := ((hltg n g hn).lt hc).1; have := g8; omega))
       simp only [fillA, fillT, List.foldl_cons, List.foldl_nil, Act.put, nb4, nb5, nb6, e4, e5, e6, e7, e8]
       clear hp hd hb hlt e4 e5 e6 e7 e8 hltg
       refine rdA (i := 9) rfl (fun K hK => ?_)
       have b7e := (HS.out.at 0 _ _ _ rfl)
       have b7c0 := blk_cell b7e 0 (.bool false) rfl
       have b7c1 := blk_cell b7e 1 (.slice none 0 0) rfl
       have b7c2 := blk_cell b7e 2 (.slice none 0 0) rfl
       have b7c3 := blk_cell b7e 3 (.bool false) rfl
       have b7c4 := blk_cell b7e 4 (.slice none 0 0) rfl
       have b7c5 := blk_cell b7e 5 (.slice none 0 0) rfl
       have b7f0 := blk_frozen b7e 0
       have b7f1 := blk_frozen b7e 1
       have b7f2 := blk_frozen b7e 2
       have b7f3 := blk_frozen b7e 3
       have b7f4 := blk_frozen b7e 4
       have b7f5 := blk_frozen b7e 5
       have b7l := blk_lt b7e
       clear b7e
       go_simp
       refine hK.out _ _ ((((HS.out).st_RR 0 r30 r30 z50a z50b rfl)).erase 0) (fun hh => ?_)
       clear hK K b7c0 b7c1 b7c2 b7c3 b7c4 b7c5 b7f0 b7f1 b7f2 b7f3 b7f4 b7f5 b7l
       try simp only [nbs, Act.put]
       generalize hW58 : ((((((wr42).setCell _ _).setCell _ _).setCell _ _).setCell _ _).setCell _ _).setCell _ _ = W58 at *
       replace HG := Lib.hid (((HG.out).st_RR (HS.out) 0 r30 r30 z50a z50b rfl).to hW58 (by (try simp only [nb5, nb6]); rfl))
       replace HS := Lib.hid (((HS.out).st_RR 0 r30 r30 z50a z50b rfl).to hW58 (by (try simp only [nb5, nb6]); rfl))
       clear hW58
       refine wpAnyH_done (by kernel_rfl) ?_ _
       cases t59 : ((j : Int) == 0) with
       | true =>
        have HJ0 : Hid (j = 0) := by show _ = _; have := beq_iff_eq.1 t59; omega
        have tj1 : (j == 0) = true := by have := HJ0.out; simpa using this
        obtain ⟨b7c0, b7c1, b7c2, b7c3, b7c4, b7c5, b7f0, b7f1, b7f2, b7f3, b7f4, b7f5⟩ := fac6 (x := z50a) (y := z50b) (HS.out.at 0 _ _ _ rfl)
        have b7l := blk_lt (HS.out.at 0 _ _ _ rfl)
        obtain ⟨b4c0, b4c1, b4c2, b4c3, b4c4, b4c5, b4f0, b4f1, b4f2, b4f3, b4f4, b4f5⟩ := fac6 (x := n1) (y := n2) (HS.out.at 3 _ _ _ rfl)
        have b4l := blk_lt (HS.out.at 3 _ _ _ rfl)
        have bn7_4 := HS.out.ne 0 3 rfl rfl (by decide)
        go_wp2_with fail
        clear b7c0 b7c1 b7c2 b7c3 b7c4 b7c5 b7f0 b7f1 b7f2 b7f3 b7f4 b7f5 b7l b4c0 b4c1 b4c2 b4c3 b4c4 b4c5 b4f0 b4f1 b4f2 b4f3 b4f4 b4f5 b4l bn7_4
        generalize hW60 : ((((((W58).setCell _ _).setCell _ _).setCell _ _).setCell _ _).setCell _ _).setCell _ _ = W60 at *
        replace HG := Lib.hid (((HG.out).st_RR (HS.out) 3 n1 n2 z50a z50b rfl).to hW60 (by (try simp only [nb5, nb6]); rfl))
        replace HS := Lib.hid (((HS.out).st_RR 3 n1 n2 z50a z50b rfl).to hW60 (by (try simp only [nb5, nb6]); rfl))
        clear hW60
        refine (rhull_le (tq + (lq * (a - tq))) (tq + (lq * (a - tq))) (tq + (lq * (a - tq))) (tq + (lq * (a - tq))) _ _ _ (rngP (HS.out.p 1 _ _ rfl) (HS.out.p 0 _ _ rfl)) (rngP (HS.out.p 1 _ _ rfl) (HS.out.p 0 _ _ rfl)) Rat.le_refl Rat.le_refl (szR_mono (towQ_sz (t := tq) STQ.out SLQ.out SA.out) (by omega)) (szR_mono (towQ_sz (t := tq) STQ.out SLQ.out SA.out) (by omega)) (szR_mono (towQ_sz (t := tq) STQ.out SLQ.out SA.out) (by omega)) (szR_mono (towQ_sz (t := tq) STQ.out SLQ.out SA.out) (by omega))).mono ?_
        rintro e w61 ⟨v61, rfl, ⟨z61a, z61b, rfl, hv61, hw61⟩, hb61⟩
        replace HS := Lib.hid (HS.out.below hb61)
        replace HG := Lib.hid (HG.out.below hb61)
        clear hb61
        replace HS := Lib.hid (HS.out.addP hv61)
        clear hv61
        replace HS := Lib.hid (HS.out.addP hw61)
        clear hw61
        obtain ⟨b4c0, b4c1, b4c2, b4c3, b4c4, b4c5, b4f0, b4f1, b4f2, b4f3, b4f4, b4f5⟩ := fac6 (x := z50a) (y := z50b) (HS.out.at 3 _ _ _ rfl)
        have b4l := blk_lt (HS.out.at 3 _ _ _ rfl)
        go_wp2_with fail
        clear b4c0 b4c1 b4c2 b4c3 b4c4 b4c5 b4f0 b4f1 b4f2 b4f3 b4f4 b4f5 b4l
        generalize hW62 : ((((((w61).setCell _ _).setCell _ _).setCell _ _).setCell _ _).setCell _ _).setCell _ _ = W62 at *
        replace HG := Lib.hid (((HG.out).st_RR (HS.out) 3 z50a z50b z61a z61b rfl).to hW62 (by (try simp only [nb5, nb6]); rfl))
        replace HS := Lib.hid (((HS.out).st_RR 3 z50a z50b z61a z61b rfl).to hW62 (by (try simp only [nb5, nb6]); rfl))
        clear hW62
        have EQ1 := Lib.hid (HNS.out.1 HJ0.out).1
        have EQ2 := Lib.hid (HNS.out.1 HJ0.out).2
        exact ⟨⟨j + 1, z61a, z61b, by have := HLT.out; omega, by go_num, Lib.hid ((((((((((((((((HS.out).erase 0).erase 0).erase 0).addP (HS.out.p 24 _ _ rfl)).addP (HS.out.p 23 _ _ rfl)).addP (HS.out.p 22 _ _ rfl)).addP (HS.out.p 21 _ _ rfl)).addP (HS.out.p 20 _ _ rfl)).addP (HS.out.p 19 _ _ rfl)).addP (HS.out.p 18 _ _ rfl)).addP (HS.out.p 17 _ _ rfl)).addP (HS.out.p 16 _ _ rfl)).addP (HS.out.p 15 _ _ rfl)).addP (by rw [EQ1.out]; exact (HS.out.p 1 _ _ rfl))).addP (by rw [EQ2.out]; exact (HS.out.p 0 _ _ rfl))), Lib.hid (HG.out.mono (fun b hb => ⟨b, by simp only [List.mem_cons] at hb ⊢; first | exact hb | (repeat (first | exact hb | right)), rfl⟩))⟩, meas_up HLT.out⟩
       | false =>
        have HJ0 : Hid (j ≠ 0) := by show _ ≠ _; have := beq_eq_false_iff_ne.1 t59; omega
        have tj1 : (j == 0) = false := by have := HJ0.out; simpa using this
        obtain ⟨b4c0, b4c1, b4c2, b4c3, b4c4, b4c5, b4f0, b4f1, b4f2, b4f3, b4f4, b4f5⟩ := fac6 (x := n1) (y := n2) (HS.out.at 3 _ _ _ rfl)
        have b4l := blk_lt (HS.out.at 3 _ _ _ rfl)
        obtain ⟨b7c0, b7c1, b7c2, b7c3, b7c4, b7c5, b7f0, b7f1, b7f2, b7f3, b7f4, b7f5⟩ := fac6 (x := z50a) (y := z50b) (HS.out.at 0 _ _ _ rfl)
        have b7l := blk_lt (HS.out.at 0 _ _ _ rfl)
        have bn4_7 := HS.out.ne 3 0 rfl rfl (by decide)
        go_wp2_with fail
        clear b4c0 b4c1 b4c2 b4c3 b4c4 b4c5 b4f0 b4f1 b4f2 b4f3 b4f4 b4f5 b4l b7c0 b7c1 b7c2 b7c3 b7c4 b7c5 b7f0 b7f1 b7f2 b7f3 b7f4 b7f5 b7l bn4_7
        refine (rhull_le (nxL t0 t1 l0 l1 a j) (nxH t0 t1 l0 l1 a j) (tq + (lq * (a - tq))) (tq + (lq * (a - tq))) _ _ _ (rngP (HS.out.p 12 _ _ rfl) (HS.out.p 11 _ _ rfl)) (rngP (HS.out.p 1 _ _ rfl) (HS.out.p 0 _ _ rfl)) HNL.out Rat.le_refl (szR_mono HNX.out.1 (by omega)) (szR_mono HNX.out.2 (by omega)) (szR_mono (towQ_sz (t := tq) STQ.out SLQ.out SA.out) (by omega)) (szR_mono (towQ_sz (t := tq) STQ.out SLQ.out SA.out) (by omega))).mono ?_
        rintro e w63 ⟨v63, rfl, ⟨z63a, z63b, rfl, hv63, hw63⟩, hb63⟩
        replace HS := Lib.hid (HS.out.below hb63)
        replace HG := Lib.hid (HG.out.below hb63)
        clear hb63
        replace HS := Lib.hid (HS.out.addP hv63)
        clear hv63
        replace HS := Lib.hid (HS.out.addP hw63)
        clear hw63
        obtain ⟨b4c0, b4c1, b4c2, b4c3, b4c4, b4c5, b4f0, b4f1, b4f2, b4f3, b4f4, b4f5⟩ := fac6 (x := n1) (y := n2) (HS.out.at 3 _ _ _ rfl)
        have b4l := blk_lt (HS.out.at 3 _ _ _ rfl)
        go_wp2_with fail
        clear b4c0 b4c1 b4c2 b4c3 b4c4 b4c5 b4f0 b4f1 b4f2 b4f3 b4f4 b4f5 b4l
        generalize hW64 : ((((((w63).setCell _ _).setCell _ _).setCell _ _).setCell _ _).setCell _ _).setCell _ _ = W64 at *
        replace HG := Lib.hid (((HG.out).st_RR (HS.out) 3 n1 n2 z63a z63b rfl).to hW64 (by (try simp only [nb5, nb6]); rfl))
        replace HS := Lib.hid (((HS.out).st_RR 3 n1 n2 z63a z63b rfl).to hW64 (by (try simp only [nb5, nb6]); rfl))
        clear hW64
        have EQ1 := Lib.hid (HNS.out.2 HJ0.out).1
        have EQ2 := Lib.hid (HNS.out.2 HJ0.out).2
        exact ⟨⟨j + 1, z63a, z63b, by have := HLT.out; omega, by go_num, Lib.hid ((((((((((((((((HS.out).erase 0).erase 0).erase 0).addP (HS.out.p 24 _ _ rfl)).addP (HS.out.p 23 _ _ rfl)).addP (HS.out.p 22 _ _ rfl)).addP (HS.out.p 21 _ _ rfl)).addP (HS.out.p 20 _ _ rfl)).addP (HS.out.p 19 _ _ rfl)).addP (HS.out.p 18 _ _ rfl)).addP (HS.out.p 17 _ _ rfl)).addP (HS.out.p 16 _ _ rfl)).addP (HS.out.p 15 _ _ rfl)).addP (by rw [EQ1.out]; exact (HS.out.p 1 _ _ rfl))).addP (by rw [EQ2.out]; exact (HS.out.p 0 _ _ rfl))), Lib.hid (HG.out.mono (fun b hb => ⟨b, by simp only [List.mem_cons] at hb ⊢; first | exact hb | (repeat (first | exact hb | right)), rfl⟩))⟩, meas_up HLT.out⟩
    ·
     obtain rfl : j = 4 := by omega
     rw [show ((4 : Nat) : Int) = (4 : Int) from rfl]
     have HNX := Lib.hid (nx_sz ST0.out ST1.out SL0.out SL1.out SA.out 4)
     obtain ⟨b4c0, b4c1, b4c2, b4c3, b4c4, b4c5, b4f0, b4f1, b4f2, b4f3, b4f4, b4f5⟩ := fac6 (x := n1) (y := n2) (HS.out.at 0 _ _ _ rfl)
     have b4l := blk_lt (HS.out.at 0 _ _ _ rfl)
     go_wp2_with fail
     clear b4c0 b4c1 b4c2 b4c3 b4c4 b4c5 b4f0 b4f1 b4f2 b4f3 b4f4 b4f5 b4l
     refine (rround_any (nxL t0 t1 l0 l1 a 4) (nxH t0 t1 l0 l1 a 4) k HK.out z HZK.out _ _ (rngP (HS.out.p 1 _ _ rfl) (HS.out.p 0 _ _ rfl)) (szR_mono HNX.out.1 (by omega)) (szR_mono (szR_neg HNX.out.2) (by omega))).mono ?_
     rintro e w65 ⟨v65, rfl, ⟨z65a, z65b, rfl, hv65, hw65⟩, hb65⟩
     replace HS := Lib.hid (HS.out.below hb65)
     replace HG := Lib.hid (HG.out.below hb65)
     clear hb65
     replace HS := Lib.hid (HS.out.addP hv65)
     clear hv65
     replace HS := Lib.hid (HS.out.addP hw65)
     clear hw65
     obtain ⟨b2c0, b2c1, b2c2, b2c3, b2c4, b2c5, b2f0, b2f1, b2f2, b2f3, b2f4, b2f5⟩ := fac6 (x := m1) (y := m2) (HS.out.at 2 _ _ _ rfl)
     have b2l := blk_lt (HS.out.at 2 _ _ _ rfl)
     go_upto_region 17 with fail
     clear b2c0 b2c1 b2c2 b2c3 b2c4 b2c5 b2f0 b2f1 b2f2 b2f3 b2f4 b2f5 b2l
     generalize hW66 : ((((((w65).setCell _ _).setCell _ _).setCell _ _).setCell _ _).setCell _ _).setCell _ _ = W66 at *
     replace HG := Lib.hid (((HG.out).st_RR (HS.out) 2 m1 m2 z65a z65b rfl).to hW66 (by (try simp only [nb5, nb6]); rfl))
     replace HS := Lib.hid (((HS.out).st_RR 2 m1 m2 z65a z65b rfl).to hW66 (by (try simp only [nb5, nb6]); rfl))
     clear hW66
     obtain ⟨b2c0, b2c1, b2c2, b2c3, b2c4, b2c5, b2f0, b2f1, b2f2, b2f3, b2f4, b2f5⟩ := fac6 (x := z65a) (y := z65b) (HS.out.at 2 _ _ _ rfl)
     have b2l := blk_lt (HS.out.at 2 _ _ _ rfl)
     have HSA := Lib.hid ((HS.out).alloc (B := W66.heap.size) (T := 86) (cs := #[.bool z65a.b, .slice z65a.a z65a.n z65a.c, .slice z65a.d z65a.m z65a.e, .bool z65b.b, .slice z65b.a z65b.n z65b.c, .slice z65b.d z65b.m z65b.e]) rfl (by rfl))
     have HGA := Lib.hid ((HG.out).alloc (B := W66.heap.size) (T := 86) (cs := #[.bool z65a.b, .slice z65a.a z65a.n z65a.c, .slice z65a.d z65a.m z65a.e, .bool z65b.b, .slice z65b.a z65b.n z65b.c, .slice z65b.d z65b.m z65b.e]) rfl)
     obtain ⟨ii67, hi67, hz67, hs67, hy67⟩ := info_parts inf_ratio_Range
     have hzd67 : ∀ u ∈ (Value.agg #[.bool false, .slice none 0 0, .slice none 0 0, .bool false, .slice none 0 0, .slice none 0 0]).cells.toList, noDig u := by
      intro u hu
      have hu : u ∈ [.bool false, .slice none 0 0, .slice none 0 0, .bool false, .slice none 0 0, .slice none 0 0] := hu
      simp only [List.mem_cons, List.not_mem_nil, or_false] at hu
      rcases hu with rfl | rfl | rfl | rfl | rfl | rfl
      all_goals first | exact noDig_bool _ | exact noDig_slice _ _ _
     go_wp2_with (at_builtin; refine wpList_append_lrow _ rfl (.tmp 67) (.tmp 69) 92 rfl w.heap.size 86 ii67 _ 6 112 Tryz.underlying92 hi67 hz67 hs67 hy67 rfl (by decide) hzd67 _ _ _ rfl (HGA.out.row 0 _ rfl) ⟨W66.heap.size, 0, none⟩ 1 1 [.bool z65a.b, .slice z65a.a z65a.n z65a.c, .slice z65a.d z65a.m z65a.e, .bool z65b.b, .slice z65b.a z65b.n z65b.c, .slice z65b.d z65b.m z65b.e] rfl rfl (cells_blk (HSA.out.at 0 _ _ _ rfl)) (by simp [Value.oneCell']) (by intro u hu; simp only [List.mem_cons, List.not_mem_nil, or_false] at hu; rcases hu with rfl | rfl | rfl | rfl | rfl | rfl; all_goals first | exact noDig_bool _ | exact noDig_slice _ _ _) (by omega) (by dsimp only; unfold maxLen; omega) (by dsimp only; omega) HSA.out.bel.size ?_)
     intro g67 cap67 w67 hL67 hgr67 hat67
     have hL67' : LRow w67 w.heap.size 86 6 (.slice (some ⟨g67, 0, none⟩) (((flR S l0 l1 k aq i)).length + 1) cap67) (((flR S l0 l1 k aq i)).length + 1) (rx ++ [.bool z65a.b, .slice z65a.a z65a.n z65a.c, .slice z65a.d z65a.m z65a.e, .bool z65b.b, .slice z65b.a z65b.n z65b.c, .slice z65b.d z65b.m z65b.e]) := by first | exact hL67 | (rw [hln]; exact hL67)
     clear hL67
     have hL67 := hL67'
     clear hL67'
     obtain ⟨hs67', hg67'⟩ := Sx.append HSA.out HGA.out 0 rfl [z65a, z65b] [(downQ (nxL t0 t1 l0 l1 a 4) k), (upQ (nxH t0 t1 l0 l1 a 4) k)] rfl (fun j x hx => by match j, hx with
       | 0, hx => (simp at hx; subst hx; exact (HSA.out.p 1 _ _ rfl))
       | 1, hx => (simp at hx; subst hx; exact (HSA.out.p 0 _ _ rfl))
       | j + 2, hx => simp at hx) hL67 hgr67 (by intro c hc; simp [Value.ownBlock] at hc; subst hc; first | exact hat67 | simpa using hat67)
     clear b2c0 b2c1 b2c2 b2c3 b2c4 b2c5 b2f0 b2f1 b2f2 b2f3 b2f4 b2f5 b2l
     clear HSA HGA
     replace HS : Hid (Sx w w67 [(W66.heap.size, arr6 z65a z65b, 86), (wr4.heap.size + 1, arr6 n1 n2, 86), (wr4.heap.size, A.arr, 42), (w2.heap.size, arr6 z65a z65b, 86), (w.heap.size + 1, x3.arr, 42), (w.heap.size, arr6 x1 x2, 90)] [(true, z65b.val, (upQ (nxH t0 t1 l0 l1 a 4) k)), (true, z65a.val, (downQ (nxL t0 t1 l0 l1 a 4) k)), (true, n2.val, (nxH t0 t1 l0 l1 a 4)), (true, n1.val, (nxL t0 t1 l0 l1 a 4)), (true, z21.val, t1), (true, z18.val, t1), (true, z15.val, t0), (true, z12.val, t0), (true, A.val, a), (true, m2.val, t1), (true, m1.val, t0), (true, x3.val, S), (true, x2.val, l1), (true, x1.val, l0)]) := hs67'
     replace HG : Hid (GsR w w67 [(W66.heap.size, arr6 z65a z65b, 86), (wr4.heap.size + 1, arr6 n1 n2, 86), (wr4.heap.size, A.arr, 42), (w2.heap.size, arr6 z65a z65b, 86), (w.heap.size + 1, x3.arr, 42), (w.heap.size, arr6 x1 x2, 90)] [⟨86, true, 2, (.slice (some ⟨g67, 0, none⟩) ((flR S l0 l1 k aq i).length + 1) cap67), (rx ++ cellsR [z65a, z65b]), ((flR S l0 l1 k aq i) ++ [[(downQ (nxL t0 t1 l0 l1 a 4) k), (upQ (nxH t0 t1 l0 l1 a 4) k)]])⟩]) := hg67'
     clear hs67' hg67' hL67 hgr67 hat67 hzd67 hi67 hz67 hs67 hy67
     go_wp2_with fail
     exact ⟨⟨i + 1, z65a, z65b, (.slice (some ⟨g67, 0, none⟩) ((flR S l0 l1 k aq i).length + 1) cap67), (rx ++ cellsR [z65a, z65b]), by have := HLT.out; omega, by go_num, by first | rfl | rw [hln], Lib.hid (((((((((HS.out).erase 0).erase 0).erase 0).addP (HS.out.p 13 _ _ rfl)).addP (HS.out.p 12 _ _ rfl)).addP (HS.out.p 11 _ _ rfl)).addP (by rw [HU1.out]; exact (HS.out.p 1 _ _ rfl))).addP (by rw [HU2.out]; exact (HS.out.p 0 _ _ rfl))), Lib.hid (by rw [HFS.out, HU1.out, HU2.out]; exact HG.out.mono (fun b hb => ⟨b, by simp only [List.mem_cons] at hb ⊢; first | exact hb | (repeat (first | exact hb | right)), rfl⟩))⟩, meas_up HLT.out⟩
  ·
   obtain rfl : i = aq.length := by omega
   go_wp2_with fail
   go_ret
   exact ⟨_, rfl, RecsOf.ofRow (HG.out.row 0 _ rfl) (HG.out.mean 0 _ rfl), HS.out.bel⟩
set_option maxRecDepth 100000 in
set_option maxHeartbeats 8000000 in
theorem pfollow_any (l0 l1 S : Rat) (aq : List Rat) (k : Nat) (hk : k ≤ 256) (z : Int) (hz : min (max z 0) 256 = (k : Int)) (vx vS va : Value) (w : World) (hx : IsRng w vx l0 l1) (hS : IsRat w vS S) (ha : FrcsOf IsRat w va aq) (hl : aq.length ≤ 300) (s0 : szR l0 1000) (s1 : szR l1 1000) (sS : szR S 1000) (sa : ∀ i, szR (aq.getD i 0) 1000) (sF : flErr l0 l1 aq.length = 0 → ∀ i, szR (flUp S l0 l1 k aq i).1 1000 ∧ szR (flUp S l0 l1 k aq i).2 1000) :
  Calls Tryz.prog 29 #[vx, vS, va, .int .i64 z] w (RetRecsE true 2 (flT (flR S l0 l1 k aq aq.length) (flErr l0 l1 aq.length)) (flErr l0 l1 aq.length) w) := by
 obtain ⟨x1, x2, rfl, hx1, hx2⟩ := hx
 obtain ⟨x3, rfl⟩ := hS.open3
 have HS := Lib.hid ((((Sx.init w).addP hx1).addP hx2).addP hS)
 have SL0 := Lib.hid s0
 have SL1 := Lib.hid s1
 have SS := Lib.hid sS
 have HZA := Lib.hid sa
 have HZF0 := Lib.hid sF
 have HK := Lib.hid hk
 have HZK := Lib.hid hz
 have HA := Lib.hid ha
 have HLE := Lib.hid hl
 obtain ⟨aa, ca, rfl, _⟩ := ha
 clear hx1 hx2 hS s0 s1 sS sa sF hk hz hl
 go_enter Tryz.func29, Tryz.ntmps29
 go_wp2_with fail
 generalize hW1 : ((w).alloc (.cells _ _)).alloc (.cells _ _) = W1 at *
 replace HS := Lib.hid ((((HS.out).alloc (B := w.heap.size) rfl (by rfl)).alloc (B := w.heap.size + 1) (by simp) (by rfl)).to hW1 (by (try simp only [nb5, nb6]); rfl))
 clear hW1
 by_cases hz2 : flErr l0 l1 aq.length = 0
 ·
  have HZ2 := Lib.hid hz2
  clear hz2
  refine (tcheck_any l0 l1 aq.length _ _ _ _ (rngP (HS.out.p 2 _ _ rfl) (HS.out.p 1 _ _ rfl)) SL1.out).mono ?_
  rw [HZ2.out]
  rintro e w3 ⟨rfl, hb3⟩
  replace HS := Lib.hid (HS.out.below hb3)
  clear hb3
  obtain ⟨b0c0, b0c1, b0c2, b0c3, b0c4, b0c5, b0f0, b0f1, b0f2, b0f3, b0f4, b0f5⟩ := fac6 (x := x1) (y := x2) (HS.out.at 1 _ _ _ rfl)
  have b0l := blk_lt (HS.out.at 1 _ _ _ rfl)
  obtain ⟨b1c0, b1c1, b1c2, b1f0, b1f1, b1f2⟩ := fac3 (x := x3) (HS.out.at 0 _ _ _ rfl)
  have b1l := blk_lt (HS.out.at 0 _ _ _ rfl)
  go_wp2_with fail
  clear b0c0 b0c1 b0c2 b0c3 b0c4 b0c5 b0f0 b0f1 b0f2 b0f3 b0f4 b0f5 b0l b1c0 b1c1 b1c2 b1f0 b1f1 b1f2 b1l
  refine (follow_any l0 l1 S aq k HK.out z HZK.out _ _ _ _ (rngP (HS.out.p 2 _ _ rfl) (HS.out.p 1 _ _ rfl)) (HS.out.p 0 _ _ rfl) (HA.out.bP HS.out.bel) HLE.out SL0.out SL1.out SS.out HZA.out (HZF0.out HZ2.out)).mono ?_
  rintro e w4 ⟨v4, rfl, hv4, hb4⟩
  have HV4 := Lib.hid hv4
  clear hv4
  replace HS := Lib.hid (HS.out.below hb4)
  clear hb4
  go_wp2_with fail
  go_ret2
  exact (by rw [HZ2.out]; exact ⟨_, rfl, HV4.out, HS.out.bel⟩)
 ·
  obtain ⟨er2, her2⟩ : ∃ c, c = flErr l0 l1 aq.length := ⟨_, rfl⟩
  have HER2 := Lib.hid her2
  rw [← her2] at hz2
  have en2 : (er2 == 0) = false := beq_eq_false_iff_ne.2 hz2
  have eo2 : (er2 != 0) = true := bne_iff_ne.2 hz2
  have ep2 : decide (er2 = 0) = false := decide_eq_false hz2
  have HNZ2 := Lib.hid hz2
  clear her2 hz2
  refine (tcheck_any l0 l1 aq.length _ _ _ _ (rngP (HS.out.p 2 _ _ rfl) (HS.out.p 1 _ _ rfl)) SL1.out).mono ?_
  rw [← HER2.out]
  rintro e w5 ⟨rfl, hb5⟩
  replace HS := Lib.hid (HS.out.below hb5)
  clear hb5
  go_wp2_with fail
  go_ret2
  exact (by rw [← HER2.out]; exact ⟨_, rfl, by unfold flT; rw [if_neg HNZ2.out]; exact RecsOf.nil _ _ _, HS.out.bel⟩)
end Go.Proofs.YthhnkobkdhjfgaaGreat

namespace Go.Proofs.YthhnkobkdhjfgaaGreat
open Go.RowKit

theorem mtPre_sz {S : Rat} {ts : List (List Rat)} (hS : szR S 1000) (h : ∀ i j, szR ((ts.getD i []).getD j 0) 1000) : ∀ i, szR (mtPre S ts i) 1000
 | 0 => hS
 | i + 1 => h i 0
def meErr (l0 l1 : Rat) (n : Nat) (le mo ri : Rat) (m : Int) : Int := if flErr l0 l1 n ≠ 0 then flErr l0 l1 n else ndErr le mo ri m
def meOf (S le mo ri : Rat) (m : Int) (ts : List (List Rat)) (er : Int) : Bool := if er = 0 then mtOf S le mo ri m ts else false
def RetBE (b : Bool) (er : Int) (w : World) (e : Ending) (w' : World) : Prop := e = .returned (.tuple #[.bool b, .int .i64 er]) ∧ Below w.heap.size w w'
set_option maxRecDepth 100000 in
set_option maxHeartbeats 8000000 in
theorem nmeets_any (S le mo ri : Rat) (m : Int) (ts : List (List Rat)) (y1 y2 y3 : R3) (vS vt : Value) (w : World) (h1 : IsRat w y1.val le) (h2 : IsRat w y2.val mo) (h3 : IsRat w y3.val ri) (hS : IsRat w vS S) (ht : RecsOf true 2 w vt ts) (hl : ts.length ≤ 300) (s1 : szR le 1000) (s2 : szR mo 1000) (s3 : szR ri 1000) (sS : szR S 1000) (sT : ∀ i j, szR ((ts.getD i []).getD j 0) 1000) :
  Calls Tryz.prog 82 #[.agg #[.bool y1.b, .slice y1.a y1.n y1.c, .slice y1.d y1.m y1.e, .bool y2.b, .slice y2.a y2.n y2.c, .slice y2.d y2.m y2.e, .bool y3.b, .slice y3.a y3.n y3.c, .slice y3.d y3.m y3.e, .int .i64 m], vS, vt] w (RetBool (mtOf S le mo ri m ts) w) := by
 obtain ⟨x3, rfl⟩ := hS.open3
 have HS := Lib.hid (((((Sx.init w).addP h1).addP h2).addP h3).addP hS)
 have SE := Lib.hid s1
 have SM := Lib.hid s2
 have SI := Lib.hid s3
 have SS := Lib.hid sS
 have HZT := Lib.hid sT
 obtain ⟨ao, cap, rfl, hE⟩ := ht
 have HE := Lib.hid hE
 clear h1 h2 h3 hS s1 s2 s3 sS sT hE
 go_enter Tryz.func82, Tryz.ntmps82
 go_wp2_with fail
 generalize hW1 : (((w).alloc (.cells _ _)).alloc (.cells _ _)).alloc (.cells _ _) = W1 at *
 replace HS := Lib.hid (((((HS.out).alloc (B := w.heap.size) rfl (by rfl)).alloc (B := w.heap.size + 1) (by simp) (by rfl)).alloc (B := w.heap.size + 2) (by simp) (by rfl)).to hW1 (by (try simp only [nb5, nb6]); rfl))
 clear hW1
 go_wp2_with fail
 go_loopw [15, 8, 9] (fun u15 u8 u9 wr => ∃ (i : Nat) (ah0 : R3), i ≤ ts.length ∧ u15 = .int .i64 i ∧ u8 = .int .i64 ((mtNow le ts i : Nat) : Int) ∧ u9 = .int .i64 ((mtBest le ts i : Nat) : Int) ∧ Hid (mtOk S mo ri ts i = true) ∧ Hid (Sx w wr [(w.heap.size + 2, ah0.arr, 42), (w.heap.size + 1, x3.arr, 42), (w.heap.size, #[.bool y1.b, .slice y1.a y1.n y1.c, .slice y1.d y1.m y1.e, .bool y2.b, .slice y2.a y2.n y2.c, .slice y2.d y2.m y2.e, .bool y3.b, .slice y3.a y3.n y3.c, .slice y3.d y3.m y3.e, .int .i64 m], 82)] [(true, ah0.val, (mtPre S ts i)), (true, x3.val, S), (true, y3.val, ri), (true, y2.val, mo), (true, y1.val, le)]))
  (fun u _ _ _ => ts.length - (intOf u).toNat)
 case atStart => exact ⟨0, x3, Nat.zero_le _, rfl, rfl, rfl, Lib.hid rfl, Lib.hid ((((((HS.out.bare).addP (HS.out.p 3 _ _ rfl)).addP (HS.out.p 2 _ _ rfl)).addP (HS.out.p 1 _ _ rfl)).addP (HS.out.p 0 _ _ rfl)).addP (HS.out.p 0 _ _ rfl))⟩
 case round =>
  obtain ⟨wr2, hwr2⟩ : ∃ z, z = wr := ⟨_, rfl⟩
  subst hwr2
  clear HS
  obtain ⟨i, ah0, hi, rfl, rfl, rfl, HOK, HS⟩ := hrel
  by_cases hlt : i < ts.length
  ·
   have hlt' : (i : Int) < ts.length := by omega
   have hge' : (0 : Int) ≤ i := by omega
   have HLT := Lib.hid hlt
   obtain ⟨b, off, rfl, hbl, hEE⟩ := HE.out (by omega)
   have HBL := Lib.hid hbl
   have hnw := mtNow_le le ts i
   have hbt := mtBest_le le ts i
   obtain ⟨Tx, Tg0, Tg1, Tg2, Thx⟩ := hEE i hlt 0 (by omega)
   have T0 : Hid (w.cell? ⟨b, off + i * 6, none⟩ = some (.bool Tx.b)) := Tg0
   have T1 : Hid (w.cell? ⟨b, off + i * 6 + 1, none⟩ = some (.slice Tx.a Tx.n Tx.c)) := Tg1
   have T2 : Hid (w.cell? ⟨b, off + i * 6 + 2, none⟩ = some (.slice Tx.d Tx.m Tx.e)) := Tg2
   clear Tg0 Tg1 Tg2
   obtain ⟨Ty, Tg0, Tg1, Tg2, Thy⟩ := hEE i hlt 1 (by omega)
   have T3 : Hid (w.cell? ⟨b, off + i * 6 + 3, none⟩ = some (.bool Ty.b)) := Tg0
   have T4 : Hid (w.cell? ⟨b, off + i * 6 + 4, none⟩ = some (.slice Ty.a Ty.n Ty.c)) := Tg1
   have T5 : Hid (w.cell? ⟨b, off + i * 6 + 5, none⟩ = some (.slice Ty.d Ty.m Ty.e)) := Tg2
   clear Tg0 Tg1 Tg2
   replace HS := Lib.hid ((HS.out.addP (Fr.below Thx HS.out.bel)).addP (Fr.below Thy HS.out.bel))
   clear Thx Thy hbl hEE
   have SH0 := Lib.hid (HZT.out i 0)
   have SH1 := Lib.hid (HZT.out i 1)
   have SAH := Lib.hid (mtPre_sz SS.out HZT.out i)
   have HN1 : Hid (mtNow le ts (i + 1) = if cmpR ((ts.getD i []).getD 0 0) le < 0 then 0 else mtNow le ts i + 1) := rfl
   have HB1 : Hid (mtBest le ts (i + 1) = max (mtBest le ts i) (mtNow le ts (i + 1))) := rfl
   have HP1 : Hid (mtPre S ts (i + 1) = (ts.getD i []).getD 0 0) := rfl
   have HBD : Hid (mtBad S mo ri ts i = (decide (cmpR ((ts.getD i []).getD 1 0) mo > 0) || decide (cmpR ((ts.getD i []).getD 1 0 - mtPre S ts i) ri > 0))) := rfl
   have HO1 : Hid (mtOk S mo ri ts (i + 1) = (mtOk S mo ri ts i && !mtBad S mo ri ts i)) := rfl
   generalize mtNow le ts i = nw at *
   generalize mtBest le ts i = bt at *
   generalize mtPre S ts i = ah at *
   generalize (ts.getD i []).getD 0 0 = h0 at *
   generalize (ts.getD i []).getD 1 0 = h1 at *
   obtain ⟨n1, hn1⟩ : ∃ j, j = nw + 1 := ⟨_, rfl⟩
   have HQ1 := Lib.hid hn1
   have hw1 : IntKind.i64.wrap ((nw : Int) + 1) = (n1 : Int) := (IntWalk.i64_in _ (by omega)).trans (by omega)
   clear hn1 hlt
   have Tc0 := (HS.out.bel.cell (p := ⟨b, off + i * 6, none⟩) HBL.out).trans T0.out
   have Tc1 := (HS.out.bel.cell (p := ⟨b, off + i * 6 + 1, none⟩) HBL.out).trans T1.out
   have Tc2 := (HS.out.bel.cell (p := ⟨b, off + i * 6 + 2, none⟩) HBL.out).trans T2.out
   have Tc3 := (HS.out.bel.cell (p := ⟨b, off + i * 6 + 3, none⟩) HBL.out).trans T3.out
   have Tc4 := (HS.out.bel.cell (p := ⟨b, off + i * 6 + 4, none⟩) HBL.out).trans T4.out
   have Tc5 := (HS.out.bel.cell (p := ⟨b, off + i * 6 + 5, none⟩) HBL.out).trans T5.out
   go_wp2_with fail
   clear Tc0 Tc1 Tc2 Tc3 Tc4 Tc5
   generalize hW3 : (wr2).alloc (.cells _ _) = W3 at *
   replace HS := Lib.hid (((HS.out).alloc (B := wr2.heap.size) rfl (by rfl)).to hW3 (by (try simp only [nb5, nb6]); rfl))
   clear hW3
   refine wp_region_held_drew (S := (fun w' => Sx w w' [(wr2.heap.size, arr6 Tx Ty, 86), (w.heap.size + 2, ah0.arr, 42), (w.heap.size + 1, x3.arr, 42), (w.heap.size, #[.bool y1.b, .slice y1.a y1.n y1.c, .slice y1.d y1.m y1.e, .bool y2.b, .slice y2.a y2.n y2.c, .slice y2.d y2.m y2.e, .bool y3.b, .slice y3.a y3.n y3.c, .slice y3.d y3.m y3.e, .int .i64 m], 82)] [])) (by kernel_rfl) ((HS.out.drew).bare) (fun hh => ?_)
   replace HS := Lib.hid HS.out.drew
   refine tkB (i := 0) (v := ?vk5) rfl ?hk5 ?rk5
   case hk5 => intro u hSu; (try dsimp only at hSu); obtain ⟨qb3c0, qb3c1, qb3c2, qb3c3, qb3c4, qb3c5, _⟩ := fac6 (x := Tx) (y := Ty) (hSu.at 0 _ _ _ rfl); clear hSu; go_simp <;> with_reducible rfl
   try simp only [nbs, Act.put]
   refine tkB (i := 2) (v := ?vk6) rfl ?hk6 ?rk6
   case hk6 => intro u hSu; go_simp <;> with_reducible rfl
   try simp only [nbs, Act.put]
   refine tkB (i := 3) (v := ?vk7) rfl ?hk7 ?rk7
   case hk7 => intro u hSu; (try dsimp only at hSu); have qb0e := (hSu.at 3 _ _ _ rfl); have qb0c0 := blk_cell qb0e 0 (.bool y1.b) rfl; have qb0c1 := blk_cell qb0e 1 (.slice y1.a y1.n y1.c) rfl; have qb0c2 := blk_cell qb0e 2 (.slice y1.d y1.m y1.e) rfl; have qb0c3 := blk_cell qb0e 3 (.bool y2.b) rfl; have qb0c4 := blk_cell qb0e 4 (.slice y2.a y2.n y2.c) rfl; have qb0c5 := blk_cell qb0e 5 (.slice y2.d y2.m y2.e) rfl; have qb0c6 := blk_cell qb0e 6 (.bool y3.b) rfl; have qb0c7 := blk_cell qb0e 7 (.slice y3.a y3.n y3.c) rfl; have qb0c8 := blk_cell qb0e 8 (.slice y3.d y3.m y3.e) rfl; have qb0c9 := blk_cell qb0e 9 (.int .i64 m) rfl; clear qb0e; clear hSu; go_simp <;> with_reducible rfl
   try simp only [nbs, Act.put]
   refine rdA (i := 1) rfl (fun K hK => ?_)
   go_simp
   have a9 := HS.out.p 1 _ _ rfl
   have a10 := HS.out.p 0 _ _ rfl
   go_wp2_with (go_at_call 69; (with_reducible refine (rhi_any h0 h1 _ _ (rngP a9 a10)).mono ?_); rintro e w8 ⟨v8, rfl, hv8, hb8⟩; obtain ⟨z8, rfl⟩ := hv8.open3)
   refine hK.out _ _ (Sx.below hh hb8) (fun hh => ?_)
   clear hK K
   try simp only [nbs, Act.put]
   replace HS := Lib.hid (HS.out.below hb8)
   clear hb8 a9 a10
   replace HS := Lib.hid (HS.out.addP hv8)
   clear hv8
   refine rdA (i := 4) rfl (fun K hK => ?_)
   go_simp
   obtain ⟨c11, hc11⟩ : ∃ κ, κ = cmpR h1 mo := ⟨_, rfl⟩
   have HC11 := Lib.hid hc11
   clear hc11
   have a12 := HS.out.p 0 _ _ rfl
   have a13 := HS.out.p 6 _ _ rfl
   go_wp2_with (go_at_call 44; (with_reducible refine (cmpRat_any h1 mo _ _ _ a12 a13 (szR_mono SH1.out (by omega)) (szR_mono SM.out (by omega))).mono ?_); rw [← HC11.out]; rintro e w11 ⟨rfl, hb11⟩)
   refine hK.out _ _ (Sx.below hh hb11) (fun hh => ?_)
   clear hK K
   try simp only [nbs, Act.put]
   replace HS := Lib.hid (HS.out.below hb11)
   clear hb11 a12 a13
   by_cases t14p : c11 > 0
   ·
    have t14 : decide (c11 > 0) = true := decide_eq_true t14p
    have T14 := Lib.hid t14p
    clear t14p
    refine tkB (i := 5) (v := ?vk15) rfl ?hk15 ?rk15
    case hk15 => intro u hSu; go_simp <;> with_reducible rfl
    try simp only [nbs, Act.put]
    refine tkB (i := 6) (v := ?vk16) rfl ?hk16 ?rk16
    case hk16 => intro u hSu; go_simp <;> with_reducible rfl
    try simp only [nbs, Act.put]
    refine tkC (i := 7) rfl ?_
    try simp only [nbs, Act.put]
    refine tkC (i := 8) rfl ?_
    try simp only [nbs, Act.put]
    refine tkC (i := 9) rfl ?_
    try simp only [nbs, Act.put]
    refine tkC (i := 10) rfl ?_
    try simp only [nbs, Act.put]
    refine tkC (i := 11) rfl ?_
    try simp only [nbs, Act.put]
    refine tkC (i := 12) rfl ?_
    try simp only [nbs, Act.put]
    refine tkC (i := 13) rfl ?_
    try simp only [nbs, Act.put]
    refine tkC (i := 14) rfl ?_
    try simp only [nbs, Act.put]
    refine tkB (i := 15) (v := ?vk17) rfl ?hk17 ?rk17
    case hk17 => intro u hSu; go_simp <;> with_reducible rfl
    try simp only [nbs, Act.put]
    refine wpAnyH_done (by kernel_rfl) ?_ _
    go_wp2_with fail
    have HNB : Hid (mtBad S mo ri ts i = true) := Lib.hid (by first | (rw [HBD.out]; simp only [← HC11.out, t14, Bool.and_true, Bool.true_and, Bool.and_false, Bool.false_and, Bool.or_true, Bool.true_or, Bool.or_false, Bool.false_or, Bool.not_true, Bool.not_false, cond_true, cond_false]) | (rw [HBD.out]; simp [← HC11.out, t14]))
    have HR : Hid (mtOf S le mo ri m ts = false) := by show _ = _; unfold mtOf; rw [mtOk_no HNB.out HLT.out]; rfl
    go_ret
    exact ⟨by rw [HR.out] <;> rfl, HS.out.bel⟩
   ·
    have t14 : decide (c11 > 0) = false := decide_eq_false t14p
    have T14 := Lib.hid t14p
    clear t14p
    refine tkB (i := 5) (v := ?vk18) rfl ?hk18 ?rk18
    case hk18 => intro u hSu; go_simp <;> with_reducible rfl
    try simp only [nbs, Act.put]
    refine tkB (i := 6) (v := ?vk19) rfl ?hk19 ?rk19
    case hk19 => intro u hSu; go_simp <;> with_reducible rfl
    try simp only [nbs, Act.put]
    refine tkB (i := 7) (v := ?vk20) rfl ?hk20 ?rk20
    case hk20 => intro u hSu; (try dsimp only at hSu); obtain ⟨qb3c0, qb3c1, qb3c2, qb3c3, qb3c4, qb3c5, _⟩ := fac6 (x := Tx) (y := Ty) (hSu.at 0 _ _ _ rfl); clear hSu; go_simp <;> with_reducible rfl
    try simp only [nbs, Act.put]
    refine tkB (i := 9) (v := ?vk21) rfl ?hk21 ?rk21
    case hk21 => intro u hSu; (try dsimp only at hSu); obtain ⟨qb2c0, qb2c1, qb2c2, _⟩ := fac3 (x := ah0) (hSu.at 1 _ _ _ rfl); clear hSu; go_simp <;> with_reducible rfl
    try simp only [nbs, Act.put]
    refine tkB (i := 11) (v := ?vk22) rfl ?hk22 ?rk22
    case hk22 => intro u hSu; go_simp <;> with_reducible rfl
    try simp only [nbs, Act.put]
    refine tkB (i := 12) (v := ?vk23) rfl ?hk23 ?rk23
    case hk23 => intro u hSu; (try dsimp only at hSu); have qb0e := (hSu.at 3 _ _ _ rfl); have qb0c0 := blk_cell qb0e 0 (.bool y1.b) rfl; have qb0c1 := blk_cell qb0e 1 (.slice y1.a y1.n y1.c) rfl; have qb0c2 := blk_cell qb0e 2 (.slice y1.d y1.m y1.e) rfl; have qb0c3 := blk_cell qb0e 3 (.bool y2.b) rfl; have qb0c4 := blk_cell qb0e 4 (.slice y2.a y2.n y2.c) rfl; have qb0c5 := blk_cell qb0e 5 (.slice y2.d y2.m y2.e) rfl; have qb0c6 := blk_cell qb0e 6 (.bool y3.b) rfl; have qb0c7 := blk_cell qb0e 7 (.slice y3.a y3.n y3.c) rfl; have qb0c8 := blk_cell qb0e 8 (.slice y3.d y3.m y3.e) rfl; have qb0c9 := blk_cell qb0e 9 (.int .i64 m) rfl; clear qb0e; clear hSu; go_simp <;> with_reducible rfl
    try simp only [nbs, Act.put]
    refine rdA (i := 8) rfl (fun K hK => ?_)
    go_simp
    have a25 := HS.out.p 2 _ _ rfl
    have a26 := HS.out.p 1 _ _ rfl
    go_wp2_with (go_at_call 69; (with_reducible refine (rhi_any h0 h1 _ _ (rngP a25 a26)).mono ?_); rintro e w24 ⟨v24, rfl, hv24, hb24⟩; obtain ⟨z24, rfl⟩ := hv24.open3)
    refine hK.out _ _ (Sx.below hh hb24) (fun hh => ?_)
    clear hK K
    try simp only [nbs, Act.put]
    replace HS := Lib.hid (HS.out.below hb24)
    clear hb24 a25 a26
    replace HS := Lib.hid (HS.out.addP hv24)
    clear hv24
    refine rdA (i := 10) rfl (fun K hK => ?_)
    go_simp
    have a28 := HS.out.p 0 _ _ rfl
    have a29 := HS.out.p 4 _ _ rfl
    go_wp2_with (go_at_call 34; (with_reducible refine (subRat_any h1 ah _ _ _ a28 a29 (szR_mono SH1.out (by omega)) (szR_mono SAH.out (by omega))).mono ?_); rintro e w27 ⟨v27, rfl, hv27, hb27⟩; obtain ⟨z27, rfl⟩ := hv27.open3)
    refine hK.out _ _ (Sx.below hh hb27) (fun hh => ?_)
    clear hK K
    try simp only [nbs, Act.put]
    replace HS := Lib.hid (HS.out.below hb27)
    clear hb27 a28 a29
    replace HS := Lib.hid (HS.out.addP hv27)
    clear hv27
    refine rdA (i := 13) rfl (fun K hK => ?_)
    go_simp
    obtain ⟨c30, hc30⟩ : ∃ κ, κ = cmpR (h1 - ah) ri := ⟨_, rfl⟩
    have HC30 := Lib.hid hc30
    clear hc30
    have a31 := HS.out.p 0 _ _ rfl
    have a32 := HS.out.p 7 _ _ rfl
    go_wp2_with (go_at_call 44; (with_reducible refine (cmpRat_any (h1 - ah) ri _ _ _ a31 a32 (szR_mono (szR_sub SH1.out SAH.out) (by omega)) (szR_mono SI.out (by omega))).mono ?_); rw [← HC30.out]; rintro e w30 ⟨rfl, hb30⟩)
    refine hK.out _ _ (Sx.below hh hb30) (fun hh => ?_)
    clear hK K
    try simp only [nbs, Act.put]
    replace HS := Lib.hid (HS.out.below hb30)
    clear hb30 a31 a32
    by_cases t33p : c30 > 0
    ·
     have t33 : decide (c30 > 0) = true := decide_eq_true t33p
     have T33 := Lib.hid t33p
     clear t33p
     refine tkB (i := 14) (v := ?vk34) rfl ?hk34 ?rk34
     case hk34 => intro u hSu; go_simp <;> with_reducible rfl
     try simp only [nbs, Act.put]
     refine tkB (i := 15) (v := ?vk35) rfl ?hk35 ?rk35
     case hk35 => intro u hSu; go_simp <;> with_reducible rfl
     try simp only [nbs, Act.put]
     refine wpAnyH_done (by kernel_rfl) ?_ _
     go_wp2_with fail
     have HNB : Hid (mtBad S mo ri ts i = true) := Lib.hid (by first | (rw [HBD.out]; simp only [← HC11.out, ← HC30.out, t14, t33, Bool.and_true, Bool.true_and, Bool.and_false, Bool.false_and, Bool.or_true, Bool.true_or, Bool.or_false, Bool.false_or, Bool.not_true, Bool.not_false, cond_true, cond_false]) | (rw [HBD.out]; simp [← HC11.out, ← HC30.out, t14, t33]))
     have HR : Hid (mtOf S le mo ri m ts = false) := by show _ = _; unfold mtOf; rw [mtOk_no HNB.out HLT.out]; rfl
     go_ret
     exact ⟨by rw [HR.out] <;> rfl, HS.out.bel⟩
    ·
     have t33 : decide (c30 > 0) = false := decide_eq_false t33p
     have T33 := Lib.hid t33p
     clear t33p
     refine tkB (i := 14) (v := ?vk36) rfl ?hk36 ?rk36
     case hk36 => intro u hSu; go_simp <;> with_reducible rfl
     try simp only [nbs, Act.put]
     refine tkB (i := 15) (v := ?vk37) rfl ?hk37 ?rk37
     case hk37 => intro u hSu; go_simp <;> with_reducible rfl
     try simp only [nbs, Act.put]
     refine wpAnyH_done (by kernel_rfl) ?_ _
     obtain ⟨b3c0, b3c1, b3c2, b3c3, b3c4, b3c5, b3f0, b3f1, b3f2, b3f3, b3f4, b3f5⟩ := fac6 (x := Tx) (y := Ty) (HS.out.at 0 _ _ _ rfl)
     have b3l := blk_lt (HS.out.at 0 _ _ _ rfl)
     go_wp2_with fail
     clear b3c0 b3c1 b3c2 b3c3 b3c4 b3c5 b3f0 b3f1 b3f2 b3f3 b3f4 b3f5 b3l
     refine (rlo_any h0 h1 _ _ (rngP (HS.out.p 4 _ _ rfl) (HS.out.p 3 _ _ rfl))).mono ?_
     rintro e w38 ⟨v38, rfl, hv38, hb38⟩
     obtain ⟨z38, rfl⟩ := hv38.open3
     replace HS := Lib.hid (HS.out.below hb38)
     clear hb38
     replace HS := Lib.hid (HS.out.addP hv38)
     clear hv38
     obtain ⟨b2c0, b2c1, b2c2, b2f0, b2f1, b2f2⟩ := fac3 (x := ah0) (HS.out.at 1 _ _ _ rfl)
     have b2l := blk_lt (HS.out.at 1 _ _ _ rfl)
     have b0e := (HS.out.at 3 _ _ _ rfl)
     have b0c0 := blk_cell b0e 0 (.bool y1.b) rfl
     have b0c1 := blk_cell b0e 1 (.slice y1.a y1.n y1.c) rfl
     have b0c2 := blk_cell b0e 2 (.slice y1.d y1.m y1.e) rfl
     have b0c3 := blk_cell b0e 3 (.bool y2.b) rfl
     have b0c4 := blk_cell b0e 4 (.slice y2.a y2.n y2.c) rfl
     have b0c5 := blk_cell b0e 5 (.slice y2.d y2.m y2.e) rfl
     have b0c6 := blk_cell b0e 6 (.bool y3.b) rfl
     have b0c7 := blk_cell b0e 7 (.slice y3.a y3.n y3.c) rfl
     have b0c8 := blk_cell b0e 8 (.slice y3.d y3.m y3.e) rfl
     have b0c9 := blk_cell b0e 9 (.int .i64 m) rfl
     have b0f0 := blk_frozen b0e 0
     have b0f1 := blk_frozen b0e 1
     have b0f2 := blk_frozen b0e 2
     have b0f3 := blk_frozen b0e 3
     have b0f4 := blk_frozen b0e 4
     have b0f5 := blk_frozen b0e 5
     have b0f6 := blk_frozen b0e 6
     have b0f7 := blk_frozen b0e 7
     have b0f8 := blk_frozen b0e 8
     have b0f9 := blk_frozen b0e 9
     have b0l := blk_lt b0e
     clear b0e
     go_wp2_with fail
     clear b2c0 b2c1 b2c2 b2f0 b2f1 b2f2 b2l b0c0 b0c1 b0c2 b0c3 b0c4 b0c5 b0c6 b0c7 b0c8 b0c9 b0f0 b0f1 b0f2 b0f3 b0f4 b0f5 b0f6 b0f7 b0f8 b0f9 b0l
     generalize hW39 : (((w38).setCell _ _).setCell _ _).setCell _ _ = W39 at *
     replace HS := Lib.hid (((HS.out).st_R 1 ah0 z38 rfl).to hW39 (by (try simp only [nb5, nb6]); rfl))
     clear hW39
     obtain ⟨c40, hc40⟩ : ∃ κ, κ = cmpR h0 le := ⟨_, rfl⟩
     have HC40 := Lib.hid hc40
     clear hc40
     refine (cmpRat_any h0 le _ _ _ (HS.out.p 0 _ _ rfl) (HS.out.p 10 _ _ rfl) (szR_mono SH0.out (by omega)) (szR_mono SE.out (by omega))).mono ?_
     rw [← HC40.out]
     rintro e w40 ⟨rfl, hb40⟩
     replace HS := Lib.hid (HS.out.below hb40)
     clear hb40
     by_cases t41p : c40 < 0
     ·
      have t41 : decide (c40 < 0) = true := decide_eq_true t41p
      have T41 := Lib.hid t41p
      clear t41p
      go_wp2_with fail
      have HNB : Hid (mtBad S mo ri ts i = false) := Lib.hid (by first | (rw [HBD.out]; simp only [← HC11.out, ← HC30.out, ← HC40.out, t14, t33, t41, Bool.and_true, Bool.true_and, Bool.and_false, Bool.false_and, Bool.or_true, Bool.true_or, Bool.or_false, Bool.false_or, Bool.not_true, Bool.not_false, cond_true, cond_false]) | (rw [HBD.out]; simp [← HC11.out, ← HC30.out, ← HC40.out, t14, t33, t41]))
      have HNW : Hid (mtNow le ts (i + 1) = 0) := HN1.out.trans (if_pos (by rw [← HC40.out]; have := T41.out; omega))
      exact ⟨⟨i + 1, z38, by have := HLT.out; omega, by go_num, (by rw [HNW.out] <;> first | rfl | go_num), (by rw [HB1.out, HNW.out] <;> first | rfl | (congr 1; omega) | go_num), (by show _ = _; rw [HO1.out, HOK.out, HNB.out]; rfl), Lib.hid (((((((HS.out).erase 0).addP (HS.out.p 10 _ _ rfl)).addP (HS.out.p 9 _ _ rfl)).addP (HS.out.p 8 _ _ rfl)).addP (HS.out.p 7 _ _ rfl)).addP (by rw [HP1.out]; exact (HS.out.p 0 _ _ rfl)))⟩, meas_up HLT.out⟩
     ·
      have t41 : decide (c40 < 0) = false := decide_eq_false t41p
      have T41 := Lib.hid t41p
      clear t41p
      go_wp2_with fail
      have HNB : Hid (mtBad S mo ri ts i = false) := Lib.hid (by first | (rw [HBD.out]; simp only [← HC11.out, ← HC30.out, ← HC40.out, t14, t33, t41, Bool.and_true, Bool.true_and, Bool.and_false, Bool.false_and, Bool.or_true, Bool.true_or, Bool.or_false, Bool.false_or, Bool.not_true, Bool.not_false, cond_true, cond_false]) | (rw [HBD.out]; simp [← HC11.out, ← HC30.out, ← HC40.out, t14, t33, t41]))
      have HNW : Hid (mtNow le ts (i + 1) = n1) := (HN1.out.trans (if_neg (by rw [← HC40.out]; have := T41.out; omega))).trans HQ1.out.symm
      exact ⟨⟨i + 1, z38, by have := HLT.out; omega, by go_num, (by rw [HNW.out] <;> first | rfl | go_num), (by rw [HB1.out, HNW.out] <;> first | rfl | (congr 1; omega) | go_num), (by show _ = _; rw [HO1.out, HOK.out, HNB.out]; rfl), Lib.hid (((((((HS.out).erase 0).addP (HS.out.p 10 _ _ rfl)).addP (HS.out.p 9 _ _ rfl)).addP (HS.out.p 8 _ _ rfl)).addP (HS.out.p 7 _ _ rfl)).addP (by rw [HP1.out]; exact (HS.out.p 0 _ _ rfl)))⟩, meas_up HLT.out⟩
  ·
   obtain rfl : i = ts.length := by omega
   have b0e := (HS.out.at 2 _ _ _ rfl)
   have b0c0 := blk_cell b0e 0 (.bool y1.b) rfl
   have b0c1 := blk_cell b0e 1 (.slice y1.a y1.n y1.c) rfl
   have b0c2 := blk_cell b0e 2 (.slice y1.d y1.m y1.e) rfl
   have b0c3 := blk_cell b0e 3 (.bool y2.b) rfl
   have b0c4 := blk_cell b0e 4 (.slice y2.a y2.n y2.c) rfl
   have b0c5 := blk_cell b0e 5 (.slice y2.d y2.m y2.e) rfl
   have b0c6 := blk_cell b0e 6 (.bool y3.b) rfl
   have b0c7 := blk_cell b0e 7 (.slice y3.a y3.n y3.c) rfl
   have b0c8 := blk_cell b0e 8 (.slice y3.d y3.m y3.e) rfl
   have b0c9 := blk_cell b0e 9 (.int .i64 m) rfl
   have b0f0 := blk_frozen b0e 0
   have b0f1 := blk_frozen b0e 1
   have b0f2 := blk_frozen b0e 2
   have b0f3 := blk_frozen b0e 3
   have b0f4 := blk_frozen b0e 4
   have b0f5 := blk_frozen b0e 5
   have b0f6 := blk_frozen b0e 6
   have b0f7 := blk_frozen b0e 7
   have b0f8 := blk_frozen b0e 8
   have b0f9 := blk_frozen b0e 9
   have b0l := blk_lt b0e
   clear b0e
   go_wp2_with fail
   clear b0c0 b0c1 b0c2 b0c3 b0c4 b0c5 b0c6 b0c7 b0c8 b0c9 b0f0 b0f1 b0f2 b0f3 b0f4 b0f5 b0f6 b0f7 b0f8 b0f9 b0l
   have HR : Hid (mtOf S le mo ri m ts = decide (m ≤ ((mtBest le ts ts.length : Nat) : Int))) := by show _ = _; unfold mtOf; rw [HOK.out, Bool.true_and]
   go_ret
   exact ⟨by rw [HR.out] <;> rfl, HS.out.bel⟩
set_option maxRecDepth 100000 in
set_option maxHeartbeats 8000000 in
theorem pmeets_any (l0 l1 S le mo ri : Rat) (m : Int) (aq : List Rat) (k : Nat) (hk : k ≤ 256) (z : Int) (hz : min (max z 0) 256 = (k : Int)) (y1 y2 y3 : R3) (vx vS va : Value) (w : World) (hx : IsRng w vx l0 l1) (hS : IsRat w vS S) (ha : FrcsOf IsRat w va aq) (h1 : IsRat w y1.val le) (h2 : IsRat w y2.val mo) (h3 : IsRat w y3.val ri) (hl : aq.length ≤ 300) (s0 : szR l0 1000) (s1 : szR l1 1000) (sS : szR S 1000) (sa : ∀ i, szR (aq.getD i 0) 1000) (s4 : szR le 1000) (s5 : szR mo 1000) (s6 : szR ri 1000) (sF : flErr l0 l1 aq.length = 0 → ∀ i, szR (flUp S l0 l1 k aq i).1 1000 ∧ szR (flUp S l0 l1 k aq i).2 1000) (sT : flErr l0 l1 aq.length = 0 → ∀ i j, szR (((flR S l0 l1 k aq aq.length).getD i []).getD j 0) 1000) :
  Calls Tryz.prog 31 #[vx, vS, va, .agg #[.bool y1.b, .slice y1.a y1.n y1.c, .slice y1.d y1.m y1.e, .bool y2.b, .slice y2.a y2.n y2.c, .slice y2.d y2.m y2.e, .bool y3.b, .slice y3.a y3.n y3.c, .slice y3.d y3.m y3.e, .int .i64 m], .int .i64 z] w (RetBE (meOf S le mo ri m (flR S l0 l1 k aq aq.length) (meErr l0 l1 aq.length le mo ri m)) (meErr l0 l1 aq.length le mo ri m) w) := by
 obtain ⟨x1, x2, rfl, hx1, hx2⟩ := hx
 obtain ⟨x3, rfl⟩ := hS.open3
 have HS := Lib.hid (((((((Sx.init w).addP hx1).addP hx2).addP hS).addP h1).addP h2).addP h3)
 have SL0 := Lib.hid s0
 have SL1 := Lib.hid s1
 have SS := Lib.hid sS
 have SE := Lib.hid s4
 have SM := Lib.hid s5
 have SI := Lib.hid s6
 have HZA := Lib.hid sa
 have HZF0 := Lib.hid sF
 have HZT := Lib.hid sT
 have HK := Lib.hid hk
 have HZK := Lib.hid hz
 have HA := Lib.hid ha
 have HLE := Lib.hid hl
 obtain ⟨aa, ca, rfl, _⟩ := ha
 clear hx1 hx2 hS h1 h2 h3 s0 s1 sS s4 s5 s6 sa sF sT hk hz hl
 go_enter Tryz.func31, Tryz.ntmps31
 go_wp2_with fail
 generalize hW1 : (((w).alloc (.cells _ _)).alloc (.cells _ _)).alloc (.cells _ _) = W1 at *
 replace HS := Lib.hid (((((HS.out).alloc (B := w.heap.size) rfl (by rfl)).alloc (B := w.heap.size + 1) (by simp) (by rfl)).alloc (B := w.heap.size + 2) (by simp) (by rfl)).to hW1 (by (try simp only [nb5, nb6]); rfl))
 clear hW1
 by_cases hz2 : flErr l0 l1 aq.length = 0
 ·
  have HZ2 := Lib.hid hz2
  clear hz2
  refine (tcheck_any l0 l1 aq.length _ _ _ _ (rngP (HS.out.p 5 _ _ rfl) (HS.out.p 4 _ _ rfl)) SL1.out).mono ?_
  rw [HZ2.out]
  rintro e w3 ⟨rfl, hb3⟩
  replace HS := Lib.hid (HS.out.below hb3)
  clear hb3
  have b2e := (HS.out.at 0 _ _ _ rfl)
  have b2c0 := blk_cell b2e 0 (.bool y1.b) rfl
  have b2c1 := blk_cell b2e 1 (.slice y1.a y1.n y1.c) rfl
  have b2c2 := blk_cell b2e 2 (.slice y1.d y1.m y1.e) rfl
  have b2c3 := blk_cell b2e 3 (.bool y2.b) rfl
  have b2c4 := blk_cell b2e 4 (.slice y2.a y2.n y2.c) rfl
  have b2c5 := blk_cell b2e 5 (.slice y2.d y2.m y2.e) rfl
  have b2c6 := blk_cell b2e 6 (.bool y3.b) rfl
  have b2c7 := blk_cell b2e 7 (.slice y3.a y3.n y3.c) rfl
  have b2c8 := blk_cell b2e 8 (.slice y3.d y3.m y3.e) rfl
  have b2c9 := blk_cell b2e 9 (.int .i64 m) rfl
  have b2f0 := blk_frozen b2e 0
  have b2f1 := blk_frozen b2e 1
  have b2f2 := blk_frozen b2e 2
  have b2f3 := blk_frozen b2e 3
  have b2f4 := blk_frozen b2e 4
  have b2f5 := blk_frozen b2e 5
  have b2f6 := blk_frozen b2e 6
  have b2f7 := blk_frozen b2e 7
  have b2f8 := blk_frozen b2e 8
  have b2f9 := blk_frozen b2e 9
  have b2l := blk_lt b2e
  clear b2e
  go_wp2_with fail
  clear b2c0 b2c1 b2c2 b2c3 b2c4 b2c5 b2c6 b2c7 b2c8 b2c9 b2f0 b2f1 b2f2 b2f3 b2f4 b2f5 b2f6 b2f7 b2f8 b2f9 b2l
  by_cases hz4 : ndErr le mo ri m = 0
  ·
   have HZ4 := Lib.hid hz4
   clear hz4
   refine (ncheck_any le mo ri m y1 y2 y3 _ (HS.out.p 2 _ _ rfl) (HS.out.p 1 _ _ rfl) (HS.out.p 0 _ _ rfl) SE.out SM.out SI.out).mono ?_
   rw [HZ4.out]
   rintro e w5 ⟨rfl, hb5⟩
   replace HS := Lib.hid (HS.out.below hb5)
   clear hb5
   go_wp2_with fail
   have HFE : Hid (flErr l0 l1 aq.length = 0) := HZ2.out
   refine wp_region_held_drew (S := (fun w' => Sx w w' [(w.heap.size + 2, #[.bool y1.b, .slice y1.a y1.n y1.c, .slice y1.d y1.m y1.e, .bool y2.b, .slice y2.a y2.n y2.c, .slice y2.d y2.m y2.e, .bool y3.b, .slice y3.a y3.n y3.c, .slice y3.d y3.m y3.e, .int .i64 m], 82), (w.heap.size + 1, x3.arr, 42), (w.heap.size, arr6 x1 x2, 90)] [])) (by kernel_rfl) ((HS.out.drew).bare) (fun hh => ?_)
   replace HS := Lib.hid HS.out.drew
   refine tkB (i := 0) (v := ?vk7) rfl ?hk7 ?rk7
   case hk7 => intro u hSu; (try dsimp only at hSu); have qb2e := (hSu.at 0 _ _ _ rfl); have qb2c0 := blk_cell qb2e 0 (.bool y1.b) rfl; have qb2c1 := blk_cell qb2e 1 (.slice y1.a y1.n y1.c) rfl; have qb2c2 := blk_cell qb2e 2 (.slice y1.d y1.m y1.e) rfl; have qb2c3 := blk_cell qb2e 3 (.bool y2.b) rfl; have qb2c4 := blk_cell qb2e 4 (.slice y2.a y2.n y2.c) rfl; have qb2c5 := blk_cell qb2e 5 (.slice y2.d y2.m y2.e) rfl; have qb2c6 := blk_cell qb2e 6 (.bool y3.b) rfl; have qb2c7 := blk_cell qb2e 7 (.slice y3.a y3.n y3.c) rfl; have qb2c8 := blk_cell qb2e 8 (.slice y3.d y3.m y3.e) rfl; have qb2c9 := blk_cell qb2e 9 (.int .i64 m) rfl; clear qb2e; clear hSu; go_simp <;> with_reducible rfl
   try simp only [nbs, Act.put]
   refine tkB (i := 1) (v := ?vk8) rfl ?hk8 ?rk8
   case hk8 => intro u hSu; (try dsimp only at hSu); obtain ⟨qb1c0, qb1c1, qb1c2, _⟩ := fac3 (x := x3) (hSu.at 1 _ _ _ rfl); clear hSu; go_simp <;> with_reducible rfl
   try simp only [nbs, Act.put]
   refine tkB (i := 2) (v := ?vk9) rfl ?hk9 ?rk9
   case hk9 => intro u hSu; (try dsimp only at hSu); obtain ⟨qb0c0, qb0c1, qb0c2, qb0c3, qb0c4, qb0c5, _⟩ := fac6 (x := x1) (y := x2) (hSu.at 2 _ _ _ rfl); clear hSu; go_simp <;> with_reducible rfl
   try simp only [nbs, Act.put]
   refine tkB (i := 3) (v := ?vk10) rfl ?hk10 ?rk10
   case hk10 => intro u hSu; (try dsimp only at hSu); obtain ⟨qb1c0, qb1c1, qb1c2, _⟩ := fac3 (x := x3) (hSu.at 1 _ _ _ rfl); clear hSu; go_simp <;> with_reducible rfl
   try simp only [nbs, Act.put]
   refine tkB (i := 4) (v := ?vk11) rfl ?hk11 ?rk11
   case hk11 => intro u hSu; go_simp <;> with_reducible rfl
   try simp only [nbs, Act.put]
   refine tkB (i := 5) (v := ?vk12) rfl ?hk12 ?rk12
   case hk12 => intro u hSu; go_simp <;> with_reducible rfl
   try simp only [nbs, Act.put]
   refine rdA (i := 6) rfl (fun K hK => ?_)
   go_simp
   have a14 := HS.out.p 5 _ _ rfl
   have a15 := HS.out.p 4 _ _ rfl
   have a16 := HS.out.p 3 _ _ rfl
   go_wp2_with (go_at_call 79; (with_reducible refine (follow_any l0 l1 S aq k HK.out z HZK.out _ _ _ _ (rngP a14 a15) a16 (HA.out.bP HS.out.bel) HLE.out SL0.out SL1.out SS.out HZA.out (HZF0.out HFE.out)).mono ?_); rintro e w13 ⟨v13, rfl, hv13, hb13⟩; have HV13 := Lib.hid hv13; clear hv13)
   refine hK.out _ _ (Sx.below hh hb13) (fun hh => ?_)
   clear hK K
   try simp only [nbs, Act.put]
   replace HS := Lib.hid (HS.out.below hb13)
   clear hb13 a14 a15 a16
   refine rdA (i := 7) rfl (fun K hK => ?_)
   go_simp
   have a18 := HS.out.p 2 _ _ rfl
   have a19 := HS.out.p 1 _ _ rfl
   have a20 := HS.out.p 0 _ _ rfl
   have a21 := HS.out.p 3 _ _ rfl
   go_wp2_with (go_at_call 82; (with_reducible refine (nmeets_any S le mo ri m _ y1 y2 y3 _ _ _ a18 a19 a20 a21 HV13.out (by rw [flR_len]; exact HLE.out) SE.out SM.out SI.out SS.out (HZT.out HFE.out)).mono ?_); rintro e w17 ⟨rfl, hb17⟩)
   refine hK.out _ _ (Sx.below hh hb17) (fun hh => ?_)
   clear hK K
   try simp only [nbs, Act.put]
   replace HS := Lib.hid (HS.out.below hb17)
   clear hb17 a18 a19 a20 a21
   cases t22 : (mtOf S le mo ri m (flR S l0 l1 k aq aq.length)) with
   | true =>
    refine tkB (i := 8) (v := ?vk23) rfl ?hk23 ?rk23
    case hk23 => intro u hSu; go_simp <;> with_reducible rfl
    try simp only [nbs, Act.put]
    refine tkB (i := 9) (v := ?vk24) rfl ?hk24 ?rk24
    case hk24 => intro u hSu; go_simp <;> with_reducible rfl
    try simp only [nbs, Act.put]
    refine wpAnyH_done (by kernel_rfl) ?_ _
    go_wp2_with fail
    have HR : Hid (meErr l0 l1 aq.length le mo ri m = 0) := by show _ = _; unfold meErr; rw [if_neg (by rw [HZ2.out]; simp), HZ4.out]
    go_ret2
    exact (by rw [HR.out, show meOf S le mo ri m (flR S l0 l1 k aq aq.length) 0 = mtOf S le mo ri m (flR S l0 l1 k aq aq.length) from if_pos rfl, t22]; exact ⟨rfl, HS.out.bel⟩)
   | false =>
    refine tkB (i := 8) (v := ?vk25) rfl ?hk25 ?rk25
    case hk25 => intro u hSu; go_simp <;> with_reducible rfl
    try simp only [nbs, Act.put]
    refine tkB (i := 9) (v := ?vk26) rfl ?hk26 ?rk26
    case hk26 => intro u hSu; go_simp <;> with_reducible rfl
    try simp only [nbs, Act.put]
    refine wpAnyH_done (by kernel_rfl) ?_ _
    go_wp2_with fail
    have HR : Hid (meErr l0 l1 aq.length le mo ri m = 0) := by show _ = _; unfold meErr; rw [if_neg (by rw [HZ2.out]; simp), HZ4.out]
    go_ret2
    exact (by rw [HR.out, show meOf S le mo ri m (flR S l0 l1 k aq aq.length) 0 = mtOf S le mo ri m (flR S l0 l1 k aq aq.length) from if_pos rfl, t22]; exact ⟨rfl, HS.out.bel⟩)
  ·
   obtain ⟨er4, her4⟩ : ∃ c, c = ndErr le mo ri m := ⟨_, rfl⟩
   have HER4 := Lib.hid her4
   rw [← her4] at hz4
   have en4 : (er4 == 0) = false := beq_eq_false_iff_ne.2 hz4
   have eo4 : (er4 != 0) = true := bne_iff_ne.2 hz4
   have ep4 : decide (er4 = 0) = false := decide_eq_false hz4
   have HNZ4 := Lib.hid hz4
   clear her4 hz4
   refine (ncheck_any le mo ri m y1 y2 y3 _ (HS.out.p 2 _ _ rfl) (HS.out.p 1 _ _ rfl) (HS.out.p 0 _ _ rfl) SE.out SM.out SI.out).mono ?_
   rw [← HER4.out]
   rintro e w27 ⟨rfl, hb27⟩
   replace HS := Lib.hid (HS.out.below hb27)
   clear hb27
   go_wp2_with fail
   have HR : Hid (meErr l0 l1 aq.length le mo ri m = er4) := by show _ = _; unfold meErr; rw [if_neg (by rw [HZ2.out]; simp), ← HER4.out]
   go_ret2
   exact (by rw [HR.out]; exact ⟨by unfold meOf; rw [if_neg HNZ4.out] <;> rfl, HS.out.bel⟩)
 ·
  obtain ⟨er2, her2⟩ : ∃ c, c = flErr l0 l1 aq.length := ⟨_, rfl⟩
  have HER2 := Lib.hid her2
  rw [← her2] at hz2
  have en2 : (er2 == 0) = false := beq_eq_false_iff_ne.2 hz2
  have eo2 : (er2 != 0) = true := bne_iff_ne.2 hz2
  have ep2 : decide (er2 = 0) = false := decide_eq_false hz2
  have HNZ2 := Lib.hid hz2
  clear her2 hz2
  refine (tcheck_any l0 l1 aq.length _ _ _ _ (rngP (HS.out.p 5 _ _ rfl) (HS.out.p 4 _ _ rfl)) SL1.out).mono ?_
  rw [← HER2.out]
  rintro e w28 ⟨rfl, hb28⟩
  replace HS := Lib.hid (HS.out.below hb28)
  clear hb28
  go_wp2_with fail
  have HR : Hid (meErr l0 l1 aq.length le mo ri m = er2) := by show _ = _; unfold meErr; rw [← HER2.out, if_pos HNZ2.out]
  go_ret2
  exact (by rw [HR.out]; exact ⟨by unfold meOf; rw [if_neg HNZ2.out] <;> rfl, HS.out.bel⟩)
end Go.Proofs.YthhnkobkdhjfgaaGreat

namespace Go.Proofs.YthhnkobkdhjfgaaGreat
open Go.RowKit

def adUp (n : Nat) (le mo ri : Rat) (m : Int) (ls : List (List Rat)) : Nat → Int
 | 0 => 0
 | i + 1 => if adUp n le mo ri m ls i ≠ 0 then adUp n le mo ri m ls i else meErr ((ls.getD i []).getD 0 0) ((ls.getD i []).getD 1 0) n le mo ri m
def adBad (S le mo ri : Rat) (m : Int) (k : Nat) (aq : List Rat) (ls : List (List Rat)) (i : Nat) : Bool := !mtOf S le mo ri m (flR S ((ls.getD i []).getD 0 0) ((ls.getD i []).getD 1 0) k aq aq.length)
def adErr (n : Nat) (le mo ri : Rat) (m : Int) (ls : List (List Rat)) : Int := if ls.length < 1 ∨ 64 < ls.length then 4 else adUp n le mo ri m ls ls.length
def adIx (S le mo ri : Rat) (m : Int) (k : Nat) (aq : List Rat) (ls : List (List Rat)) (er : Int) : Int := if er = 0 then firstUp (adBad S le mo ri m k aq ls) ls.length else 0
theorem adUp_stay {n : Nat} {le mo ri : Rat} {m : Int} {ls : List (List Rat)} {i c : Nat} (h : adUp n le mo ri m ls i ≠ 0) (hi : i ≤ c) : adUp n le mo ri m ls c = adUp n le mo ri m ls i := by
  induction c with
  | zero => obtain rfl : i = 0 := by omega
            rfl
  | succ c ih =>
    rcases Nat.lt_or_ge i (c + 1) with h1 | h1
    · have e := ih (by omega)
      show (if adUp n le mo ri m ls c ≠ 0 then adUp n le mo ri m ls c else _) = _
      rw [if_pos (by rw [e]; exact h), e]
    · obtain rfl : i = c + 1 := by omega
      rfl
theorem adUp_s {n : Nat} {le mo ri : Rat} {m : Int} {ls : List (List Rat)} {i : Nat} (h : adUp n le mo ri m ls i = 0) : adUp n le mo ri m ls (i + 1) = meErr ((ls.getD i []).getD 0 0) ((ls.getD i []).getD 1 0) n le mo ri m := by
 show (if adUp n le mo ri m ls i ≠ 0 then adUp n le mo ri m ls i else _) = _
 rw [if_neg (by rw [h]; simp)]
theorem adUp_zero {n : Nat} {le mo ri : Rat} {m : Int} {ls : List (List Rat)} {c : Nat} (h : adUp n le mo ri m ls c = 0) (i : Nat) (hi : i < c) : meErr ((ls.getD i []).getD 0 0) ((ls.getD i []).getD 1 0) n le mo ri m = 0 := by
 have h1 : adUp n le mo ri m ls (i + 1) = 0 := by
  rcases Decidable.em (adUp n le mo ri m ls (i + 1) = 0) with h0 | h0
  ·
   exact h0
  ·
   rw [adUp_stay h0 hi] at h; exact h
 have h2 : adUp n le mo ri m ls i = 0 := by
  rcases Decidable.em (adUp n le mo ri m ls i = 0) with h0 | h0
  ·
   exact h0
  ·
   rw [adUp_stay h0 (by omega : i ≤ c)] at h; exact absurd h h0
 rw [← adUp_s h2]; exact h1
theorem meErr_fl {l0 l1 : Rat} {n : Nat} {le mo ri : Rat} {m : Int} (h : meErr l0 l1 n le mo ri m = 0) : flErr l0 l1 n = 0 := by
 unfold meErr at h
 rcases Decidable.em (flErr l0 l1 n = 0) with h0 | h0
 ·
  exact h0
 ·
  rw [if_pos h0] at h; exact h
def RetII (a b : Int) (w : World) (e : Ending) (w' : World) : Prop := e = .returned (.tuple #[.int .i64 a, .int .i64 b]) ∧ Below w.heap.size w w'
set_option maxRecDepth 100000 in
set_option maxHeartbeats 8000000 in
theorem admit1_any (l0 l1 S le mo ri : Rat) (m : Int) (aq : List Rat) (k : Nat) (hk : k ≤ 256) (z : Int) (hz : min (max z 0) 256 = (k : Int)) (x1 x2 x3 y1 y2 y3 : R3) (aa : Option Addr) (ca bn bs ba bk tn ts ta tk : Nat) (w : World) (hx1 : IsRat w x1.val l0) (hx2 : IsRat w x2.val l1) (hS : IsRat w x3.val S) (ha : FrcsOf IsRat w (.slice aa aq.length ca) aq) (h1 : IsRat w y1.val le) (h2 : IsRat w y2.val mo) (h3 : IsRat w y3.val ri) (hl : aq.length ≤ 300) (s0 : szR l0 1000) (s1 : szR l1 1000) (sS : szR S 1000) (sa : ∀ i, szR (aq.getD i 0) 1000) (s4 : szR le 1000) (s5 : szR mo 1000) (s6 : szR ri 1000) (sF : ∀ i, szR (flUp S l0 l1 k aq i).1 1000 ∧ szR (flUp S l0 l1 k aq i).2 1000) (sT : ∀ i j, szR (((flR S l0 l1 k aq aq.length).getD i []).getD j 0) 1000)
  (hn : w.heap[bn]? = some (.cells #[.bool y1.b, .slice y1.a y1.n y1.c, .slice y1.d y1.m y1.e, .bool y2.b, .slice y2.a y2.n y2.c, .slice y2.d y2.m y2.e, .bool y3.b, .slice y3.a y3.n y3.c, .slice y3.d y3.m y3.e, .int .i64 m] tn (0, 0))) (hs : w.heap[bs]? = some (.cells #[.bool x3.b, .slice x3.a x3.n x3.c, .slice x3.d x3.m x3.e] ts (0, 0))) (hq : w.heap[ba]? = some (.cells #[.slice aa aq.length ca] ta (0, 0))) (hkk : w.heap[bk]? = some (.cells #[.int .i64 z] tk (0, 0))) :
  Calls Tryz.prog 91 #[.agg #[.bool x1.b, .slice x1.a x1.n x1.c, .slice x1.d x1.m x1.e, .bool x2.b, .slice x2.a x2.n x2.c, .slice x2.d x2.m x2.e], .pointer (some ⟨bn, 0, none⟩), .pointer (some ⟨bs, 0, none⟩), .pointer (some ⟨ba, 0, none⟩), .pointer (some ⟨bk, 0, none⟩)] w (RetBool (!mtOf S le mo ri m (flR S l0 l1 k aq aq.length)) w) := by
 have HS := Lib.hid (((((((Sx.init w).addP hx1).addP hx2).addP hS).addP h1).addP h2).addP h3)
 have SL0 := Lib.hid s0
 have SL1 := Lib.hid s1
 have SS := Lib.hid sS
 have SE := Lib.hid s4
 have SM := Lib.hid s5
 have SI := Lib.hid s6
 have HZA := Lib.hid sa
 have HZF := Lib.hid sF
 have HZT := Lib.hid sT
 have HK := Lib.hid hk
 have HZK := Lib.hid hz
 have HA := Lib.hid ha
 have HLE := Lib.hid hl
 have N0 := Lib.hid (blk_cell hn 0 (.bool y1.b) rfl)
 have N1 := Lib.hid (blk_cell hn 1 (.slice y1.a y1.n y1.c) rfl)
 have N2 := Lib.hid (blk_cell hn 2 (.slice y1.d y1.m y1.e) rfl)
 have N3 := Lib.hid (blk_cell hn 3 (.bool y2.b) rfl)
 have N4 := Lib.hid (blk_cell hn 4 (.slice y2.a y2.n y2.c) rfl)
 have N5 := Lib.hid (blk_cell hn 5 (.slice y2.d y2.m y2.e) rfl)
 have N6 := Lib.hid (blk_cell hn 6 (.bool y3.b) rfl)
 have N7 := Lib.hid (blk_cell hn 7 (.slice y3.a y3.n y3.c) rfl)
 have N8 := Lib.hid (blk_cell hn 8 (.slice y3.d y3.m y3.e) rfl)
 have N9 := Lib.hid (blk_cell hn 9 (.int .i64 m) rfl)
 have NL := Lib.hid (blk_lt hn)
 have T0 := Lib.hid (blk_cell hs 0 (.bool x3.b) rfl)
 have T1 := Lib.hid (blk_cell hs 1 (.slice x3.a x3.n x3.c) rfl)
 have T2 := Lib.hid (blk_cell hs 2 (.slice x3.d x3.m x3.e) rfl)
 have TL := Lib.hid (blk_lt hs)
 have A0 := Lib.hid (blk_cell hq 0 (.slice aa aq.length ca) rfl)
 have AL := Lib.hid (blk_lt hq)
 have K0 := Lib.hid (blk_cell hkk 0 (.int .i64 z) rfl)
 have KL := Lib.hid (blk_lt hkk)
 clear hx1 hx2 hS ha h1 h2 h3 s0 s1 sS s4 s5 s6 sa sF sT hk hz hl hn hs hq hkk
 go_enter Tryz.func91, Tryz.ntmps91
 go_wp2_with fail
 generalize hW1 : (w).alloc (.cells _ _) = W1 at *
 replace HS := Lib.hid (((HS.out).alloc (B := w.heap.size) rfl (by rfl)).to hW1 (by (try simp only [nb5, nb6]); rfl))
 clear hW1
 refine wp_region_held_drew (S := (fun w' => Sx w w' [(w.heap.size, arr6 x1 x2, 90)] [])) (by kernel_rfl) ((HS.out.drew).bare) (fun hh => ?_)
 replace HS := Lib.hid HS.out.drew
 refine tkB (i := 0) (v := ?vk3) rfl ?hk3 ?rk3
 case hk3 => intro u hSu; (try dsimp only at hSu); have Nc0 := (hSu.bel.cell (p := ⟨bn, 0, none⟩) NL.out).trans N0.out; have Nc1 := (hSu.bel.cell (p := ⟨bn, 1, none⟩) NL.out).trans N1.out; have Nc2 := (hSu.bel.cell (p := ⟨bn, 2, none⟩) NL.out).trans N2.out; have Nc3 := (hSu.bel.cell (p := ⟨bn, 3, none⟩) NL.out).trans N3.out; have Nc4 := (hSu.bel.cell (p := ⟨bn, 4, none⟩) NL.out).trans N4.out; have Nc5 := (hSu.bel.cell (p := ⟨bn, 5, none⟩) NL.out).trans N5.out; have Nc6 := (hSu.bel.cell (p := ⟨bn, 6, none⟩) NL.out).trans N6.out; have Nc7 := (hSu.bel.cell (p := ⟨bn, 7, none⟩) NL.out).trans N7.out; have Nc8 := (hSu.bel.cell (p := ⟨bn, 8, none⟩) NL.out).trans N8.out; have Nc9 := (hSu.bel.cell (p := ⟨bn, 9, none⟩) NL.out).trans N9.out; clear hSu; go_simp <;> with_reducible rfl
 try simp only [nbs, Act.put]
 refine tkB (i := 1) (v := ?vk4) rfl ?hk4 ?rk4
 case hk4 => intro u hSu; (try dsimp only at hSu); have Tc0 := (hSu.bel.cell (p := ⟨bs, 0, none⟩) TL.out).trans T0.out; have Tc1 := (hSu.bel.cell (p := ⟨bs, 1, none⟩) TL.out).trans T1.out; have Tc2 := (hSu.bel.cell (p := ⟨bs, 2, none⟩) TL.out).trans T2.out; clear hSu; go_simp <;> with_reducible rfl
 try simp only [nbs, Act.put]
 refine tkB (i := 2) (v := ?vk5) rfl ?hk5 ?rk5
 case hk5 => intro u hSu; (try dsimp only at hSu); obtain ⟨qb0c0, qb0c1, qb0c2, qb0c3, qb0c4, qb0c5, _⟩ := fac6 (x := x1) (y := x2) (hSu.at 0 _ _ _ rfl); clear hSu; go_simp <;> with_reducible rfl
 try simp only [nbs, Act.put]
 refine tkB (i := 3) (v := ?vk6) rfl ?hk6 ?rk6
 case hk6 => intro u hSu; (try dsimp only at hSu); have Tc0 := (hSu.bel.cell (p := ⟨bs, 0, none⟩) TL.out).trans T0.out; have Tc1 := (hSu.bel.cell (p := ⟨bs, 1, none⟩) TL.out).trans T1.out; have Tc2 := (hSu.bel.cell (p := ⟨bs, 2, none⟩) TL.out).trans T2.out; clear hSu; go_simp <;> with_reducible rfl
 try simp only [nbs, Act.put]
 refine tkB (i := 4) (v := ?vk7) rfl ?hk7 ?rk7
 case hk7 => intro u hSu; (try dsimp only at hSu); have Ac0 := (hSu.bel.cell (p := ⟨ba, 0, none⟩) AL.out).trans A0.out; clear hSu; go_simp <;> with_reducible rfl
 try simp only [nbs, Act.put]
 refine tkB (i := 5) (v := ?vk8) rfl ?hk8 ?rk8
 case hk8 => intro u hSu; (try dsimp only at hSu); have Kc0 := (hSu.bel.cell (p := ⟨bk, 0, none⟩) KL.out).trans K0.out; clear hSu; go_simp <;> with_reducible rfl
 try simp only [nbs, Act.put]
 refine rdA (i := 6) rfl (fun K hK => ?_)
 go_simp
 have a10 := HS.out.p 5 _ _ rfl
 have a11 := HS.out.p 4 _ _ rfl
 have a12 := HS.out.p 3 _ _ rfl
 go_wp2_with (go_at_call 79; (with_reducible refine (follow_any l0 l1 S aq k HK.out z HZK.out _ _ _ _ (rngP a10 a11) a12 (HA.out.bP HS.out.bel) HLE.out SL0.out SL1.out SS.out HZA.out HZF.out).mono ?_); rintro e w9 ⟨v9, rfl, hv9, hb9⟩; have HV9 := Lib.hid hv9; clear hv9)
 refine hK.out _ _ (Sx.below hh hb9) (fun hh => ?_)
 clear hK K
 try simp only [nbs, Act.put]
 replace HS := Lib.hid (HS.out.below hb9)
 clear hb9 a10 a11 a12
 refine rdA (i := 7) rfl (fun K hK => ?_)
 go_simp
 have a14 := HS.out.p 2 _ _ rfl
 have a15 := HS.out.p 1 _ _ rfl
 have a16 := HS.out.p 0 _ _ rfl
 have a17 := HS.out.p 3 _ _ rfl
 go_wp2_with (go_at_call 82; (with_reducible refine (nmeets_any S le mo ri m _ y1 y2 y3 _ _ _ a14 a15 a16 a17 HV9.out (by rw [flR_len]; exact HLE.out) SE.out SM.out SI.out SS.out HZT.out).mono ?_); rintro e w13 ⟨rfl, hb13⟩)
 refine hK.out _ _ (Sx.below hh hb13) (fun hh => ?_)
 clear hK K
 try simp only [nbs, Act.put]
 replace HS := Lib.hid (HS.out.below hb13)
 clear hb13 a14 a15 a16 a17
 cases t18 : (mtOf S le mo ri m (flR S l0 l1 k aq aq.length)) with
 | true =>
  refine tkB (i := 8) (v := ?vk19) rfl ?hk19 ?rk19
  case hk19 => intro u hSu; go_simp <;> with_reducible rfl
  try simp only [nbs, Act.put]
  refine tkB (i := 9) (v := ?vk20) rfl ?hk20 ?rk20
  case hk20 => intro u hSu; go_simp <;> with_reducible rfl
  try simp only [nbs, Act.put]
  refine wpAnyH_done (by kernel_rfl) ?_ _
  go_wp2_with fail
  have HR : Hid ((!mtOf S le mo ri m (flR S l0 l1 k aq aq.length)) = false) := by show _ = _; rw [t18]; rfl
  go_ret
  exact ⟨by rw [HR.out] <;> rfl, HS.out.bel⟩
 | false =>
  refine tkB (i := 8) (v := ?vk21) rfl ?hk21 ?rk21
  case hk21 => intro u hSu; go_simp <;> with_reducible rfl
  try simp only [nbs, Act.put]
  refine tkB (i := 9) (v := ?vk22) rfl ?hk22 ?rk22
  case hk22 => intro u hSu; go_simp <;> with_reducible rfl
  try simp only [nbs, Act.put]
  refine wpAnyH_done (by kernel_rfl) ?_ _
  go_wp2_with fail
  have HR : Hid ((!mtOf S le mo ri m (flR S l0 l1 k aq aq.length)) = true) := by show _ = _; rw [t18]; rfl
  go_ret
  exact ⟨by rw [HR.out] <;> rfl, HS.out.bel⟩
set_option maxRecDepth 100000 in
set_option maxHeartbeats 8000000 in
theorem indexF_any (ls : List (List Rat)) (f : Nat → Bool) (bn bs ba bk : Nat) (v : Value) (w : World) (h : RecsOf true 2 w v ls) (hl : ls.length ≤ 300) (hf : ∀ i (x y : R3), i < ls.length → ∀ W, Below w.heap.size w W → IsRat W x.val ((ls.getD i []).getD 0 0) → IsRat W y.val ((ls.getD i []).getD 1 0) → Calls Tryz.prog 91 #[.agg #[.bool x.b, .slice x.a x.n x.c, .slice x.d x.m x.e, .bool y.b, .slice y.a y.n y.c, .slice y.d y.m y.e], .pointer (some ⟨bn, 0, none⟩), .pointer (some ⟨bs, 0, none⟩), .pointer (some ⟨ba, 0, none⟩), .pointer (some ⟨bk, 0, none⟩)] W (RetBool (f i) W)) :
  Calls Tryz.prog 90 #[v, .func (.func 91) #[] #[.pointer (some ⟨bn, 0, none⟩), .pointer (some ⟨bs, 0, none⟩), .pointer (some ⟨ba, 0, none⟩), .pointer (some ⟨bk, 0, none⟩)]] w (RetInt (firstUp f ls.length) w) := by
 have HS := Lib.hid (Sx.init w)
 have HF := Lib.hid hf
 obtain ⟨al, cl, rfl, hE⟩ := h
 have HE := Lib.hid hE
 clear hE hf
 go_enter Tryz.func90, Tryz.ntmps90
 go_wp2_with fail
 go_loopw [8] (fun u8 wr => ∃ (i : Nat), i ≤ ls.length ∧ u8 = .int .i64 i ∧ Hid (firstUp f i = -1) ∧ Hid (Sx w wr [] []))
  (fun u _ => ls.length - (intOf u).toNat)
 case atStart => exact ⟨0, Nat.zero_le _, rfl, Lib.hid rfl, Lib.hid (HS.out.bare)⟩
 case round =>
  obtain ⟨wr1, hwr1⟩ : ∃ z, z = wr := ⟨_, rfl⟩
  subst hwr1
  clear HS
  obtain ⟨i, hi, rfl, HOK, HS⟩ := hrel
  by_cases hlt : i < ls.length
  ·
   have hlt' : (i : Int) < ls.length := by omega
   have hge' : (0 : Int) ≤ i := by omega
   have HLT := Lib.hid hlt
   obtain ⟨b, off, rfl, hbl, hEE⟩ := HE.out (by omega)
   have HBL := Lib.hid hbl
   obtain ⟨Tx, Tg0, Tg1, Tg2, Thx⟩ := hEE i hlt 0 (by omega)
   have T0 : Hid (w.cell? ⟨b, off + i * 6, none⟩ = some (.bool Tx.b)) := Tg0
   have T1 : Hid (w.cell? ⟨b, off + i * 6 + 1, none⟩ = some (.slice Tx.a Tx.n Tx.c)) := Tg1
   have T2 : Hid (w.cell? ⟨b, off + i * 6 + 2, none⟩ = some (.slice Tx.d Tx.m Tx.e)) := Tg2
   clear Tg0 Tg1 Tg2
   obtain ⟨Ty, Tg0, Tg1, Tg2, Thy⟩ := hEE i hlt 1 (by omega)
   have T3 : Hid (w.cell? ⟨b, off + i * 6 + 3, none⟩ = some (.bool Ty.b)) := Tg0
   have T4 : Hid (w.cell? ⟨b, off + i * 6 + 4, none⟩ = some (.slice Ty.a Ty.n Ty.c)) := Tg1
   have T5 : Hid (w.cell? ⟨b, off + i * 6 + 5, none⟩ = some (.slice Ty.d Ty.m Ty.e)) := Tg2
   clear Tg0 Tg1 Tg2
   replace HS := Lib.hid ((HS.out.addP (Fr.below Thx HS.out.bel)).addP (Fr.below Thy HS.out.bel))
   clear hbl hEE Thx Thy
   clear hlt
   have Tc0 := (HS.out.bel.cell (p := ⟨b, off + i * 6, none⟩) HBL.out).trans T0.out
   have Tc1 := (HS.out.bel.cell (p := ⟨b, off + i * 6 + 1, none⟩) HBL.out).trans T1.out
   have Tc2 := (HS.out.bel.cell (p := ⟨b, off + i * 6 + 2, none⟩) HBL.out).trans T2.out
   have Tc3 := (HS.out.bel.cell (p := ⟨b, off + i * 6 + 3, none⟩) HBL.out).trans T3.out
   have Tc4 := (HS.out.bel.cell (p := ⟨b, off + i * 6 + 4, none⟩) HBL.out).trans T4.out
   have Tc5 := (HS.out.bel.cell (p := ⟨b, off + i * 6 + 5, none⟩) HBL.out).trans T5.out
   go_wp2_with fail
   clear Tc0 Tc1 Tc2 Tc3 Tc4 Tc5
   cases t2 : f i with
   | true =>
    refine (HF.out i Tx Ty HLT.out _ HS.out.bel (HS.out.p 1 _ _ rfl) (HS.out.p 0 _ _ rfl)).mono ?_
    rw [t2]
    rintro e w3 ⟨rfl, hb3⟩
    replace HS := Lib.hid (HS.out.below hb3)
    clear hb3
    go_wp2_with fail
    have HR : Hid (firstUp f ls.length = i) := firstUp_at HOK.out t2 HLT.out
    go_ret
    exact ⟨by rw [HR.out] <;> rfl, HS.out.bel⟩
   | false =>
    refine (HF.out i Tx Ty HLT.out _ HS.out.bel (HS.out.p 1 _ _ rfl) (HS.out.p 0 _ _ rfl)).mono ?_
    rw [t2]
    rintro e w4 ⟨rfl, hb4⟩
    replace HS := Lib.hid (HS.out.below hb4)
    clear hb4
    go_wp2_with fail
    exact ⟨⟨i + 1, by have := HLT.out; omega, by go_num, Lib.hid (firstUp_next HOK.out t2), Lib.hid (HS.out.bare)⟩, meas_up HLT.out⟩
  ·
   obtain rfl : i = ls.length := by omega
   go_wp2_with fail
   have HR := HOK
   go_ret
   exact ⟨by rw [HR.out] <;> rfl, HS.out.bel⟩
set_option maxRecDepth 100000 in
set_option maxHeartbeats 8000000 in
theorem padmit_any (S le mo ri : Rat) (m : Int) (aq : List Rat) (ls : List (List Rat)) (k : Nat) (hk : k ≤ 256) (z : Int) (hz : min (max z 0) 256 = (k : Int)) (y1 y2 y3 : R3) (vl vS va : Value) (w : World) (hl0 : RecsOf true 2 w vl ls) (hS : IsRat w vS S) (ha : FrcsOf IsRat w va aq) (h1 : IsRat w y1.val le) (h2 : IsRat w y2.val mo) (h3 : IsRat w y3.val ri) (hl : aq.length ≤ 300) (sl : ∀ i j, szR ((ls.getD i []).getD j 0) 1000) (sS : szR S 1000) (sa : ∀ i, szR (aq.getD i 0) 1000) (s4 : szR le 1000) (s5 : szR mo 1000) (s6 : szR ri 1000) (sF : ∀ j, flErr ((ls.getD j []).getD 0 0) ((ls.getD j []).getD 1 0) aq.length = 0 → ∀ i, szR (flUp S ((ls.getD j []).getD 0 0) ((ls.getD j []).getD 1 0) k aq i).1 1000 ∧ szR (flUp S ((ls.getD j []).getD 0 0) ((ls.getD j []).getD 1 0) k aq i).2 1000) (sT : ∀ j, flErr ((ls.getD j []).getD 0 0) ((ls.getD j []).getD 1 0) aq.length = 0 → ∀ i n, szR (((flR S ((ls.getD j []).getD 0 0) ((ls.getD j []).getD 1 0) k aq aq.length).getD i []).getD n 0) 1000) :
  Calls Tryz.prog 36 #[vl, vS, va, .agg #[.bool y1.b, .slice y1.a y1.n y1.c, .slice y1.d y1.m y1.e, .bool y2.b, .slice y2.a y2.n y2.c, .slice y2.d y2.m y2.e, .bool y3.b, .slice y3.a y3.n y3.c, .slice y3.d y3.m y3.e, .int .i64 m], .int .i64 z] w (RetII (adIx S le mo ri m k aq ls (adErr aq.length le mo ri m ls)) (adErr aq.length le mo ri m ls) w) := by
 obtain ⟨x3, rfl⟩ := hS.open3
 have HS := Lib.hid (((((Sx.init w).addP hS).addP h1).addP h2).addP h3)
 have SS := Lib.hid sS
 have SE := Lib.hid s4
 have SM := Lib.hid s5
 have SI := Lib.hid s6
 have HZA := Lib.hid sa
 have HZL := Lib.hid sl
 have HZF := Lib.hid sF
 have HZT := Lib.hid sT
 have HK := Lib.hid hk
 have HZK := Lib.hid hz
 have HA := Lib.hid ha
 have HLE := Lib.hid hl
 have HR0 := Lib.hid hl0
 obtain ⟨aa, ca, rfl, _⟩ := ha
 obtain ⟨al, cl, rfl, hE⟩ := hl0
 have HE := Lib.hid hE
 clear hS h1 h2 h3 sS s4 s5 s6 sa sl sF sT hk hz hl hE
 by_cases h1 : ls.length < 1
 ·
  have HR : Hid (adErr aq.length le mo ri m ls = 4) := by show _ = _; unfold adErr; rw [if_pos (by omega)]
  have t1 : decide ((ls.length : Int) < 1) = true := decide_eq_true (by omega)
  have t1b : decide (ls.length < 1) = true := decide_eq_true (by omega)
  go_enter Tryz.func36, Tryz.ntmps36
  go_wp2_with fail
  generalize hW1 : ((((w).alloc (.cells _ _)).alloc (.cells _ _)).alloc (.cells _ _)).alloc (.cells _ _) = W1 at *
  replace HS := Lib.hid ((((((HS.out).alloc (B := w.heap.size) rfl (by rfl)).alloc (B := w.heap.size + 1) (by simp) (by rfl)).alloc (B := w.heap.size + 2) (by simp) (by rfl)).alloc (B := w.heap.size + 3) (by simp) (by rfl)).to hW1 (by (try simp only [nb5, nb6]); rfl))
  clear hW1
  go_ret2
  exact (by rw [HR.out]; exact ⟨by unfold adIx; rw [if_neg (by decide)] <;> rfl, HS.out.bel⟩)
 by_cases h2 : 64 < ls.length
 ·
  have HR : Hid (adErr aq.length le mo ri m ls = 4) := by show _ = _; unfold adErr; rw [if_pos (by omega)]
  have t1 : decide ((ls.length : Int) < 1) = false := decide_eq_false (by omega)
  have t1b : decide (ls.length < 1) = false := decide_eq_false (by omega)
  have t2 : decide ((ls.length : Int) > 64) = true := decide_eq_true (by omega)
  have t2b : decide (64 < ls.length) = true := decide_eq_true (by omega)
  go_enter Tryz.func36, Tryz.ntmps36
  go_wp2_with fail
  generalize hW2 : ((((w).alloc (.cells _ _)).alloc (.cells _ _)).alloc (.cells _ _)).alloc (.cells _ _) = W2 at *
  replace HS := Lib.hid ((((((HS.out).alloc (B := w.heap.size) rfl (by rfl)).alloc (B := w.heap.size + 1) (by simp) (by rfl)).alloc (B := w.heap.size + 2) (by simp) (by rfl)).alloc (B := w.heap.size + 3) (by simp) (by rfl)).to hW2 (by (try simp only [nb5, nb6]); rfl))
  clear hW2
  go_ret2
  exact (by rw [HR.out]; exact ⟨by unfold adIx; rw [if_neg (by decide)] <;> rfl, HS.out.bel⟩)
 ·
  have HLN : Hid (¬ ls.length < 1 ∧ ¬ 64 < ls.length) := ⟨h1, h2⟩
  have t1 : decide ((ls.length : Int) < 1) = false := decide_eq_false (by omega)
  have t1b : decide (ls.length < 1) = false := decide_eq_false (by omega)
  have t2 : decide ((ls.length : Int) > 64) = false := decide_eq_false (by omega)
  have t2b : decide (64 < ls.length) = false := decide_eq_false (by omega)
  go_enter Tryz.func36, Tryz.ntmps36
  go_wp2_with fail
  generalize hW3 : ((((w).alloc (.cells _ _)).alloc (.cells _ _)).alloc (.cells _ _)).alloc (.cells _ _) = W3 at *
  replace HS := Lib.hid ((((((HS.out).alloc (B := w.heap.size) rfl (by rfl)).alloc (B := w.heap.size + 1) (by simp) (by rfl)).alloc (B := w.heap.size + 2) (by simp) (by rfl)).alloc (B := w.heap.size + 3) (by simp) (by rfl)).to hW3 (by (try simp only [nb5, nb6]); rfl))
  clear hW3
  go_loopw [26] (fun u26 wr => ∃ (i : Nat), i ≤ ls.length ∧ u26 = .int .i64 i ∧ Hid (adUp aq.length le mo ri m ls i = 0) ∧ Hid (Sx w wr [(w.heap.size + 3, #[.int .i64 z], 3), (w.heap.size + 2, #[.bool y1.b, .slice y1.a y1.n y1.c, .slice y1.d y1.m y1.e, .bool y2.b, .slice y2.a y2.n y2.c, .slice y2.d y2.m y2.e, .bool y3.b, .slice y3.a y3.n y3.c, .slice y3.d y3.m y3.e, .int .i64 m], 82), (w.heap.size + 1, #[.slice aa aq.length ca], 55), (w.heap.size, x3.arr, 42)] [(true, y3.val, ri), (true, y2.val, mo), (true, y1.val, le), (true, x3.val, S)]))
   (fun u _ => ls.length - (intOf u).toNat)
  case atStart => exact ⟨0, Nat.zero_le _, rfl, Lib.hid rfl, Lib.hid (((((HS.out.bare).addP (HS.out.p 3 _ _ rfl)).addP (HS.out.p 2 _ _ rfl)).addP (HS.out.p 1 _ _ rfl)).addP (HS.out.p 0 _ _ rfl))⟩
  case round =>
   obtain ⟨wr4, hwr4⟩ : ∃ z, z = wr := ⟨_, rfl⟩
   subst hwr4
   clear HS
   obtain ⟨i, hi, rfl, HOK, HS⟩ := hrel
   by_cases hlt : i < ls.length
   ·
    have hlt' : (i : Int) < ls.length := by omega
    have hge' : (0 : Int) ≤ i := by omega
    have HLT := Lib.hid hlt
    obtain ⟨b, off, rfl, hbl, hEE⟩ := HE.out (by omega)
    have HBL := Lib.hid hbl
    obtain ⟨Tx, Tg0, Tg1, Tg2, Thx⟩ := hEE i hlt 0 (by omega)
    have T0 : Hid (w.cell? ⟨b, off + i * 6, none⟩ = some (.bool Tx.b)) := Tg0
    have T1 : Hid (w.cell? ⟨b, off + i * 6 + 1, none⟩ = some (.slice Tx.a Tx.n Tx.c)) := Tg1
    have T2 : Hid (w.cell? ⟨b, off + i * 6 + 2, none⟩ = some (.slice Tx.d Tx.m Tx.e)) := Tg2
    clear Tg0 Tg1 Tg2
    obtain ⟨Ty, Tg0, Tg1, Tg2, Thy⟩ := hEE i hlt 1 (by omega)
    have T3 : Hid (w.cell? ⟨b, off + i * 6 + 3, none⟩ = some (.bool Ty.b)) := Tg0
    have T4 : Hid (w.cell? ⟨b, off + i * 6 + 4, none⟩ = some (.slice Ty.a Ty.n Ty.c)) := Tg1
    have T5 : Hid (w.cell? ⟨b, off + i * 6 + 5, none⟩ = some (.slice Ty.d Ty.m Ty.e)) := Tg2
    clear Tg0 Tg1 Tg2
    replace HS := Lib.hid ((HS.out.addP (Fr.below Thx HS.out.bel)).addP (Fr.below Thy HS.out.bel))
    clear hbl hEE Thx Thy
    have SL0 := Lib.hid (HZL.out i 0)
    have SL1 := Lib.hid (HZL.out i 1)
    have HAS := Lib.hid (adUp_s HOK.out)
    generalize (ls.getD i []).getD 0 0 = l0 at *
    generalize (ls.getD i []).getD 1 0 = l1 at *
    clear hlt
    have b1e := (HS.out.at 2 _ _ _ rfl)
    have b1c0 := blk_cell b1e 0 (.slice aa aq.length ca) rfl
    have b1f0 := blk_frozen b1e 0
    have b1l := blk_lt b1e
    clear b1e
    have Tc0 := (HS.out.bel.cell (p := ⟨b, off + i * 6, none⟩) HBL.out).trans T0.out
    have Tc1 := (HS.out.bel.cell (p := ⟨b, off + i * 6 + 1, none⟩) HBL.out).trans T1.out
    have Tc2 := (HS.out.bel.cell (p := ⟨b, off + i * 6 + 2, none⟩) HBL.out).trans T2.out
    have Tc3 := (HS.out.bel.cell (p := ⟨b, off + i * 6 + 3, none⟩) HBL.out).trans T3.out
    have Tc4 := (HS.out.bel.cell (p := ⟨b, off + i * 6 + 4, none⟩) HBL.out).trans T4.out
    have Tc5 := (HS.out.bel.cell (p := ⟨b, off + i * 6 + 5, none⟩) HBL.out).trans T5.out
    go_wp2_with fail
    clear b1c0 b1f0 b1l Tc0 Tc1 Tc2 Tc3 Tc4 Tc5
    generalize hW5 : (wr4).alloc (.cells _ _) = W5 at *
    replace HS := Lib.hid (((HS.out).alloc (B := wr4.heap.size) rfl (by rfl)).to hW5 (by (try simp only [nb5, nb6]); rfl))
    clear hW5
    by_cases hz6 : flErr l0 l1 aq.length = 0
    ·
     have HZ6 := Lib.hid hz6
     clear hz6
     refine (tcheck_any l0 l1 aq.length _ _ _ _ (rngP (HS.out.p 1 _ _ rfl) (HS.out.p 0 _ _ rfl)) SL1.out).mono ?_
     rw [HZ6.out]
     rintro e w7 ⟨rfl, hb7⟩
     replace HS := Lib.hid (HS.out.below hb7)
     clear hb7
     have b2e := (HS.out.at 2 _ _ _ rfl)
     have b2c0 := blk_cell b2e 0 (.bool y1.b) rfl
     have b2c1 := blk_cell b2e 1 (.slice y1.a y1.n y1.c) rfl
     have b2c2 := blk_cell b2e 2 (.slice y1.d y1.m y1.e) rfl
     have b2c3 := blk_cell b2e 3 (.bool y2.b) rfl
     have b2c4 := blk_cell b2e 4 (.slice y2.a y2.n y2.c) rfl
     have b2c5 := blk_cell b2e 5 (.slice y2.d y2.m y2.e) rfl
     have b2c6 := blk_cell b2e 6 (.bool y3.b) rfl
     have b2c7 := blk_cell b2e 7 (.slice y3.a y3.n y3.c) rfl
     have b2c8 := blk_cell b2e 8 (.slice y3.d y3.m y3.e) rfl
     have b2c9 := blk_cell b2e 9 (.int .i64 m) rfl
     have b2f0 := blk_frozen b2e 0
     have b2f1 := blk_frozen b2e 1
     have b2f2 := blk_frozen b2e 2
     have b2f3 := blk_frozen b2e 3
     have b2f4 := blk_frozen b2e 4
     have b2f5 := blk_frozen b2e 5
     have b2f6 := blk_frozen b2e 6
     have b2f7 := blk_frozen b2e 7
     have b2f8 := blk_frozen b2e 8
     have b2f9 := blk_frozen b2e 9
     have b2l := blk_lt b2e
     clear b2e
     go_wp2_with fail
     clear b2c0 b2c1 b2c2 b2c3 b2c4 b2c5 b2c6 b2c7 b2c8 b2c9 b2f0 b2f1 b2f2 b2f3 b2f4 b2f5 b2f6 b2f7 b2f8 b2f9 b2l
     by_cases hz8 : ndErr le mo ri m = 0
     ·
      have HZ8 := Lib.hid hz8
      clear hz8
      refine (ncheck_any le mo ri m y1 y2 y3 _ (HS.out.p 4 _ _ rfl) (HS.out.p 3 _ _ rfl) (HS.out.p 2 _ _ rfl) SE.out SM.out SI.out).mono ?_
      rw [HZ8.out]
      rintro e w9 ⟨rfl, hb9⟩
      replace HS := Lib.hid (HS.out.below hb9)
      clear hb9
      go_wp2_with fail
      exact ⟨⟨i + 1, by have := HLT.out; omega, by go_num, (by show _ = _; rw [HAS.out]; unfold meErr; rw [if_neg (by rw [HZ6.out]; simp), HZ8.out]), Lib.hid ((((((HS.out).erase 0).addP (HS.out.p 5 _ _ rfl)).addP (HS.out.p 4 _ _ rfl)).addP (HS.out.p 3 _ _ rfl)).addP (HS.out.p 2 _ _ rfl))⟩, meas_up HLT.out⟩
     ·
      obtain ⟨er8, her8⟩ : ∃ c, c = ndErr le mo ri m := ⟨_, rfl⟩
      have HER8 := Lib.hid her8
      rw [← her8] at hz8
      have en8 : (er8 == 0) = false := beq_eq_false_iff_ne.2 hz8
      have eo8 : (er8 != 0) = true := bne_iff_ne.2 hz8
      have ep8 : decide (er8 = 0) = false := decide_eq_false hz8
      have HNZ8 := Lib.hid hz8
      clear her8 hz8
      refine (ncheck_any le mo ri m y1 y2 y3 _ (HS.out.p 4 _ _ rfl) (HS.out.p 3 _ _ rfl) (HS.out.p 2 _ _ rfl) SE.out SM.out SI.out).mono ?_
      rw [← HER8.out]
      rintro e w10 ⟨rfl, hb10⟩
      replace HS := Lib.hid (HS.out.below hb10)
      clear hb10
      go_wp2_with fail
      have HE1 : Hid (adUp aq.length le mo ri m ls (i + 1) = er8) := by show _ = _; rw [HAS.out]; unfold meErr; rw [if_neg (by rw [HZ6.out]; simp), ← HER8.out]
      have HR : Hid (adErr aq.length le mo ri m ls = er8) := by show _ = _; unfold adErr; rw [if_neg (by have := HLN.out; omega), adUp_stay (i := i + 1) (by rw [HE1.out]; exact HNZ8.out) HLT.out, HE1.out]
      go_ret2
      exact (by rw [HR.out]; exact ⟨by unfold adIx; rw [if_neg HNZ8.out] <;> rfl, HS.out.bel⟩)
    ·
     obtain ⟨er6, her6⟩ : ∃ c, c = flErr l0 l1 aq.length := ⟨_, rfl⟩
     have HER6 := Lib.hid her6
     rw [← her6] at hz6
     have en6 : (er6 == 0) = false := beq_eq_false_iff_ne.2 hz6
     have eo6 : (er6 != 0) = true := bne_iff_ne.2 hz6
     have ep6 : decide (er6 = 0) = false := decide_eq_false hz6
     have HNZ6 := Lib.hid hz6
     clear her6 hz6
     refine (tcheck_any l0 l1 aq.length _ _ _ _ (rngP (HS.out.p 1 _ _ rfl) (HS.out.p 0 _ _ rfl)) SL1.out).mono ?_
     rw [← HER6.out]
     rintro e w11 ⟨rfl, hb11⟩
     replace HS := Lib.hid (HS.out.below hb11)
     clear hb11
     go_wp2_with fail
     have HE1 : Hid (adUp aq.length le mo ri m ls (i + 1) = er6) := by show _ = _; rw [HAS.out]; unfold meErr; rw [← HER6.out, if_pos HNZ6.out]
     have HR : Hid (adErr aq.length le mo ri m ls = er6) := by show _ = _; unfold adErr; rw [if_neg (by have := HLN.out; omega), adUp_stay (i := i + 1) (by rw [HE1.out]; exact HNZ6.out) HLT.out, HE1.out]
     go_ret2
     exact (by rw [HR.out]; exact ⟨by unfold adIx; rw [if_neg HNZ6.out] <;> rfl, HS.out.bel⟩)
   ·
    obtain rfl : i = ls.length := by omega
    have HR : Hid (adErr aq.length le mo ri m ls = 0) := by show _ = _; unfold adErr; rw [if_neg (by have := HLN.out; omega)]; exact HOK.out
    go_wp2_with fail
    refine (indexF_any ls (adBad S le mo ri m k aq ls) _ _ _ _ _ _ (HR0.out.below HS.out.bel) (by have := HLN.out; omega) (fun i x y hi W hb hx hy => admit1_any _ _ S le mo ri m aq k HK.out z HZK.out x y x3 y1 y2 y3 aa ca _ _ _ _ _ _ _ _ W hx hy ((HS.out.p 3 _ _ rfl).below hb) ((HA.out.bP HS.out.bel).bP hb) ((HS.out.p 2 _ _ rfl).below hb) ((HS.out.p 1 _ _ rfl).below hb) ((HS.out.p 0 _ _ rfl).below hb) HLE.out (HZL.out i 0) (HZL.out i 1) SS.out HZA.out SE.out SM.out SI.out (HZF.out i (meErr_fl (adUp_zero HOK.out i hi))) (HZT.out i (meErr_fl (adUp_zero HOK.out i hi))) (blk_keep (HS.out.at 1 _ _ _ rfl) hb (blk_lt (HS.out.at 1 _ _ _ rfl))) (blk_keep (HS.out.at 3 _ _ _ rfl) hb (blk_lt (HS.out.at 3 _ _ _ rfl))) (blk_keep (HS.out.at 2 _ _ _ rfl) hb (blk_lt (HS.out.at 2 _ _ _ rfl))) (blk_keep (HS.out.at 0 _ _ _ rfl) hb (blk_lt (HS.out.at 0 _ _ _ rfl))))).mono ?_
    rintro e w12 ⟨rfl, hb12⟩
    replace HS := Lib.hid (HS.out.below hb12)
    clear hb12
    go_wp2_with fail
    go_ret2
    exact (by rw [HR.out]; exact ⟨by unfold adIx; rw [if_pos rfl] <;> rfl, HS.out.bel⟩)
end Go.Proofs.YthhnkobkdhjfgaaGreat

namespace Go.Proofs.YthhnkobkdhjfgaaGreat
open Go.RowKit

theorem pw2_more {k n : Nat} (h : k ≤ n) : pw2 n 0 = pw2 k 0 * (((2 ^ (n - k) : Nat) : Int) : Rat) := by
 rw [pw2_nat, pw2_nat, ← Rat.intCast_mul, ← Int.natCast_mul, ← Nat.pow_add]
 rw [show k + (n - k) = n by omega]
theorem down_bits {k n : Nat} (h : k ≤ n) (x : Rat) : downQ x k ≤ downQ x n := by
 have e : (((x * pw2 k 0).floor * ((2 ^ (n - k) : Nat) : Int) : Int) : Rat) ≤ x * pw2 n 0 := by
  rw [Rat.intCast_mul, pw2_more h, ← Rat.mul_assoc]
  refine Rat.mul_le_mul_of_nonneg_right (Rat.floor_le _) ?_
  have h0 : (0 : Int) ≤ ((2 ^ (n - k) : Nat) : Int) := Int.natCast_nonneg _
  exact_mod_cast h0
 have g := Rat.intCast_le_intCast.2 (Rat.le_floor_iff.2 e)
 rw [Rat.intCast_mul] at g
 rw [← floor_down, ← floor_down, floorQ_eq, floorQ_eq]
 have h1 := Rat.mul_le_mul_of_nonneg_right g (Rat.le_of_lt (pw2_pos2 n))
 refine Rat.le_trans ?_ h1
 have h2 := pw2_mulinv k
 have h3 := pw2_mulinv n
 rw [pw2_more h] at h3
 generalize ((x * pw2 k 0).floor : Rat) = m at *
 generalize (((2 ^ (n - k) : Nat) : Int) : Rat) = d at *
 generalize pw2 k 0 = a at *
 generalize pw2 0 k = b at *
 generalize pw2 0 n = c at *
 have e1 : b = d * c := by
  have : b * (a * d * c) = b := by rw [h3, Rat.mul_one]
  have h4 : b * (a * d * c) = (a * b) * (d * c) := by grind
  rw [h4, h2, Rat.one_mul] at this
  exact this.symm
 rw [e1, ← Rat.mul_assoc]
 exact Rat.le_refl
theorem up_bits {k n : Nat} (h : k ≤ n) (x : Rat) : upQ x n ≤ upQ x k := by
 unfold upQ
 have := down_bits h (-x)
 grind
end Go.Proofs.YthhnkobkdhjfgaaGreat

namespace Go.Proofs.YthhnkobkdhjfgaaGreat
open Go.RowKit

def ptQ (n d : Nat) : Rat := (((n : Int) : Rat)) / (((d : Int) : Rat))
theorem ptQ_sz {n d : Nat} (h1 : n ≤ 1000) (h2 : d ≤ 1000) (h3 : d ≠ 0) : szR (ptQ n d) 100 := by
 have := szR_mono (fracQ_szR (n : Int) (d : Int) (by omega) (by omega) (by omega) (by omega)) (show 1 ≤ 100 by omega)
 unfold fracQ at this
 rw [if_neg (by omega)] at this
 exact this
theorem ptQ_pos (n d : Nat) (h : d ≠ 0) : 0 ≤ ptQ n d := by
 have h1 : (0 : Rat) ≤ (((n : Int) : Rat)) := Rat.intCast_le_intCast.2 (by omega : (0 : Int) ≤ (n : Int))
 have h2 : (0 : Rat) < (((d : Int) : Rat)) := Rat.intCast_lt_intCast.2 (by omega : (0 : Int) < (d : Int))
 unfold ptQ
 generalize ((n : Int) : Rat) = a at *
 generalize ((d : Int) : Rat) = b at *
 have e : a / b * b = a := Rat.div_mul_cancel (by grind)
 rcases Decidable.em (0 ≤ a / b) with h3 | h3
 ·
  exact h3
 ·
  have := Rat.mul_lt_mul_of_pos_right (a := a / b) (b := 0) (c := b) (by grind) h2
  grind
theorem ptQ_add (m n d : Nat) : ptQ m d + ptQ n d = ptQ (m + n) d := by
 unfold ptQ
 rw [Int.natCast_add, Rat.intCast_add]
 grind
theorem ptQ_le {n d : Nat} (h : n ≤ d) (h0 : d ≠ 0) : ptQ n d ≤ 1 := by
 have h2 : (0 : Rat) < (((d : Int) : Rat)) := Rat.intCast_lt_intCast.2 (by omega : (0 : Int) < (d : Int))
 have h1 : (((n : Int) : Rat)) ≤ (((d : Int) : Rat)) := Rat.intCast_le_intCast.2 (by omega : (n : Int) ≤ (d : Int))
 unfold ptQ
 generalize ((n : Int) : Rat) = a at *
 generalize ((d : Int) : Rat) = b at *
 have e : a / b * b = a := Rat.div_mul_cancel (by grind)
 rcases Decidable.em (a / b ≤ 1) with h | h
 ·
  exact h
 ·
  have := Rat.mul_lt_mul_of_pos_right (a := 1) (b := a / b) (c := b) (by grind) h2
  grind
theorem lhull_le (a c : Rat) (v u : Value) (w : World) (h : IsRng w v a a) (k : IsRng w u c c) (hac : a ≤ c) (s1 : szR a 274877906944) (s2 : szR c 274877906944) : Calls Tryz.prog 39 #[v, u] w (RetRng a c w) := by
 have := lhull_any a c v u w h k s1 s2
 rw [loQ_le hac, hiQ_le hac] at this
 exact this
set_option maxRecDepth 100000 in
set_option maxHeartbeats 4000000 in
theorem partN_any (n d : Nat) (z : Int) (hz : (d : Int) = z) (w : World) (hn : n ≤ 1000) (hd : d ≤ 1000) (h0 : d ≠ 0) :
  Calls Tryz.prog 26 #[.int .i64 (n : Int), .int .i64 z] w (RetRat (ptQ n d) w) := by
 subst hz
 have HS := Lib.hid (Sx.init w)
 go_enter Tryz.func26, Tryz.ntmps26
 go_wp2_with fail
 generalize hW1 : (w).alloc (.cells _ _) = W1 at *
 replace HS := Lib.hid (((HS.out).alloc (B := w.heap.size) rfl (by rfl)).to hW1 (by (try simp only [nb5, nb6]); rfl))
 clear hW1
 refine (new_any _ _ _ (by omega) (by omega) (by omega) (by omega) (by omega)).mono ?_
 rintro e w2 ⟨v2, rfl, hv2, hb2⟩
 obtain ⟨z2, rfl⟩ := hv2.open3
 replace HS := Lib.hid (HS.out.below hb2)
 clear hb2
 replace HS := Lib.hid (HS.out.addP hv2)
 clear hv2
 have b0e := (HS.out.at 0 _ _ _ rfl)
 have b0c0 := blk_cell b0e 0 (.bool false) rfl
 have b0c1 := blk_cell b0e 1 (.slice none 0 0) rfl
 have b0c2 := blk_cell b0e 2 (.slice none 0 0) rfl
 have b0f0 := blk_frozen b0e 0
 have b0f1 := blk_frozen b0e 1
 have b0f2 := blk_frozen b0e 2
 have b0l := blk_lt b0e
 clear b0e
 go_wp2_with fail
 clear b0c0 b0c1 b0c2 b0f0 b0f1 b0f2 b0l
 generalize hW3 : ((((w2).setCell _ _).setCell _ _).setCell _ _).alloc (.cells _ _) = W3 at *
 replace HS := Lib.hid ((((HS.out).st_R 0 r30 z2 rfl).alloc (B := w2.heap.size) (by simp) (by rfl)).to hW3 (by (try simp only [nb5, nb6]); rfl))
 clear hW3
 obtain ⟨b0c0, b0c1, b0c2, _⟩ := fac3 (x := z2) (HS.out.at 1 _ _ _ rfl)
 refine bodyPost_ret (v := z2.val) (by simp [results, Tryz.results26, go_sem, b0c0, b0c1, b0c2]) rfl ⟨_, rfl, (HS.out.p 0 _ _ rfl), HS.out.bel⟩
def RetSpr (lo hi x : Rat) (w : World) (e : Ending) (w' : World) : Prop := ∃ y1 y2 y3 : R3, e = .returned (.tuple #[.agg #[.bool y1.b, .slice y1.a y1.n y1.c, .slice y1.d y1.m y1.e, .bool y2.b, .slice y2.a y2.n y2.c, .slice y2.d y2.m y2.e], y3.val]) ∧ IsRat w' y1.val lo ∧ IsRat w' y2.val hi ∧ IsRat w' y3.val x ∧ Below w.heap.size w w'
set_option maxRecDepth 100000 in
set_option maxHeartbeats 4000000 in
theorem spread_any (a w1 : Rat) (n r : Nat) (hn : n ≤ 255) (hr : r = n % 251) (va vw : Value) (w : World) (ha : IsRat w va a) (hw : IsRat w vw w1) (h0 : 0 ≤ w1) (s1 : szR a 1000) (s2 : szR w1 1000) :
  Calls Tryz.prog 27 #[va, vw, .int .u8 (n : Int)] w (RetSpr a (a + w1) (a + (w1 * (ptQ r 250))) w) := by
 obtain ⟨x1, rfl⟩ := ha.open3
 obtain ⟨x2, rfl⟩ := hw.open3
 have HS := Lib.hid (((Sx.init w).addP ha).addP hw)
 have SA := Lib.hid s1
 have SW := Lib.hid s2
 have hrb : r < 251 := by omega
 have SP := Lib.hid (ptQ_sz (n := r) (d := 250) (by omega) (by omega) (by omega))
 have HAW : Hid (a ≤ a + w1) := by show _ ≤ _; grind
 have hmr1 : Int.tmod (n : Int) 251 = (r : Int) := by rw [Int.tmod_eq_emod_of_nonneg (by omega)]; omega
 have hmr2 : (n : Int) % 251 = (r : Int) := by omega
 have hmr3 : IntKind.u8.wrap (r : Int) = (r : Int) := IntWalk.u8_in _ (by omega)
 have hm4 : IntKind.i64.wrap (r : Int) = (r : Int) := IntWalk.i64_in _ (by omega)
 clear ha hw s1 s2 h0 hr
 go_enter Tryz.func27, Tryz.ntmps27
 go_wp2_with fail
 generalize hW1 : ((((w).alloc (.cells _ _)).alloc (.cells _ _)).alloc (.cells _ _)).alloc (.cells _ _) = W1 at *
 replace HS := Lib.hid ((((((HS.out).alloc (B := w.heap.size) rfl (by rfl)).alloc (B := w.heap.size + 1) (by simp) (by rfl)).alloc (B := w.heap.size + 2) (by simp) (by rfl)).alloc (B := w.heap.size + 3) (by simp) (by rfl)).to hW1 (by (try simp only [nb5, nb6]); rfl))
 clear hW1
 refine wp_region_held_drew (S := (fun w' => Sx w w' [(w.heap.size + 3, #[.bool false, .slice none 0 0, .slice none 0 0], 42), (w.heap.size + 2, #[.bool false, .slice none 0 0, .slice none 0 0, .bool false, .slice none 0 0, .slice none 0 0], 86), (w.heap.size + 1, x2.arr, 42), (w.heap.size, x1.arr, 42)] [])) (by kernel_rfl) ((HS.out.drew).bare) (fun hh => ?_)
 replace HS := Lib.hid HS.out.drew
 have HSW := Lib.hid HS.out.bel.size
 refine tkB (i := 0) (v := ?vk3) rfl ?hk3 ?rk3
 case hk3 => intro u hSu; (try dsimp only at hSu); obtain ⟨qb0c0, qb0c1, qb0c2, _⟩ := fac3 (x := x1) (hSu.at 3 _ _ _ rfl); clear hSu; go_simp <;> with_reducible rfl
 try simp only [nbs, Act.put]
 refine tkB (i := 2) (v := ?vk4) rfl ?hk4 ?rk4
 case hk4 => intro u hSu; (try dsimp only at hSu); obtain ⟨qb0c0, qb0c1, qb0c2, _⟩ := fac3 (x := x1) (hSu.at 3 _ _ _ rfl); clear hSu; go_simp <;> with_reducible rfl
 try simp only [nbs, Act.put]
 refine tkB (i := 3) (v := ?vk5) rfl ?hk5 ?rk5
 case hk5 => intro u hSu; (try dsimp only at hSu); obtain ⟨qb1c0, qb1c1, qb1c2, _⟩ := fac3 (x := x2) (hSu.at 2 _ _ _ rfl); clear hSu; go_simp <;> with_reducible rfl
 try simp only [nbs, Act.put]
 refine wpAnyH_modular [1, 4, 5, 6, 7] [1, 4, 5, 6, 7] [] [10, 13, 14, 15, 8] #[true, true, true, true, true, true, true, true, false] 1 [(1, 10), (4, 13), (5, 14), (6, 15), (7, 8)] [(1, []), (4, [1]), (5, [4]), (6, [1, 5]), (7, [])] [7] [(1, fun v w => ∃ z6a z6b : R3, v = .agg #[.bool z6a.b, .slice z6a.a z6a.n z6a.c, .slice z6a.d z6a.m z6a.e, .bool z6b.b, .slice z6b.a z6b.n z6b.c, .slice z6b.d z6b.m z6b.e] ∧ Fr true w z6a.val a ∧ Fr true w z6b.val a), (4, fun v w => ∃ z7 : R3, v = z7.val ∧ Fr true w z7.val (a + w1)), (5, fun v w => ∃ z8a z8b : R3, v = .agg #[.bool z8a.b, .slice z8a.a z8a.n z8a.c, .slice z8a.d z8a.m z8a.e, .bool z8b.b, .slice z8b.a z8b.n z8b.c, .slice z8b.d z8b.m z8b.e] ∧ Fr true w z8a.val (a + w1) ∧ Fr true w z8b.val (a + w1)), (6, fun v w => ∃ z9a z9b : R3, v = .agg #[.bool z9a.b, .slice z9a.a z9a.n z9a.c, .slice z9a.d z9a.m z9a.e, .bool z9b.b, .slice z9b.a z9b.n z9b.c, .slice z9b.d z9b.m z9b.e] ∧ Fr true w z9a.val a ∧ Fr true w z9b.val (a + w1)), (7, fun v w => ∃ Br2_7 : Nat, v = .pointer (some ⟨Br2_7, 0, none⟩) ∧ W1.drew.heap.size ≤ Br2_7 ∧ w.heap[Br2_7]? = some (.cells #[.bool false, .slice none 0 0, .slice none 0 0, .bool false, .slice none 0 0, .slice none 0 0] 86 (0, 0)))]
  rfl (by kernel_rfl) (by decide) rfl ⟨(fun v w w' hb ⟨z0, z1, e, h0, h1⟩ => ⟨z0, z1, e, Fr.below h0 hb, Fr.below h1 hb⟩), ⟨(fun v w w' hb ⟨z0, e, h0⟩ => ⟨z0, e, Fr.below h0 hb⟩), ⟨(fun v w w' hb ⟨z0, z1, e, h0, h1⟩ => ⟨z0, z1, e, Fr.below h0 hb, Fr.below h1 hb⟩), ⟨(fun v w w' hb ⟨z0, z1, e, h0, h1⟩ => ⟨z0, z1, e, Fr.below h0 hb, Fr.below h1 hb⟩), ⟨(fun v w w' hb ⟨B, e, g, k⟩ => ⟨B, e, g, blk_keep k hb (blk_lt k)⟩), trivial⟩⟩⟩⟩⟩ ⟨fun v w ⟨B, e, g, k⟩ => ⟨B, e, blk_lt k⟩, trivial⟩ (fun w' hb => Sx.below hh hb) ⟨?_, ?_, ?_, ?_, ?_, trivial⟩ trivial (by decide) ?_
 ·
  refine StepM.of rfl (fun f w' hb hp K hK => ?_)
  have HSB := HS
  replace HS := Lib.hid (HS.out.below hb)
  simp only [fillA, fillT, List.foldl_cons, List.foldl_nil, Act.put, nb4, nb5, nb6]
  have a10 := HS.out.p 1 _ _ rfl
  go_simp
  go_wp2_with (go_at_call 28; (with_reducible refine (only_any a _ _ a10).mono ?_); rintro e w6 ⟨v6, rfl, ⟨z6a, z6b, rfl, hv6, hw6⟩, hb6⟩)
  exact hK.out _ _ (.agg #[.bool z6a.b, .slice z6a.a z6a.n z6a.c, .slice z6a.d z6a.m z6a.e, .bool z6b.b, .slice z6b.a z6b.n z6b.c, .slice z6b.d z6b.m z6b.e]) (by simp only [fillA, fillT, List.foldl_cons, List.foldl_nil, Act.put, nb4, nb5, nb6, nb1, nb2, nb3]) ⟨z6a, z6b, rfl, hv6, hw6⟩ (fun h => absurd h (by decide)) hb6
 ·
  refine StepM.of rfl (fun f w' hb hp K hK => ?_)
  have HSB := HS
  replace HS := Lib.hid (HS.out.below hb)
  simp only [fillA, fillT, List.foldl_cons, List.foldl_nil, Act.put, nb4, nb5, nb6]
  have a11 := HS.out.p 1 _ _ rfl
  have a12 := HS.out.p 0 _ _ rfl
  go_simp
  go_wp2_with (go_at_call 32; (with_reducible refine (addRat_any a w1 _ _ _ a11 a12 (szR_mono SA.out (by omega)) (szR_mono SW.out (by omega))).mono ?_); rintro e w7 ⟨v7, rfl, hv7, hb7⟩; obtain ⟨z7, rfl⟩ := hv7.open3)
  exact hK.out _ _ (z7.val) (by simp only [fillA, fillT, List.foldl_cons, List.foldl_nil, Act.put, nb4, nb5, nb6, nb1, nb2, nb3]) ⟨z7, rfl, hv7⟩ (fun h => absurd h (by decide)) hb7
 ·
  refine StepM.of rfl (fun f w' hb hp K hK => ?_)
  obtain ⟨z7, e4, h4_0⟩ : ∃ z7 : R3, f 13 = z7.val ∧ Fr true w' z7.val (a + w1) := hp 4 (by decide)
  have HSB := HS
  replace HS := Lib.hid (HS.out.below hb)
  replace HS := Lib.hid (HS.out.addP h4_0)
  simp only [fillA, fillT, List.foldl_cons, List.foldl_nil, Act.put, nb4, nb5, nb6, e4]
  have a13 := HS.out.p 0 _ _ rfl
  go_simp
  go_wp2_with (go_at_call 28; (with_reducible refine (only_any (a + w1) _ _ a13).mono ?_); rintro e w8 ⟨v8, rfl, ⟨z8a, z8b, rfl, hv8, hw8⟩, hb8⟩)
  exact hK.out _ _ (.agg #[.bool z8a.b, .slice z8a.a z8a.n z8a.c, .slice z8a.d z8a.m z8a.e, .bool z8b.b, .slice z8b.a z8b.n z8b.c, .slice z8b.d z8b.m z8b.e]) (by simp only [fillA, fillT, List.foldl_cons, List.foldl_nil, Act.put, nb4, nb5, nb6, nb1, nb2, nb3, e4]) ⟨z8a, z8b, rfl, hv8, hw8⟩ (fun h => absurd h (by decide)) hb8
 ·
  refine StepM.of rfl (fun f w' hb hp K hK => ?_)
  obtain ⟨z6a, z6b, e1, h1_0, h1_1⟩ : ∃ z6a z6b : R3, f 10 = .agg #[.bool z6a.b, .slice z6a.a z6a.n z6a.c, .slice z6a.d z6a.m z6a.e, .bool z6b.b, .slice z6b.a z6b.n z6b.c, .slice z6b.d z6b.m z6b.e] ∧ Fr true w' z6a.val a ∧ Fr true w' z6b.val a := hp 1 (by decide)
  obtain ⟨z8a, z8b, e5, h5_0, h5_1⟩ : ∃ z8a z8b : R3, f 14 = .agg #[.bool z8a.b, .slice z8a.a z8a.n z8a.c, .slice z8a.d z8a.m z8a.e, .bool z8b.b, .slice z8b.a z8b.n z8b.c, .slice z8b.d z8b.m z8b.e] ∧ Fr true w' z8a.val (a + w1) ∧ Fr true w' z8b.val (a + w1) := hp 5 (by decide)
  have HSB := HS
  replace HS := Lib.hid (HS.out.below hb)
  replace HS := Lib.hid (HS.out.addP h1_0)
  replace HS := Lib.hid (HS.out.addP h1_1)
  replace HS := Lib.hid (HS.out.addP h5_0)
  replace HS := Lib.hid (HS.out.addP h5_1)
  simp only [fillA, fillT, List.foldl_cons, List.foldl_nil, Act.put, nb4, nb5, nb6, e1, e5]
  have a14 := HS.out.p 3 _ _ rfl
  have a15 := HS.out.p 2 _ _ rfl
  have a16 := HS.out.p 1 _ _ rfl
  have a17 := HS.out.p 0 _ _ rfl
  go_simp
  go_wp2_with (go_at_call 39; (with_reducible refine (lhull_le a (a + w1) _ _ _ (rngP a14 a15) (rngP a16 a17) HAW.out (szR_mono SA.out (by omega)) (szR_mono (szR_add SA.out SW.out) (by omega))).mono ?_); rintro e w9 ⟨v9, rfl, ⟨z9a, z9b, rfl, hv9, hw9⟩, hb9⟩)
  exact hK.out _ _ (.agg #[.bool z9a.b, .slice z9a.a z9a.n z9a.c, .slice z9a.d z9a.m z9a.e, .bool z9b.b, .slice z9b.a z9b.n z9b.c, .slice z9b.d z9b.m z9b.e]) (by simp only [fillA, fillT, List.foldl_cons, List.foldl_nil, Act.put, nb4, nb5, nb6, nb1, nb2, nb3, e1, e5]) ⟨z9a, z9b, rfl, hv9, hw9⟩ (fun h => absurd h (by decide)) hb9
 ·
  refine StepM.of rfl (fun f w' hb hp K hK => ?_)
  have HSB := HS
  replace HS := Lib.hid (HS.out.below hb)
  simp only [fillA, fillT, List.foldl_cons, List.foldl_nil, Act.put, nb4, nb5, nb6]
  go_simp
  exact hK.out _ _ (.pointer (some ⟨w'.heap.size, 0, none⟩)) (by simp only [fillA, fillT, List.foldl_cons, List.foldl_nil, Act.put, nb4, nb5, nb6, nb1, nb2, nb3]) ⟨_, rfl, hb.size, blk_new _ _ _⟩ (fun _ => rfl) (below1 w' _)
 ·
  intro f wr2 hb hp hd
  obtain ⟨z6a, z6b, e1, h1_0, h1_1⟩ : ∃ z6a z6b : R3, f 10 = .agg #[.bool z6a.b, .slice z6a.a z6a.n z6a.c, .slice z6a.d z6a.m z6a.e, .bool z6b.b, .slice z6b.a z6b.n z6b.c, .slice z6b.d z6b.m z6b.e] ∧ Fr true wr2 z6a.val a ∧ Fr true wr2 z6b.val a := hp 1 (by decide)
  obtain ⟨z7, e4, h4_0⟩ : ∃ z7 : R3, f 13 = z7.val ∧ Fr true wr2 z7.val (a + w1) := hp 4 (by decide)
  obtain ⟨z8a, z8b, e5, h5_0, h5_1⟩ : ∃ z8a z8b : R3, f 14 = .agg #[.bool z8a.b, .slice z8a.a z8a.n z8a.c, .slice z8a.d z8a.m z8a.e, .bool z8b.b, .slice z8b.a z8b.n z8b.c, .slice z8b.d z8b.m z8b.e] ∧ Fr true wr2 z8a.val (a + w1) ∧ Fr true wr2 z8b.val (a + w1) := hp 5 (by decide)
  obtain ⟨z9a, z9b, e6, h6_0, h6_1⟩ : ∃ z9a z9b : R3, f 15 = .agg #[.bool z9a.b, .slice z9a.a z9a.n z9a.c, .slice z9a.d z9a.m z9a.e, .bool z9b.b, .slice z9b.a z9b.n z9b.c, .slice z9b.d z9b.m z9b.e] ∧ Fr true wr2 z9a.val a ∧ Fr true wr2 z9b.val (a + w1) := hp 6 (by decide)
  obtain ⟨Br2_7, e7, g7, k7⟩ : ∃ Br2_7 : Nat, f 8 = .pointer (some ⟨Br2_7, 0, none⟩) ∧ W1.drew.heap.size ≤ Br2_7 ∧ wr2.heap[Br2_7]? = some (.cells #[.bool false, .slice none 0 0, .slice none 0 0, .bool false, .slice none 0 0, .slice none 0 0] 86 (0, 0)) := hp 7 (by decide)
  replace hh := Sx.below hh hb
  have hlt := HS.out.lt
  replace HS := Lib.hid (HS.out.below hb)
  replace HS := Lib.hid (HS.out.addP h1_0)
  replace HS := Lib.hid (HS.out.addP h1_1)
  replace HS := Lib.hid (HS.out.addP h4_0)
  replace HS := Lib.hid (HS.out.addP h5_0)
  replace HS := Lib.hid (HS.out.addP h5_1)
  replace HS := Lib.hid (HS.out.addP h6_0)
  replace HS := Lib.hid (HS.out.addP h6_1)
  have hge7 : w.heap.size ≤ Br2_7 := Nat.le_trans HSW.out g7
  have hne7 : ∀ b, b ∈ ([(w.heap.size + 3, #[.bool false, .slice none 0 0, .slice none 0 0], 42), (w.heap.size + 2, #[.bool false, .slice none 0 0, .slice none 0 0, .bool false, .slice none 0 0, .slice none 0 0], 86), (w.heap.size + 1, x2.arr, 42), (w.heap.size, x1.arr, 42)] : List Bx) → b.1 ≠ Br2_7 := by
   intro b hb
   simp only [List.mem_cons, List.not_mem_nil, or_false] at hb
   rcases hb with rfl | rfl | rfl | rfl
   ·
    have := hlt _ (List.mem_iff_getElem?.2 ⟨0, rfl⟩); dsimp only at this ⊢; omega
   ·
    have := hlt _ (List.mem_iff_getElem?.2 ⟨1, rfl⟩); dsimp only at this ⊢; omega
   ·
    have := hlt _ (List.mem_iff_getElem?.2 ⟨2, rfl⟩); dsimp only at this ⊢; omega
   ·
    have := hlt _ (List.mem_iff_getElem?.2 ⟨3, rfl⟩); dsimp only at this ⊢; omega
  replace HS := Lib.hid (HS.out.addBox k7 hge7 (by rfl) hne7)
  simp only [fillA, fillT, List.foldl_cons, List.foldl_nil, Act.put, nb4, nb5, nb6, e1, e4, e5, e6, e7]
  clear hp hd hb hlt e1 e4 e5 e6 e7
  refine rdA (i := 8) rfl (fun K hK => ?_)
  have b4e := (HS.out.at 0 _ _ _ rfl)
  have b4c0 := blk_cell b4e 0 (.bool false) rfl
  have b4c1 := blk_cell b4e 1 (.slice none 0 0) rfl
  have b4c2 := blk_cell b4e 2 (.slice none 0 0) rfl
  have b4c3 := blk_cell b4e 3 (.bool false) rfl
  have b4c4 := blk_cell b4e 4 (.slice none 0 0) rfl
  have b4c5 := blk_cell b4e 5 (.slice none 0 0) rfl
  have b4f0 := blk_frozen b4e 0
  have b4f1 := blk_frozen b4e 1
  have b4f2 := blk_frozen b4e 2
  have b4f3 := blk_frozen b4e 3
  have b4f4 := blk_frozen b4e 4
  have b4f5 := blk_frozen b4e 5
  have b4l := blk_lt b4e
  clear b4e
  go_simp
  refine hK.out _ _ ((((HS.out).st_RR 0 r30 r30 z9a z9b rfl)).erase 0) (fun hh => ?_)
  clear hK K b4c0 b4c1 b4c2 b4c3 b4c4 b4c5 b4f0 b4f1 b4f2 b4f3 b4f4 b4f5 b4l
  try simp only [nbs, Act.put]
  generalize hW18 : ((((((wr2).setCell _ _).setCell _ _).setCell _ _).setCell _ _).setCell _ _).setCell _ _ = W18 at *
  replace HS := Lib.hid (((HS.out).st_RR 0 r30 r30 z9a z9b rfl).to hW18 (by (try simp only [nb5, nb6]); rfl))
  clear hW18
  refine wpAnyH_done (by kernel_rfl) ?_ _
  go_wp2_with fail
  refine wp_region_held_drew (S := (fun w' => Sx w w' [(Br2_7, arr6 z9a z9b, 86), (w.heap.size + 1, x2.arr, 42), (w.heap.size, x1.arr, 42)] [])) (by kernel_rfl) (((HS.out.drew).erase 2).erase 1) (fun hh => ?_)
  replace HS := Lib.hid HS.out.drew
  refine tkB (i := 0) (v := ?vk20) rfl ?hk20 ?rk20
  case hk20 => intro u hSu; (try dsimp only at hSu); obtain ⟨qb4c0, qb4c1, qb4c2, qb4c3, qb4c4, qb4c5, _⟩ := fac6 (x := z9a) (y := z9b) (hSu.at 0 _ _ _ rfl); clear hSu; go_simp <;> with_reducible rfl
  try simp only [nbs, Act.put]
  refine tkB (i := 1) (v := ?vk21) rfl ?hk21 ?rk21
  case hk21 => intro u hSu; (try dsimp only at hSu); obtain ⟨qb0c0, qb0c1, qb0c2, _⟩ := fac3 (x := x1) (hSu.at 2 _ _ _ rfl); clear hSu; go_simp <;> with_reducible rfl
  try simp only [nbs, Act.put]
  refine tkB (i := 2) (v := ?vk22) rfl ?hk22 ?rk22
  case hk22 => intro u hSu; (try dsimp only at hSu); obtain ⟨qb1c0, qb1c1, qb1c2, _⟩ := fac3 (x := x2) (hSu.at 1 _ _ _ rfl); clear hSu; go_simp <;> with_reducible rfl
  try simp only [nbs, Act.put]
  refine tkB (i := 3) (v := ?vk23) rfl ?hk23 ?rk23
  case hk23 => intro u hSu; go_simp <;> with_reducible rfl
  try simp only [nbs, Act.put]
  refine tkB (i := 4) (v := ?vk24) rfl ?hk24 ?rk24
  case hk24 => intro u hSu; go_simp <;> with_reducible rfl
  try simp only [nbs, Act.put]
  refine tkB (i := 5) (v := ?vk25) rfl ?hk25 ?rk25
  case hk25 => intro u hSu; go_simp <;> with_reducible rfl
  try simp only [nbs, Act.put]
  refine rdA (i := 6) rfl (fun K hK => ?_)
  go_simp
  go_wp2_with (go_at_call 26; (with_reducible refine (partN_any r 250 250 rfl _ (by omega) (by omega) (by omega)).mono ?_); rintro e w26 ⟨v26, rfl, hv26, hb26⟩; obtain ⟨z26, rfl⟩ := hv26.open3)
  refine hK.out _ _ (Sx.below hh hb26) (fun hh => ?_)
  clear hK K
  try simp only [nbs, Act.put]
  replace HS := Lib.hid (HS.out.below hb26)
  clear hb26
  replace HS := Lib.hid (HS.out.addP hv26)
  clear hv26
  refine rdA (i := 7) rfl (fun K hK => ?_)
  go_simp
  have a28 := HS.out.p 8 _ _ rfl
  have a29 := HS.out.p 0 _ _ rfl
  go_wp2_with (go_at_call 33; (with_reducible refine (mulRat_any w1 (ptQ r 250) _ _ _ a28 a29 (szR_mono SW.out (by omega)) (szR_mono SP.out (by omega))).mono ?_); rintro e w27 ⟨v27, rfl, hv27, hb27⟩; obtain ⟨z27, rfl⟩ := hv27.open3)
  refine hK.out _ _ (Sx.below hh hb27) (fun hh => ?_)
  clear hK K
  try simp only [nbs, Act.put]
  replace HS := Lib.hid (HS.out.below hb27)
  clear hb27 a28 a29
  replace HS := Lib.hid (HS.out.addP hv27)
  clear hv27
  refine rdA (i := 8) rfl (fun K hK => ?_)
  go_simp
  have a31 := HS.out.p 10 _ _ rfl
  have a32 := HS.out.p 0 _ _ rfl
  go_wp2_with (go_at_call 32; (with_reducible refine (addRat_any a (w1 * (ptQ r 250)) _ _ _ a31 a32 (szR_mono SA.out (by omega)) (szR_mono (szR_mul SW.out SP.out) (by omega))).mono ?_); rintro e w30 ⟨v30, rfl, hv30, hb30⟩; obtain ⟨z30, rfl⟩ := hv30.open3)
  refine hK.out _ _ (Sx.below hh hb30) (fun hh => ?_)
  clear hK K
  try simp only [nbs, Act.put]
  replace HS := Lib.hid (HS.out.below hb30)
  clear hb30 a31 a32
  replace HS := Lib.hid (HS.out.addP hv30)
  clear hv30
  refine rdA (i := 9) rfl (fun K hK => ?_)
  have b2e := (HS.out.at 2 _ _ _ rfl)
  have b2c0 := blk_cell b2e 0 (.bool false) rfl
  have b2c1 := blk_cell b2e 1 (.slice none 0 0) rfl
  have b2c2 := blk_cell b2e 2 (.slice none 0 0) rfl
  have b2c3 := blk_cell b2e 3 (.bool false) rfl
  have b2c4 := blk_cell b2e 4 (.slice none 0 0) rfl
  have b2c5 := blk_cell b2e 5 (.slice none 0 0) rfl
  have b2f0 := blk_frozen b2e 0
  have b2f1 := blk_frozen b2e 1
  have b2f2 := blk_frozen b2e 2
  have b2f3 := blk_frozen b2e 3
  have b2f4 := blk_frozen b2e 4
  have b2f5 := blk_frozen b2e 5
  have b2l := blk_lt b2e
  clear b2e
  go_simp
  refine hK.out _ _ ((((((HS.out).st_RR 2 r30 r30 z9a z9b rfl)).erase 2)).erase 1) (fun hh => ?_)
  clear hK K b2c0 b2c1 b2c2 b2c3 b2c4 b2c5 b2f0 b2f1 b2f2 b2f3 b2f4 b2f5 b2l
  try simp only [nbs, Act.put]
  generalize hW33 : ((((((w30).setCell _ _).setCell _ _).setCell _ _).setCell _ _).setCell _ _).setCell _ _ = W33 at *
  replace HS := Lib.hid (((HS.out).st_RR 2 r30 r30 z9a z9b rfl).to hW33 (by (try simp only [nb5, nb6]); rfl))
  clear hW33
  refine rdA (i := 10) rfl (fun K hK => ?_)
  have b3e := (HS.out.at 1 _ _ _ rfl)
  have b3c0 := blk_cell b3e 0 (.bool false) rfl
  have b3c1 := blk_cell b3e 1 (.slice none 0 0) rfl
  have b3c2 := blk_cell b3e 2 (.slice none 0 0) rfl
  have b3f0 := blk_frozen b3e 0
  have b3f1 := blk_frozen b3e 1
  have b3f2 := blk_frozen b3e 2
  have b3l := blk_lt b3e
  clear b3e
  go_simp
  refine hK.out _ _ ((((((HS.out).st_R 1 r30 z30 rfl)).erase 2)).erase 1) (fun hh => ?_)
  clear hK K b3c0 b3c1 b3c2 b3f0 b3f1 b3f2 b3l
  try simp only [nbs, Act.put]
  generalize hW34 : (((W33).setCell _ _).setCell _ _).setCell _ _ = W34 at *
  replace HS := Lib.hid (((HS.out).st_R 1 r30 z30 rfl).to hW34 (by (try simp only [nb5, nb6]); rfl))
  clear hW34
  refine wpAnyH_done (by kernel_rfl) ?_ _
  obtain ⟨b2c0, b2c1, b2c2, b2c3, b2c4, b2c5, b2f0, b2f1, b2f2, b2f3, b2f4, b2f5⟩ := fac6 (x := z9a) (y := z9b) (HS.out.at 2 _ _ _ rfl)
  have b2l := blk_lt (HS.out.at 2 _ _ _ rfl)
  obtain ⟨b3c0, b3c1, b3c2, b3f0, b3f1, b3f2⟩ := fac3 (x := z30) (HS.out.at 1 _ _ _ rfl)
  have b3l := blk_lt (HS.out.at 1 _ _ _ rfl)
  go_wp2_with fail
  clear b2c0 b2c1 b2c2 b2c3 b2c4 b2c5 b2f0 b2f1 b2f2 b2f3 b2f4 b2f5 b2l b3c0 b3c1 b3c2 b3f0 b3f1 b3f2 b3l
  obtain ⟨b2c0, b2c1, b2c2, b2c3, b2c4, b2c5, _⟩ := fac6 (x := z9a) (y := z9b) (HS.out.at 2 _ _ _ rfl)
  obtain ⟨b3c0, b3c1, b3c2, _⟩ := fac3 (x := z30) (HS.out.at 1 _ _ _ rfl)
  refine bodyPost_ret (v := .tuple #[.agg #[.bool z9a.b, .slice z9a.a z9a.n z9a.c, .slice z9a.d z9a.m z9a.e, .bool z9b.b, .slice z9b.a z9b.n z9b.c, .slice z9b.d z9b.m z9b.e], z30.val]) (by simp [results, Tryz.results27, go_sem, b2c0, b2c1, b2c2, b2c3, b2c4, b2c5, b3c0, b3c1, b3c2]) rfl ⟨z9a, z9b, z30, rfl, (HS.out.p 4 _ _ rfl), (HS.out.p 3 _ _ rfl), (HS.out.p 0 _ _ rfl), HS.out.bel⟩
set_option maxRecDepth 100000 in
set_option maxHeartbeats 4000000 in
theorem phas_any (a b y : Rat) (vx vy : Value) (w : World) (hx : IsRng w vx a b) (hy : IsRat w vy y) (sa : szR a 1000000) (sb : szR b 1000000) (sy : szR y 1000000) :
  Calls Tryz.prog 35 #[vx, vy] w (RetBool (hasB a b y) w) := by
 obtain ⟨x1, x2, rfl, h1, h2⟩ := hx
 obtain ⟨x3, rfl⟩ := hy.open3
 have HS := Lib.hid ((((Sx.init w).addP h1).addP h2).addP hy)
 have Sa := Lib.hid sa
 have Sb := Lib.hid sb
 have Sy := Lib.hid sy
 clear h1 h2 hy sa sb sy
 go_enter Tryz.func35, Tryz.ntmps35
 go_wp2_with fail
 generalize hW1 : ((w).alloc (.cells _ _)).alloc (.cells _ _) = W1 at *
 replace HS := Lib.hid ((((HS.out).alloc (B := w.heap.size) rfl (by rfl)).alloc (B := w.heap.size + 1) (by simp) (by rfl)).to hW1 (by (try simp only [nb5, nb6]); rfl))
 clear hW1
 obtain ⟨c2, hc2⟩ : ∃ κ, κ = cmpR a y := ⟨_, rfl⟩
 have HC2 := Lib.hid hc2
 clear hc2
 refine (cmpRat_any a y _ _ _ (HS.out.p 2 _ _ rfl) (HS.out.p 0 _ _ rfl) (szR_mono Sa.out (by omega)) (szR_mono Sy.out (by omega))).mono ?_
 rw [← HC2.out]
 rintro e w2 ⟨rfl, hb2⟩
 replace HS := Lib.hid (HS.out.below hb2)
 clear hb2
 by_cases t3p : c2 ≤ 0
 ·
  have t3 : decide (c2 ≤ 0) = true := decide_eq_true t3p
  have T3 := Lib.hid t3p
  clear t3p
  obtain ⟨b1c0, b1c1, b1c2, b1f0, b1f1, b1f2⟩ := fac3 (x := x3) (HS.out.at 0 _ _ _ rfl)
  have b1l := blk_lt (HS.out.at 0 _ _ _ rfl)
  obtain ⟨b0c0, b0c1, b0c2, b0c3, b0c4, b0c5, b0f0, b0f1, b0f2, b0f3, b0f4, b0f5⟩ := fac6 (x := x1) (y := x2) (HS.out.at 1 _ _ _ rfl)
  have b0l := blk_lt (HS.out.at 1 _ _ _ rfl)
  go_wp2_with fail
  clear b1c0 b1c1 b1c2 b1f0 b1f1 b1f2 b1l b0c0 b0c1 b0c2 b0c3 b0c4 b0c5 b0f0 b0f1 b0f2 b0f3 b0f4 b0f5 b0l
  obtain ⟨c4, hc4⟩ : ∃ κ, κ = cmpR y b := ⟨_, rfl⟩
  have HC4 := Lib.hid hc4
  clear hc4
  refine (cmpRat_any y b _ _ _ (HS.out.p 0 _ _ rfl) (HS.out.p 1 _ _ rfl) (szR_mono Sy.out (by omega)) (szR_mono Sb.out (by omega))).mono ?_
  rw [← HC4.out]
  rintro e w4 ⟨rfl, hb4⟩
  replace HS := Lib.hid (HS.out.below hb4)
  clear hb4
  go_wp2_with fail
  have HR : Hid (hasB a b y = decide (c4 ≤ 0)) := by
   show _ = _
   unfold hasB
   first | (simp only [← HC2.out, ← HC4.out, t3, Bool.and_true, Bool.true_and, Bool.and_false, Bool.false_and, Bool.or_true, Bool.true_or, Bool.or_false, Bool.false_or, Bool.not_true, Bool.not_false, cond_true, cond_false]; done) | (rw [← HC2.out, ← HC4.out]; rfl) | (simp [← HC2.out, ← HC4.out, t3])
  go_ret
  exact ⟨by rw [HR.out] <;> rfl, HS.out.bel⟩
 ·
  have t3 : decide (c2 ≤ 0) = false := decide_eq_false t3p
  have T3 := Lib.hid t3p
  clear t3p
  go_wp2_with fail
  have HR : Hid (hasB a b y = false) := by
   show _ = _
   unfold hasB
   first | (simp only [← HC2.out, t3, Bool.and_true, Bool.true_and, Bool.and_false, Bool.false_and, Bool.or_true, Bool.true_or, Bool.or_false, Bool.false_or, Bool.not_true, Bool.not_false, cond_true, cond_false]; done) | (rw [← HC2.out]; rfl) | (simp [← HC2.out, t3])
  go_ret
  exact ⟨by rw [HR.out] <;> rfl, HS.out.bel⟩
end Go.Proofs.YthhnkobkdhjfgaaGreat

namespace Go.Proofs.YthhnkobkdhjfgaaGreat
open Go.RowKit

theorem tow_mono {t t' l a : Rat} (h : t ≤ t') (h1 : l ≤ 1) : towQ t l a ≤ towQ t' l a := by
 unfold towQ
 have := Rat.mul_nonneg (a := t' - t) (b := 1 - l) (by grind) (by grind)
 grind
theorem lo_r (a b : Rat) : loQ a b ≤ b := lo_le_r a b
theorem lo_l (a b : Rat) : loQ a b ≤ a := lo_le_l a b
theorem hi_r (a b : Rat) : b ≤ hiQ a b := hi_ge_r a b
theorem hi_l (a b : Rat) : a ≤ hiQ a b := hi_ge_l a b
theorem lo_of {a b c : Rat} (h1 : c ≤ a) (h2 : c ≤ b) : c ≤ loQ a b := by unfold loQ; split <;> assumption
theorem hi_of {a b c : Rat} (h1 : a ≤ c) (h2 : b ≤ c) : hiQ a b ≤ c := by unfold hiQ; split <;> assumption
theorem tow_between {t l0 l1 x a : Rat} (h0 : l0 ≤ x) (h1 : x ≤ l1) : loQ (towQ t l0 a) (towQ t l1 a) ≤ towQ t x a ∧ towQ t x a ≤ hiQ (towQ t l0 a) (towQ t l1 a) := by
 have e0 : towQ t x a - towQ t l0 a = (x - l0) * (a - t) := by unfold towQ; grind
 have e1 : towQ t l1 a - towQ t x a = (l1 - x) * (a - t) := by unfold towQ; grind
 have f0 : towQ t x a - towQ t l0 a = -((x - l0) * (t - a)) := by unfold towQ; grind
 have f1 : towQ t l1 a - towQ t x a = -((l1 - x) * (t - a)) := by unfold towQ; grind
 have i1 := lo_l (towQ t l0 a) (towQ t l1 a)
 have i2 := lo_r (towQ t l0 a) (towQ t l1 a)
 have i3 := hi_l (towQ t l0 a) (towQ t l1 a)
 have i4 := hi_r (towQ t l0 a) (towQ t l1 a)
 rcases (@Rat.le_total 0 (a - t)) with h | h
 ·
  have g0 := Rat.mul_nonneg (a := x - l0) (b := a - t) (by grind) h
  have g1 := Rat.mul_nonneg (a := l1 - x) (b := a - t) (by grind) h
  constructor <;> grind
 ·
  have g0 := Rat.mul_nonneg (a := x - l0) (b := t - a) (by grind) (by grind)
  have g1 := Rat.mul_nonneg (a := l1 - x) (b := t - a) (by grind) (by grind)
  constructor <;> grind
theorem fl_in {t0 t1 t l0 l1 x a : Rat} (h0 : t0 ≤ t) (h1 : t ≤ t1) (g0 : l0 ≤ x) (g1 : x ≤ l1) (hx : x ≤ 1) : flLo t0 t1 l0 l1 a ≤ towQ t x a ∧ towQ t x a ≤ flHi t0 t1 l0 l1 a := by
 refine ⟨?_, ?_⟩
 ·
  exact Rat.le_trans (lo_l _ _) (Rat.le_trans (tow_between g0 g1).1 (tow_mono h0 hx))
 ·
  exact Rat.le_trans (tow_mono h1 hx) (Rat.le_trans (tow_between g0 g1).2 (hi_r _ _))
def nowQ (x : Rat) (aq : List Rat) : Nat → Rat
 | 0 => 0
 | n + 1 => towQ (nowQ x aq n) x (aq.getD n 0)
theorem now_in {l0 l1 x : Rat} {k : Nat} {aq : List Rat} (g0 : l0 ≤ x) (g1 : x ≤ l1) (hx : x ≤ 1) : ∀ n, (flUp 0 l0 l1 k aq n).1 ≤ nowQ x aq n ∧ nowQ x aq n ≤ (flUp 0 l0 l1 k aq n).2
 | 0 => ⟨Rat.le_refl, Rat.le_refl⟩
 | n + 1 => by
  obtain ⟨h1, h2⟩ := now_in (k := k) (aq := aq) g0 g1 hx n
  obtain ⟨h3, h4⟩ := fl_in (a := aq.getD n 0) h1 h2 g0 g1 hx
  exact ⟨Rat.le_trans (down_le _ _) h3, Rat.le_trans h4 (up_ge _ _)⟩
theorem fl_nest {S l0 l1 x : Rat} {k k' : Nat} {aq : List Rat} (hk : k ≤ k') (g0 : l0 ≤ x) (g1 : x ≤ l1) (hx : x ≤ 1) : ∀ n, (flUp S l0 l1 k aq n).1 ≤ (flUp S x x k' aq n).1 ∧ (flUp S x x k' aq n).1 ≤ (flUp S x x k' aq n).2 ∧ (flUp S x x k' aq n).2 ≤ (flUp S l0 l1 k aq n).2
 | 0 => ⟨Rat.le_refl, Rat.le_refl, Rat.le_refl⟩
 | n + 1 => by
  obtain ⟨h1, h2, h3⟩ := fl_nest (S := S) (aq := aq) hk g0 g1 hx n
  have a0 := fl_in (a := aq.getD n 0) h1 (Rat.le_trans h2 h3) g0 g1 hx
  have a1 := fl_in (a := aq.getD n 0) (Rat.le_trans h1 h2) h3 g0 g1 hx
  have a2 := fl_in (a := aq.getD n 0) (Rat.le_refl (a := (flUp S x x k' aq n).1)) h2 (Rat.le_refl (a := x)) (Rat.le_refl (a := x)) hx
  refine ⟨?_, ?_, ?_⟩
  ·
   exact Rat.le_trans (down_mono (lo_of (lo_of a0.1 a0.1) (lo_of a1.1 a1.1)) k) (down_bits hk _)
  ·
   exact Rat.le_trans (down_le _ _) (Rat.le_trans (Rat.le_trans a2.1 a2.2) (up_ge _ _))
  ·
   exact Rat.le_trans (up_bits hk _) (up_mono (hi_of (hi_of a0.2 a0.2) (hi_of a1.2 a1.2)) k)
theorem cmp_gt0 {x y : Rat} : cmpR x y > 0 ↔ y < x := by
 have := @cmp_le0 x y
 constructor
 ·
  intro h; have : ¬ cmpR x y ≤ 0 := by omega
  grind
 ·
  intro h; have : ¬ cmpR x y ≤ 0 := fun hx => by grind
  omega
structure RecIn (ts us : List (List Rat)) : Prop where
 len : us.length = ts.length
 lo : ∀ i, (ts.getD i []).getD 0 0 ≤ (us.getD i []).getD 0 0
 hi : ∀ i, (us.getD i []).getD 1 0 ≤ (ts.getD i []).getD 1 0
theorem mtPre_in {S : Rat} {ts us : List (List Rat)} (h : RecIn ts us) : ∀ n, mtPre S ts n ≤ mtPre S us n
 | 0 => Rat.le_refl
 | n + 1 => h.lo n
theorem mtOk_in {S mo ri : Rat} {ts us : List (List Rat)} (h : RecIn ts us) : ∀ n, mtOk S mo ri ts n = true → mtOk S mo ri us n = true
 | 0, _ => rfl
 | n + 1, hn => by
  have hn' : (mtOk S mo ri ts n && !mtBad S mo ri ts n) = true := hn
  rw [Bool.and_eq_true] at hn'
  obtain ⟨h1, h2⟩ := hn'
  show (mtOk S mo ri us n && !mtBad S mo ri us n) = true
  rw [mtOk_in h n h1]
  have h3 : mtBad S mo ri ts n = false := by simpa using h2
  unfold mtBad at h3 ⊢
  rw [Bool.or_eq_false_iff] at h3
  have h4 := of_decide_eq_false h3.1
  have h5 := of_decide_eq_false h3.2
  rw [cmp_gt0] at h4 h5
  have g1 := h.hi n
  have g2 := mtPre_in (S := S) h n
  rw [decide_eq_false (by rw [cmp_gt0]; grind), decide_eq_false (by rw [cmp_gt0]; grind)]
  rfl
theorem mtNow_in {le : Rat} {ts us : List (List Rat)} (h : RecIn ts us) : ∀ n, mtNow le ts n ≤ mtNow le us n
 | 0 => Nat.le_refl _
 | n + 1 => by
  have ih := mtNow_in (le := le) h n
  have g := h.lo n
  show (if cmpR ((ts.getD n []).getD 0 0) le < 0 then 0 else mtNow le ts n + 1) ≤ (if cmpR ((us.getD n []).getD 0 0) le < 0 then 0 else mtNow le us n + 1)
  by_cases h1 : cmpR ((ts.getD n []).getD 0 0) le < 0
  ·
   rw [if_pos h1]; exact Nat.zero_le _
  ·
   have h2 : ¬ cmpR ((us.getD n []).getD 0 0) le < 0 := by rw [cmp_lt0] at h1 ⊢; grind
   rw [if_neg h1, if_neg h2]; omega
theorem mtBest_in {le : Rat} {ts us : List (List Rat)} (h : RecIn ts us) : ∀ n, mtBest le ts n ≤ mtBest le us n
 | 0 => Nat.le_refl _
 | n + 1 => by
  have ih := mtBest_in (le := le) h n
  have g := mtNow_in (le := le) h (n + 1)
  show max (mtBest le ts n) (mtNow le ts (n + 1)) ≤ max (mtBest le us n) (mtNow le us (n + 1))
  omega
theorem mtOf_in {S le mo ri : Rat} {m : Int} {ts us : List (List Rat)} (h : RecIn ts us) (ht : mtOf S le mo ri m ts = true) : mtOf S le mo ri m us = true := by
 unfold mtOf at ht ⊢
 rw [Bool.and_eq_true] at ht ⊢
 rw [h.len]
 refine ⟨mtOk_in h _ ht.1, ?_⟩
 have h1 := of_decide_eq_true ht.2
 have h2 := mtBest_in (le := le) h ts.length
 exact decide_eq_true (by omega)
theorem flR_in {S l0 l1 x : Rat} {k k' : Nat} {aq : List Rat} (hk : k ≤ k') (g0 : l0 ≤ x) (g1 : x ≤ l1) (hx : x ≤ 1) (n : Nat) : RecIn (flR S l0 l1 k aq n) (flR S x x k' aq n) := by
 have e : ∀ l0 l1 k i, ¬ i < n → (flR S l0 l1 k aq n).getD i [] = [] := fun l0 l1 k i hi => by
  rw [List.getD_eq_getElem?_getD, List.getElem?_eq_none (by rw [flR_len]; omega)]
  rfl
 refine ⟨by rw [flR_len, flR_len], fun i => ?_, fun i => ?_⟩
 ·
  by_cases hi : i < n
  ·
   rw [flR_at _ _ _ _ _ hi, flR_at _ _ _ _ _ hi]; exact (fl_nest hk g0 g1 hx (i + 1)).1
  ·
   rw [e _ _ _ _ hi, e _ _ _ _ hi]; exact Rat.le_refl
 ·
  by_cases hi : i < n
  ·
   rw [flR_at _ _ _ _ _ hi, flR_at _ _ _ _ _ hi]; exact (fl_nest hk g0 g1 hx (i + 1)).2.2
  ·
   rw [e _ _ _ _ hi, e _ _ _ _ hi]; exact Rat.le_refl

/-! ### Tools in a row, and turned -/
def upAll (f : Nat → Bool) : Nat → Bool
 | 0 => true
 | i + 1 => upAll f i && f i
theorem upAll_iff {f : Nat → Bool} : ∀ n, upAll f n = true ↔ ∀ i, i < n → f i = true
 | 0 => ⟨fun _ i hi => absurd hi (by omega), fun _ => rfl⟩
 | n + 1 => by
  show (upAll f n && f n) = true ↔ _
  rw [Bool.and_eq_true, upAll_iff n]
  constructor
  ·
   intro h i hi
   rcases Nat.lt_or_ge i n with h1 | h1
   ·
    exact h.1 i h1
   ·
    obtain rfl : i = n := by omega
    exact h.2
  ·
   exact fun h => ⟨fun i hi => h i (by omega), h n (by omega)⟩
theorem firstUp_all {f : Nat → Bool} {n : Nat} : firstUp f n = -1 ↔ ∀ i, i < n → f i = false := by
 constructor
 ·
  intro h i hi
  cases hf : f i with
  | false => rfl
  | true =>
   exfalso
   have h1 : 0 ≤ firstUp f (i + 1) := by
    show 0 ≤ (if 0 ≤ firstUp f i then firstUp f i else if f i then (i : Int) else -1)
    rw [hf]
    split
    ·
     assumption
    ·
     simp
   have := firstUp_stay h1 (show i + 1 ≤ n by omega)
   omega
 ·
  intro h
  induction n with
  | zero => rfl
  | succ n ih => exact firstUp_next (ih fun i hi => h i (by omega)) (h n (by omega))
theorem first_all {f g : Nat → Bool} {n : Nat} (h : ∀ i, i < n → f i = !g i) : (firstUp f n == -1) = upAll g n := by
 cases hu : upAll g n with
 | true =>
  rw [upAll_iff] at hu
  exact beq_iff_eq.2 (firstUp_all.2 fun i hi => by rw [h i hi, hu i hi]; rfl)
 | false =>
  refine beq_eq_false_iff_ne.2 fun hf => ?_
  rw [firstUp_all] at hf
  have : upAll g n = true := (upAll_iff n).2 fun i hi => by have := hf i hi; rw [h i hi] at this; simpa using this
  rw [this] at hu; cases hu
def lgT (A B : Nat → Rat) (n : Nat) : List (List Rat) := (List.range n).map fun i => [A i, B i]
def lgR (A B : Nat → Rat) : Nat → List (List Rat)
 | 0 => []
 | n + 1 => [[A n, B n]] ++ lgR A B n
theorem lgT_succ (A B : Nat → Rat) (n : Nat) : lgT A B (n + 1) = lgT A B n ++ [[A n, B n]] := by
 unfold lgT
 rw [List.range_succ, List.map_append]
 rfl
theorem lgT_len (A B : Nat → Rat) (n : Nat) : (lgT A B n).length = n := by simp [lgT]
theorem lgT_at (A B : Nat → Rat) {n i : Nat} (h : i < n) : (lgT A B n).getD i [] = [A i, B i] := by
 unfold lgT
 simp [List.getD, h]
theorem lgR_len (A B : Nat → Rat) : ∀ n, (lgR A B n).length = n
 | 0 => rfl
 | n + 1 => by
  show ([[A n, B n]] ++ lgR A B n).length = n + 1
  rw [List.length_append, lgR_len A B n]
  simp; omega
theorem lgR_at (A B : Nat → Rat) : ∀ {n i : Nat}, i < n → (lgR A B n).getD i [] = [A (n - 1 - i), B (n - 1 - i)]
 | 0, i, h => absurd h (by omega)
 | n + 1, 0, _ => rfl
 | n + 1, i + 1, h => by
  have e : (lgR A B (n + 1)).getD (i + 1) [] = (lgR A B n).getD i [] := rfl
  rw [e, lgR_at A B (show i < n by omega), show n + 1 - 1 - (i + 1) = n - 1 - i by omega]
theorem upAll_turn {f : Nat → Bool} {n : Nat} : upAll (fun i => f (n - 1 - i)) n = upAll f n := by
 have h : upAll (fun i => f (n - 1 - i)) n = true ↔ upAll f n = true := by
  rw [upAll_iff, upAll_iff]
  constructor
  ·
   intro h i hi
   have := h (n - 1 - i) (by omega)
   rw [show n - 1 - (n - 1 - i) = i by omega] at this
   exact this
  ·
   exact fun h i hi => h _ (by omega)
 cases h1 : upAll f n with
 | true => exact h.2 h1
 | false =>
  cases h2 : upAll (fun i => f (n - 1 - i)) n with
  | false => rfl
  | true => rw [h.1 h2] at h1; cases h1
def lgOk (le mo ri : Rat) (m : Int) (aq : List Rat) (A B : Nat → Rat) (i : Nat) : Bool := mtOf 0 le mo ri m (flR 0 (A i) (B i) 12 aq aq.length)
theorem ad_tools {le mo ri : Rat} {m : Int} {aq : List Rat} {A B : Nat → Rat} {n : Nat} : (firstUp (adBad 0 le mo ri m 12 aq (lgT A B n)) (lgT A B n).length == -1) = upAll (lgOk le mo ri m aq A B) n := by
 rw [lgT_len]
 exact first_all fun i hi => by unfold adBad lgOk; rw [lgT_at A B hi]; rfl
theorem ad_turned {le mo ri : Rat} {m : Int} {aq : List Rat} {A B : Nat → Rat} {n : Nat} : (firstUp (adBad 0 le mo ri m 12 aq (lgR A B n)) (lgR A B n).length == -1) = upAll (lgOk le mo ri m aq A B) n := by
 rw [lgR_len, ← upAll_turn]
 exact first_all fun i hi => by unfold adBad lgOk; rw [lgR_at A B hi]; rfl
theorem ad_fewer {le mo ri : Rat} {m : Int} {aq : List Rat} {A B : Nat → Rat} {n : Nat} (hn : 0 < n) (h : upAll (lgOk le mo ri m aq A B) n = true) : firstUp (adBad 0 le mo ri m 12 aq (lgT A B 1)) (lgT A B 1).length = -1 := by
 have e := ad_tools (le := le) (mo := mo) (ri := ri) (m := m) (aq := aq) (A := A) (B := B) (n := 1)
 have h1 : upAll (lgOk le mo ri m aq A B) 1 = true := (upAll_iff 1).2 fun i hi => (upAll_iff n).1 h i (by omega)
 rw [h1] at e
 exact beq_iff_eq.1 e
theorem ad_noerr {n : Nat} {le mo ri : Rat} {m : Int} {ls : List (List Rat)} (h1 : ¬ ls.length < 1) (h2 : ¬ 64 < ls.length) (h : ∀ i, i < ls.length → meErr ((ls.getD i []).getD 0 0) ((ls.getD i []).getD 1 0) n le mo ri m = 0) : adErr n le mo ri m ls = 0 := by
 unfold adErr
 rw [if_neg (by omega)]
 have g : ∀ i, i ≤ ls.length → adUp n le mo ri m ls i = 0 := fun i hi => by
  induction i with
  | zero => rfl
  | succ i ih => rw [adUp_s (ih (by omega))]; exact h i (by omega)
 exact g _ (Nat.le_refl _)
end Go.Proofs.YthhnkobkdhjfgaaGreat

namespace Go.Proofs.YthhnkobkdhjfgaaGreat
open Go.RowKit

theorem LRow.capOk {w : World} {base : Nat} {e : TypeId} {size : Nat} {v : Value} {n : Nat} {xs : List Value} (h : LRow w base e size v n xs) : ∃ ao cap, v = .slice ao n cap ∧ n ≤ cap ∧ cap ≤ maxLen := by
 rcases h.1.2 with ⟨rfl, rfl⟩ | ⟨g, cap, cur, rfl, _, _, h1, h2, _⟩
 ·
  exact ⟨none, 0, rfl, Nat.le_refl _, by unfold maxLen; omega⟩
 ·
  exact ⟨_, _, rfl, h1, h2⟩
theorem grown_refl (w : World) (row : Option Nat) : w.grownBy w row := ⟨rfl, rfl, rfl, Nat.le_refl _, fun _ _ _ => rfl⟩
theorem LRow.lit {w : World} {base : Nat} {e : TypeId} {size : Nat} (hb : base ≤ w.heap.size) (cs : Array Value) (n : Nat) (hm : n ≤ maxLen) (hs : cs.size = n * size) (hd : ∀ u ∈ cs.toList, noDig u) :
  LRow (w.alloc (.cells cs e)) base e size (.slice (some ⟨w.heap.size, 0, none⟩) n n) n cs.toList := by
 refine ⟨⟨by simpa using hs, .inr ⟨w.heap.size, n, cs, rfl, hb, heap_alloc_new w _, Nat.le_refl _, hm, hs, List.take_of_length_le (by rw [Array.length_toList, hs]; exact Nat.le_refl _)⟩⟩, fun g hg => ?_⟩
 obtain rfl : w.heap.size = g := by simpa [Value.ownBlock] using hg
 exact NoDig.of_block (heap_alloc_new w _) hd

theorem run_append_lrow0 {P : Program} (w : World) (t ty : TypeId) (base : Nat) (e : TypeId) (i : TypeInfo) (z : Value) (size bytes : Nat) (ht : P.underlying t = some (.slice e)) (hi : P.info? e = some i) (hz : i.zero = some z)
  (hsize : i.size = size) (hby : i.bytes = bytes) (hzs : z.cells.size = size) (hsz : 0 < size) (hzd : ∀ u ∈ z.cells.toList, noDig u)
  (v : Value) (n : Nat) (xs : List Value) (hown : LRow w base e size v n xs)
  (ao : Option Addr) (m c : Nat) (news : List Value) (hl : news.length = m * size) (hnews : 0 < m → ∃ ad, ao = some ad ∧ ∀ j u, news[j]? = some u → w.cell? (ad.add j) = some u) (h1 : ∀ u ∈ news, u.oneCell' = true) (hnd : ∀ u ∈ news, noDig u)
  (h63 : n + m ≤ maxLen) (hbytes : (n + m) * bytes ≤ 140737488355328) (hbase : base ≤ w.heap.size) :
  ∃ v' w', (Builtin.append_ #[t, t] ty #[v, .slice ao m c]).run P w = .ok v' w' ∧
   LRow w' base e size v' (n + m) (xs ++ news) ∧ w.grownBy w' v.ownBlock ∧ (∀ g, v'.ownBlock = some g → v.ownBlock = some g ∨ g = w.heap.size) := by
 rcases Nat.eq_zero_or_pos m with h0 | hp
 ·
  subst h0
  obtain rfl : news = [] := List.eq_nil_of_length_eq_zero (by omega)
  obtain ⟨ao', cap, rfl, hc1, hc2⟩ := hown.capOk
  have hs : Src P i.size t (.slice ao 0 c) 0 [] w := by
   cases ao with
   | none => exact Src.ofNil w ht c
   | some a => exact Src.ofSlice w ht a 0 c [] (by simp) (fun j u h => by simp at h) (fun u h => by simp at h)
  exact ⟨_, w, run_append_nothing w t t ty e i ht hi ao' n cap hc1 _ hs, by rw [List.append_nil]; exact hown, grown_refl _ _, fun g h => .inl h⟩
 ·
  obtain ⟨ad, rfl, hn⟩ := hnews hp
  obtain ⟨g, cap, w', hr, h2, h3, h4⟩ := run_append_lrow (P := P) w t ty base e i z size bytes ht hi hz hsize hby hzs hsz hzd v n xs hown ad m c news hl hn h1 hnd hp h63 hbytes hbase
  exact ⟨_, w', hr, h2, h3, fun g' hg' => by
   obtain rfl : g = g' := by simpa [Value.ownBlock] using hg'
   exact h4⟩

end Go.Proofs.YthhnkobkdhjfgaaGreat
