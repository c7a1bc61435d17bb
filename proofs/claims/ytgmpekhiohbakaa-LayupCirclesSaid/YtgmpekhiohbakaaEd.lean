/- Part d of the lemmas and walks. -/
import Derived.Test.YtgmpekhiohbakaaEc

namespace Go.Proofs.Ytgmpekhiohbakaa
open Go.RowKit

theorem dn_inj {a b : Nat} (ha : 0 < a) (hb : 0 < b) (h : dn a = dn b) : a = b := by
 unfold dn at h
 split at h <;> split at h <;> omega
theorem cmpN_zero {a b : Nat} : cmpN a b = 0 ↔ a = b := by
 unfold cmpN
 split
 ·
  constructor <;> intro h <;> omega
 ·
  split
  ·
   constructor <;> intro h <;> omega
  ·
   constructor <;> intro h <;> omega
theorem same_true {x y : Rat} (h0 : decide (x.num < 0) = decide (y.num < 0)) (h1 : cmpN x.num.natAbs y.num.natAbs = 0) (h2 : cmpN (dn x.den) (dn y.den) = 0) : decide (x = y) = true := by
 have e1 := cmpN_zero.1 h1
 have e2 := dn_inj x.den_pos y.den_pos (cmpN_zero.1 h2)
 have e3 : (x.num < 0) ↔ (y.num < 0) := by simpa using h0
 refine decide_eq_true (Rat.ext (by omega) e2)
theorem same_false {x y : Rat} (h : decide (x.num < 0) ≠ decide (y.num < 0) ∨ cmpN x.num.natAbs y.num.natAbs ≠ 0 ∨ cmpN (dn x.den) (dn y.den) ≠ 0) : decide (x = y) = false := by
 refine decide_eq_false fun e => ?_
 subst e
 rcases h with h | h | h
 ·
  exact h rfl
 ·
  exact h (cmpN_zero.2 rfl)
 ·
  exact h (cmpN_zero.2 rfl)

set_option maxRecDepth 100000 in
set_option maxHeartbeats 2000000 in
theorem same_any (x y : Rat) (vx vy : Value) (w : World) (hx : IsRat w vx x) (hy : IsRat w vy y) : Calls Try.prog 7 #[vx, vy] w (RetBool (decide (x = y)) w) := by
 obtain ⟨a1, c1, a2, c2, rfl, n1, n2⟩ := hx.opened
 obtain ⟨a3, c3, a4, c4, rfl, n3, n4⟩ := hy.opened
 have N1 := Lib.hid n1
 have N2 := Lib.hid n2
 have N3 := Lib.hid n3
 have N4 := Lib.hid n4
 have Ht := Lib.hid (@same_true x y)
 have Hf := Lib.hid (@same_false x y)
 clear hx hy n1 n2 n3 n4
 generalize hD : decide (x = y) = D at *
 clear hD
 generalize decide (x.num < 0) = sx at *
 generalize decide (y.num < 0) = sy at *
 by_cases h : sx = sy
 ·
  subst h
  have hal : Below w.heap.size w ((w.alloc (.cells #[.bool sx, .slice a1 (dig b64 x.num.natAbs).length c1, .slice a2 (dig b64 (dn x.den)).length c2] 32)).alloc (.cells #[.bool sx, .slice a3 (dig b64 y.num.natAbs).length c3, .slice a4 (dig b64 (dn y.den)).length c4] 32)) :=
   ((Below.refl _ _).alloc (Nat.le_refl _) _).alloc (by simp) _
  have hB1 := (blk_keep (blk_new w #[.bool sx, .slice a1 (dig b64 x.num.natAbs).length c1, .slice a2 (dig b64 (dn x.den)).length c2] 32) ((Below.refl _ _).alloc (Nat.le_refl _) (.cells #[.bool sx, .slice a3 (dig b64 y.num.natAbs).length c3, .slice a4 (dig b64 (dn y.den)).length c4] 32)) (by simp))
  have hB2 := blk_new (w.alloc (.cells #[.bool sx, .slice a1 (dig b64 x.num.natAbs).length c1, .slice a2 (dig b64 (dn x.den)).length c2] 32)) #[.bool sx, .slice a3 (dig b64 y.num.natAbs).length c3, .slice a4 (dig b64 (dn y.den)).length c4] 32
  rw [World.size_alloc] at hB2
  have t1 : (sx == sx) = true := by simp
  go_enter Try.func7, Try.ntmps7
  go_wp2_with fail
  refine (cmp_any x.num.natAbs y.num.natAbs _ _ _ (N1.out.below hal) (N3.out.below hal)).mono ?_
  rintro e w1 ⟨rfl, hb1⟩
  generalize ((w.alloc (.cells #[.bool sx, .slice a1 (dig b64 x.num.natAbs).length c1, .slice a2 (dig b64 (dn x.den)).length c2] 32)).alloc (.cells #[.bool sx, .slice a3 (dig b64 y.num.natAbs).length c3, .slice a4 (dig b64 (dn y.den)).length c4] 32)) = W at *
  have p2 := blk_cell hB1 2 (.slice a2 (dig b64 (dn x.den)).length c2) rfl
  have r2 := blk_cell hB2 2 (.slice a4 (dig b64 (dn y.den)).length c4) rfl
  have hq1 := Quiet.below hb1
  have hx1 := ext_trans hal hq1
  have k2 := (hq1.cell (World.block_lt_of_cell? (h := p2))).trans p2
  have l2 := (hq1.cell (World.block_lt_of_cell? (h := r2))).trans r2
  by_cases h1 : cmpN x.num.natAbs y.num.natAbs = 0
  ·
   have hs1 := Lib.hid h1
   rw [h1]
   clear h1
   go_wp2_with fail
   refine (cmp_any (dn x.den) (dn y.den) _ _ _ (N2.out.below hx1) (N4.out.below hx1)).mono ?_
   rintro e w2 ⟨rfl, hb2⟩
   have hx2 := ext_trans hx1 (Quiet.below hb2)
   by_cases h2 : cmpN (dn x.den) (dn y.den) = 0
   ·
    have HF := Lib.hid (Ht.out (by simp) hs1.out h2)
    rw [h2]
    clear h2
    go_wp2_with fail
    go_ret
    exact ⟨by rw [HF.out]; rfl, hx2⟩
   ·
    have HF := Lib.hid (Hf.out (.inr (.inr h2)))
    have t2 : (cmpN (dn x.den) (dn y.den) == 0) = false := by simpa using h2
    generalize cmpN (dn x.den) (dn y.den) = c at *
    clear h2
    go_wp2_with fail
    go_ret
    exact ⟨by rw [HF.out]; rfl, hx2⟩
  ·
   have HF := Lib.hid (Hf.out (.inr (.inl h1)))
   have t2 : (cmpN x.num.natAbs y.num.natAbs == 0) = false := by simpa using h1
   generalize cmpN x.num.natAbs y.num.natAbs = c at *
   clear h1
   go_wp2_with fail
   go_ret
   exact ⟨by rw [HF.out]; rfl, hx1⟩
 ·
  have HF := Lib.hid (Hf.out (.inl h))
  have hal : Below w.heap.size w ((w.alloc (.cells #[.bool sx, .slice a1 (dig b64 x.num.natAbs).length c1, .slice a2 (dig b64 (dn x.den)).length c2] 32)).alloc (.cells #[.bool sy, .slice a3 (dig b64 y.num.natAbs).length c3, .slice a4 (dig b64 (dn y.den)).length c4] 32)) :=
   ((Below.refl _ _).alloc (Nat.le_refl _) _).alloc (by simp) _
  have hB1 := (blk_keep (blk_new w #[.bool sx, .slice a1 (dig b64 x.num.natAbs).length c1, .slice a2 (dig b64 (dn x.den)).length c2] 32) ((Below.refl _ _).alloc (Nat.le_refl _) (.cells #[.bool sy, .slice a3 (dig b64 y.num.natAbs).length c3, .slice a4 (dig b64 (dn y.den)).length c4] 32)) (by simp))
  have hB2 := blk_new (w.alloc (.cells #[.bool sx, .slice a1 (dig b64 x.num.natAbs).length c1, .slice a2 (dig b64 (dn x.den)).length c2] 32)) #[.bool sy, .slice a3 (dig b64 y.num.natAbs).length c3, .slice a4 (dig b64 (dn y.den)).length c4] 32
  rw [World.size_alloc] at hB2
  have t1 : (sx == sy) = false := by simpa using h
  clear h
  go_enter Try.func7, Try.ntmps7
  go_wp2_with fail
  go_ret
  exact ⟨by rw [HF.out]; rfl, hal⟩

theorem keepZ {w w' : World} {B T : Nat} {cs : Array Value} (h : w.heap[B]? = some (.cells cs T (0, 0))) (hb : Below w.heap.size w w') : w'.heap[B]? = some (.cells cs T (0, 0)) := blk_keep h hb (blk_lt h)
theorem zf {w : World} {B T : Nat} {x y z : Value} (h : w.heap[B]? = some (.cells #[x, y, z] T (0, 0))) : w.cell? ⟨B, 0, none⟩ = some x ∧ w.cell? ⟨B, 1, none⟩ = some y ∧ w.cell? ⟨B, 2, none⟩ = some z ∧ w.frozen? ⟨B, 0, none⟩ = false ∧ w.frozen? ⟨B, 1, none⟩ = false ∧ w.frozen? ⟨B, 2, none⟩ = false :=
 ⟨blk_cell h 0 _ rfl, blk_cell h 1 _ rfl, blk_cell h 2 _ rfl, blk_frozen h 0, blk_frozen h 1, blk_frozen h 2⟩

theorem blk_set3 {w : World} {N T : Nat} {x y z u v t : Value} (h : w.heap[N]? = some (.cells #[x, y, z] T (0, 0))) : (((w.setCell ⟨N, 0, none⟩ u).setCell ⟨N, 1, none⟩ v).setCell ⟨N, 2, none⟩ t).heap[N]? = some (.cells #[u, v, t] T (0, 0)) := blk_set (blk_set (blk_set h 0 _) 1 _) 2 _
theorem blk_al {w : World} {N : Nat} {o p : Obj} (h : w.heap[N]? = some o) : (w.alloc p).heap[N]? = some o := (heap_alloc_old w p (blk_lt h)).trans h
theorem IsRat.al {w : World} {v : Value} {q : Rat} {p : Obj} (h : IsRat w v q) : IsRat (w.alloc p) v q := h.below ((Below.refl _ _).alloc (Nat.le_refl _) _)
theorem IsRat.set3 {w : World} {v : Value} {q : Rat} {N T : Nat} {b0 : Bool} {x0 y0 : Option Addr} {i0 j0 k0 l0 i1 j1 k1 l1 : Nat} {neg : Bool} {x1 y1 : Option Addr} (h : IsRat w v q) (hB : w.heap[N]? = some (.cells #[.bool b0, .slice x0 i0 j0, .slice y0 k0 l0] T (0, 0))) : IsRat (((w.setCell ⟨N, 0, none⟩ (.bool neg)).setCell ⟨N, 1, none⟩ (.slice x1 i1 j1)).setCell ⟨N, 2, none⟩ (.slice y1 k1 l1)) v q := by
 obtain ⟨vn, vd, rfl, h1, h2⟩ := h
 exact ⟨_, _, rfl, store3 hB h1, store3 hB h2⟩

theorem keepT {W a b : World} (h : Below W.heap.size W a) (hb : Below a.heap.size a b) : Below W.heap.size W b := h.trans (hb.mono h.size)
theorem keepTa {W a : World} {o : Obj} (h : Below W.heap.size W a) : Below W.heap.size W (a.alloc o) := h.alloc h.size _
end Go.Proofs.Ytgmpekhiohbakaa

namespace Go.Proofs.Ytgmpekhiohbakaa
open Go.RowKit

def radQ (a b c : Pt) : Rat := if crossI a b c = 0 then 0 else ((dotI a b b : Int) : Rat) * ((dotI b c c : Int) : Rat) * ((dotI c a a : Int) : Rat) / (((4 : Int) : Rat) * ((crossI a b c : Int) : Rat) * ((crossI a b c : Int) : Rat))
def radE (a b c : Pt) : Int := if crossI a b c = 0 then 5 else 0
theorem cd_range {a b c : Pt} (ha : ptOk a = true) (hb : ptOk b = true) (hc : ptOk c = true) : szR ((crossI a b c : Int) : Rat) 2 ∧ szR ((dotI a b c : Int) : Rat) 2 := by
 have ra := ptOk_range ha
 have rb := ptOk_range hb
 have rc := ptOk_range hc
 obtain ⟨-, -, s1⟩ := sub_far rb.1 ra.1
 obtain ⟨-, -, s2⟩ := sub_far rc.2 ra.2
 obtain ⟨-, -, s3⟩ := sub_far rb.2 ra.2
 obtain ⟨-, -, s4⟩ := sub_far rc.1 ra.1
 have m1 := mul_absI s1 s2
 have m2 := mul_absI s3 s4
 have m3 := mul_absI s1 s4
 have m4 := mul_absI s3 s2
 have e : b64 ^ 2 = 340282366920938463463374607431768211456 := by unfold b64; omega
 refine ⟨szR_int (k := 2) ?_ (by omega), szR_int (k := 2) ?_ (by omega)⟩
 ·
  rw [e]; unfold crossI; omega
 ·
  rw [e]; unfold dotI; omega
theorem keepRw {n : Nat} {W b : World} {B0 B1 B2 B3 : Nat} {j0 j1 j2 j3 j4 j5 j6 j7 j8 : Nat} {v0 v1 v2 v3 v4 v5 v6 v7 v8 : Value} (h0 : B0 < n) (h1 : B1 < n) (h2 : B2 < n) (h3 : B3 < n)
  (k0 : W.cell? ⟨B0, j0, none⟩ = some v0) (k1 : W.cell? ⟨B0, j1, none⟩ = some v1) (k2 : W.cell? ⟨B1, j2, none⟩ = some v2) (k3 : W.cell? ⟨B1, j3, none⟩ = some v3) (k4 : W.cell? ⟨B2, j4, none⟩ = some v4) (k5 : W.cell? ⟨B2, j5, none⟩ = some v5) (k6 : W.cell? ⟨B3, j6, none⟩ = some v6) (k7 : W.cell? ⟨B3, j7, none⟩ = some v7) (k8 : W.cell? ⟨B3, j8, none⟩ = some v8) (h : Below n W b) :
  Below n W b ∧ b.cell? ⟨B0, j0, none⟩ = some v0 ∧ b.cell? ⟨B0, j1, none⟩ = some v1 ∧ b.cell? ⟨B1, j2, none⟩ = some v2 ∧ b.cell? ⟨B1, j3, none⟩ = some v3 ∧ b.cell? ⟨B2, j4, none⟩ = some v4 ∧ b.cell? ⟨B2, j5, none⟩ = some v5 ∧ b.cell? ⟨B3, j6, none⟩ = some v6 ∧ b.cell? ⟨B3, j7, none⟩ = some v7 ∧ b.cell? ⟨B3, j8, none⟩ = some v8 :=
 ⟨h, (h.cell h0).trans k0, (h.cell h0).trans k1, (h.cell h1).trans k2, (h.cell h1).trans k3, (h.cell h2).trans k4, (h.cell h2).trans k5, (h.cell h3).trans k6, (h.cell h3).trans k7, (h.cell h3).trans k8⟩

set_option maxRecDepth 100000 in
set_option maxHeartbeats 16000000 in
theorem radius_any (a b c : Pt) (w : World) (ha : ptOk a = true) (hb : ptOk b = true) (hc : ptOk c = true) : Calls Try.prog 5 #[.agg #[.int .i64 a.1, .int .i64 a.2], .agg #[.int .i64 b.1, .int .i64 b.2], .agg #[.int .i64 c.1, .int .i64 c.2]] w (RetRatE (radQ a b c) (radE a b c) w) := by
 have HR : Hid (∀ W v, PairsOf W v [a, b, c] → Calls Try.prog 11 #[v] W (RetBool true W)) := fun W v h => by
  have := isRight_any [a, b, c] v W h (by simp)
  rw [show ptsOk [a, b, c] = true by simp [ptsOk, ha, hb, hc]] at this
  exact this
 have HCR : Hid (∀ W, Calls Try.prog 12 #[.agg #[.int .i64 a.1, .int .i64 a.2], .agg #[.int .i64 b.1, .int .i64 b.2], .agg #[.int .i64 c.1, .int .i64 c.2]] W (RetRat ((crossI a b c : Int) : Rat) W)) := fun W => cross_any a b c W ha hb hc
 have HDA : Hid (∀ W, Calls Try.prog 14 #[.agg #[.int .i64 a.1, .int .i64 a.2], .agg #[.int .i64 b.1, .int .i64 b.2], .agg #[.int .i64 b.1, .int .i64 b.2]] W (RetRat ((dotI a b b : Int) : Rat) W)) := fun W => dot_any a b b W ha hb hb
 have HDB : Hid (∀ W, Calls Try.prog 14 #[.agg #[.int .i64 b.1, .int .i64 b.2], .agg #[.int .i64 c.1, .int .i64 c.2], .agg #[.int .i64 c.1, .int .i64 c.2]] W (RetRat ((dotI b c c : Int) : Rat) W)) := fun W => dot_any b c c W hb hc hc
 have HDC : Hid (∀ W, Calls Try.prog 14 #[.agg #[.int .i64 c.1, .int .i64 c.2], .agg #[.int .i64 a.1, .int .i64 a.2], .agg #[.int .i64 a.1, .int .i64 a.2]] W (RetRat ((dotI c a a : Int) : Rat) W)) := fun W => dot_any c a a W hc ha ha
 have HW4 : Hid (∀ W, Calls Try.prog 16 #[.int .i64 4] W (RetRat (((4 : Int) : Rat)) W)) := fun W => lwhole_any 4 W (by omega) (by omega)
 have sa := (cd_range ha hb hb).2
 have sb := (cd_range hb hc hc).2
 have sc := (cd_range hc ha ha).2
 have st := (cd_range ha hb hc).1
 have s4 := i64_szR 4 (by omega) (by omega) 1 (by omega)
 have Za := Lib.hid (szR_mono sa (show 2 ≤ 68719476736 by omega))
 have Zb := Lib.hid (szR_mono sb (show 2 ≤ 68719476736 by omega))
 have Zc := Lib.hid (szR_mono sc (show 2 ≤ 68719476736 by omega))
 have Zt := Lib.hid (szR_mono st (show 2 ≤ 68719476736 by omega))
 have Z4 := Lib.hid (szR_mono s4 (show 1 ≤ 68719476736 by omega))
 have Zab := Lib.hid (szR_mono (szR_mul sa sb) (show 2 + 2 ≤ 68719476736 by omega))
 have Zabc := Lib.hid (szR_mono (szR_mul (szR_mul sa sb) sc) (show 2 + 2 + 2 ≤ 68719476736 by omega))
 have Z4t := Lib.hid (szR_mono (szR_mul s4 st) (show 1 + 2 ≤ 68719476736 by omega))
 have Z4tt := Lib.hid (szR_mono (szR_mul (szR_mul s4 st) st) (show 1 + 2 + 2 ≤ 68719476736 by omega))
 have Hq0 : Hid (crossI a b c = 0 → radQ a b c = 0 ∧ radE a b c = 5) := fun h => by unfold radQ radE; rw [if_pos h, if_pos h]; exact ⟨rfl, rfl⟩
 have Hq1 : Hid (crossI a b c ≠ 0 → radQ a b c = ((dotI a b b : Int) : Rat) * ((dotI b c c : Int) : Rat) * ((dotI c a a : Int) : Rat) / (((4 : Int) : Rat) * ((crossI a b c : Int) : Rat) * ((crossI a b c : Int) : Rat)) ∧ radE a b c = 0) := fun h => by unfold radQ radE; rw [if_neg h, if_neg h]; exact ⟨rfl, rfl⟩
 have HTZ : Hid (crossI a b c = 0 ↔ ((crossI a b c : Int) : Rat).num.natAbs = 0) := by show _ ↔ _; rw [Rat.num_intCast]; omega
 have H4n : Hid (crossI a b c ≠ 0 → (((4 : Int) : Rat) * ((crossI a b c : Int) : Rat) * ((crossI a b c : Int) : Rat)).num.natAbs ≠ 0) := fun h => by
  rw [← Rat.intCast_mul, ← Rat.intCast_mul, Rat.num_intCast]
  have := Int.mul_ne_zero (Int.mul_ne_zero (show (4 : Int) ≠ 0 by omega) h) h
  omega
 have HP3 := Lib.hid (fun W => pts_new3 W a.1 a.2 b.1 b.2 c.1 c.2 27)
 clear ha hb hc sa sb sc st s4
 generalize ((dotI a b b : Int) : Rat) = qa at *
 generalize ((dotI b c c : Int) : Rat) = qb at *
 generalize ((dotI c a a : Int) : Rat) = qc at *
 generalize ((crossI a b c : Int) : Rat) = qt at *
 generalize ((4 : Int) : Rat) = q4 at *
 obtain ⟨ax, ay⟩ := a
 obtain ⟨bx, by'⟩ := b
 obtain ⟨cx, cy⟩ := c
 generalize crossI (ax, ay) (bx, by') (cx, cy) = zt at *
 generalize radQ (ax, ay) (bx, by') (cx, cy) = qr at *
 generalize radE (ax, ay) (bx, by') (cx, cy) = er at *
 have Ha6 := Lib.hid (fun W : World => (Below.refl W.heap.size W).alloc (Nat.le_refl _) (.cells #[.int .i64 ax, .int .i64 ay, .int .i64 bx, .int .i64 by', .int .i64 cx, .int .i64 cy] 27))
 go_enter Try.func5, Try.ntmps5
 go_wp2_with fail
 generalize hW0 : (((w.alloc (.cells #[.int .i64 ax, .int .i64 ay] 27)).alloc (.cells #[.int .i64 bx, .int .i64 by'] 27)).alloc (.cells #[.int .i64 cx, .int .i64 cy] 27)).alloc (.cells #[.bool false, .slice none 0 0, .slice none 0 0] 32) = W at *
 have hsz : W.heap.size = w.heap.size + 4 := by rw [← hW0]; simp
 obtain ⟨hal, hB1, hB2, hB3, hB4⟩ := boxesP w _ _ _ _ _ _ W hW0.symm
 have hP3 := HP3.out W
 rw [hsz] at hP3
 have hal6 := Ha6.out W
 clear hW0
 refine (HR.out _ _ hP3).mono ?_
 rintro e w3 ⟨rfl, hb3⟩
 have b1 := blk_keep (blk_keep hB1 hal6 (blk_lt hB1)) hb3 (by have := blk_lt hB1; simp; omega)
 have b2 := blk_keep (blk_keep hB2 hal6 (blk_lt hB2)) hb3 (by have := blk_lt hB2; simp; omega)
 have b3 := blk_keep (blk_keep hB3 hal6 (blk_lt hB3)) hb3 (by have := blk_lt hB3; simp; omega)
 have b4 := blk_keep (blk_keep hB4 hal6 (blk_lt hB4)) hb3 (by have := blk_lt hB4; simp; omega)
 have hx3 := ext_trans (ext_trans hal hal6) hb3
 have p0 := blk_cell b1 0 (.int .i64 ax) rfl
 have p1 := blk_cell b1 1 (.int .i64 ay) rfl
 have p2 := blk_cell b2 0 (.int .i64 bx) rfl
 have p3 := blk_cell b2 1 (.int .i64 by') rfl
 have p4 := blk_cell b3 0 (.int .i64 cx) rfl
 have p5 := blk_cell b3 1 (.int .i64 cy) rfl
 clear hB1 hB2 hB3 hB4 hal hal6 hb3 hP3
 go_wp2_with fail
 refine (HCR.out _).mono ?_
 rintro e w4 ⟨vt, rfl, hvt, hb4⟩
 obtain ⟨t1, t3, t4, t6, rfl, _, _⟩ := hvt.opened
 have hal4 := (Below.refl w4.heap.size w4).alloc (Nat.le_refl _) (.cells #[.bool (decide (qt.num < 0)), .slice t1 (dig b64 qt.num.natAbs).length t3, .slice t4 (dig b64 (dn qt.den)).length t6] 32)
 have hT := blk_new w4 #[.bool (decide (qt.num < 0)), .slice t1 (dig b64 qt.num.natAbs).length t3, .slice t4 (dig b64 (dn qt.den)).length t6] 32
 have d1 := blk_keep (blk_keep b1 hb4 (blk_lt b1)) hal4 (blk_lt (blk_keep b1 hb4 (blk_lt b1)))
 have d2 := blk_keep (blk_keep b2 hb4 (blk_lt b2)) hal4 (blk_lt (blk_keep b2 hb4 (blk_lt b2)))
 have d3 := blk_keep (blk_keep b3 hb4 (blk_lt b3)) hal4 (blk_lt (blk_keep b3 hb4 (blk_lt b3)))
 have d4 := blk_keep (blk_keep b4 hb4 (blk_lt b4)) hal4 (blk_lt (blk_keep b4 hb4 (blk_lt b4)))
 have HT4 := Lib.hid (hvt.below hal4)
 have hx4 := ext_trans (ext_trans hx3 hb4) hal4
 clear b1 b2 b3 b4 hx3 p0 p1 p2 p3 p4 p5 hvt hal4 hb4
 go_wp2_with fail
 refine (zero_any _ _ qt.num.natAbs _ _ _ _ _).mono ?_
 by_cases hz : zt = 0
 ·
  rw [decide_eq_true (HTZ.out.1 hz)]
  rintro e w5 ⟨rfl, hb5⟩
  have f4 := blk_keep d4 hb5 (blk_lt d4)
  have hx5 := ext_trans hx4 hb5
  have hRB : RB w5 (w.heap.size + 3) := ⟨false, none, 0, 0, none, 0, 0, _, f4⟩
  obtain ⟨g0, g1, g2, f0', f1', f2'⟩ := hRB.cell
  have hBl := hRB.lt
  have HQ := Lib.hid (Hq0.out hz)
  clear hT d1 d2 d3 d4 hx4 HT4 hb5 hz f4
  go_wp2_with fail
  refine bodyPost_ret (v := .tuple #[.agg #[.bool false, .slice none 0 0, .slice none 0 0], .int .i64 5]) (by simp [results, Try.results5, go_sem, g0, g1, g2]; first | done | exact ⟨⟨rfl, rfl⟩, rfl⟩ | exact ⟨rfl, rfl⟩ | rfl) rfl ⟨_, by rw [HQ.out.2], ?_, below_store3 hx5 (by omega)⟩
  rw [HQ.out.1]
  exact IsRat.zero _
 ·
  rw [decide_eq_false (fun h => hz (HTZ.out.2 h))]
  rintro e w5 ⟨rfl, hb5⟩
  have hQ1 := Hq1.out hz
  have h4n := H4n.out hz
  have HDV : Hid (∀ u v W, IsRat W u (qa * qb * qc) → IsRat W v (q4 * qt * qt) → Calls Try.prog 15 #[u, v] W (RetRatE qr 0 W)) := fun u v W h1 h2 => by
   have := divRat_any _ _ u v W h1 h2 Zabc.out Z4tt.out h4n
   rw [← hQ1.1] at this
   exact this
  have HE2 : Hid (er = 0) := hQ1.2
  have e1 := blk_keep d1 hb5 (blk_lt d1)
  have e2 := blk_keep d2 hb5 (blk_lt d2)
  have e3 := blk_keep d3 hb5 (blk_lt d3)
  have e4 := blk_keep d4 hb5 (blk_lt d4)
  have eT := blk_keep hT hb5 (blk_lt hT)
  have HT5 := Lib.hid (HT4.out.below hb5)
  have hx5 := ext_trans hx4 hb5
  have HB : Hid (RB w5 (w.heap.size + 3)) := ⟨false, none, 0, 0, none, 0, 0, _, e4⟩
  have l1 := blk_lt e1
  have l2 := blk_lt e2
  have l3 := blk_lt e3
  have l4 := blk_lt e4
  have lT := blk_lt eT
  clear hT d1 d2 d3 d4 hx4 HT4 hb5 hz e4 hQ1 h4n
  generalize decide (qt.num < 0) = st at *
  generalize (dig b64 qt.num.natAbs).length = t2 at *
  generalize (dig b64 (dn qt.den)).length = t5 at *
  generalize w5 = W5 at *
  have hWz : Below W5.heap.size W5 W5 := Below.refl _ _
  have w0 : W5.cell? ⟨w.heap.size, 0, none⟩ = some (.int .i64 ax) := blk_cell e1 0 _ rfl
  have w1 : W5.cell? ⟨w.heap.size, 1, none⟩ = some (.int .i64 ay) := blk_cell e1 1 _ rfl
  have w2 : W5.cell? ⟨w.heap.size + 1, 0, none⟩ = some (.int .i64 bx) := blk_cell e2 0 _ rfl
  have w3' : W5.cell? ⟨w.heap.size + 1, 1, none⟩ = some (.int .i64 by') := blk_cell e2 1 _ rfl
  have w4' : W5.cell? ⟨w.heap.size + 2, 0, none⟩ = some (.int .i64 cx) := blk_cell e3 0 _ rfl
  have w5' : W5.cell? ⟨w.heap.size + 2, 1, none⟩ = some (.int .i64 cy) := blk_cell e3 1 _ rfl
  have w6 : W5.cell? ⟨w4.heap.size, 0, none⟩ = some (.bool st) := blk_cell eT 0 _ rfl
  have w7 : W5.cell? ⟨w4.heap.size, 1, none⟩ = some (.slice t1 t2 t3) := blk_cell eT 1 _ rfl
  have w8 : W5.cell? ⟨w4.heap.size, 2, none⟩ = some (.slice t4 t5 t6) := blk_cell eT 2 _ rfl
  clear e1 e2 e3 eT
  go_wp2_with fail
  go_cut [9] from 9 to 47 (fun s wx => SumBox W5 qr s wx)
  case first =>
   go_region_held3 (fun w' => Below W5.heap.size W5 w' ∧ w'.cell? ⟨w.heap.size, 0, none⟩ = some (.int .i64 ax) ∧ w'.cell? ⟨w.heap.size, 1, none⟩ = some (.int .i64 ay) ∧ w'.cell? ⟨w.heap.size + 1, 0, none⟩ = some (.int .i64 bx) ∧ w'.cell? ⟨w.heap.size + 1, 1, none⟩ = some (.int .i64 by') ∧ w'.cell? ⟨w.heap.size + 2, 0, none⟩ = some (.int .i64 cx) ∧ w'.cell? ⟨w.heap.size + 2, 1, none⟩ = some (.int .i64 cy) ∧ w'.cell? ⟨w4.heap.size, 0, none⟩ = some (.bool st) ∧ w'.cell? ⟨w4.heap.size, 1, none⟩ = some (.slice t1 t2 t3) ∧ w'.cell? ⟨w4.heap.size, 2, none⟩ = some (.slice t4 t5 t6))
    (first | exact keepRw l1 l2 l3 lT w0 w1 w2 w3' w4' w5' w6 w7 w8 (by repeat (first | (with_reducible refine keepTa ?_) | (with_reducible refine Below.drew ?_) | (with_reducible refine below_store3 ?_ (by omega)) | (with_reducible exact hWz) | (with_reducible refine keepT ?_ hbI) | (with_reducible refine keepT ?_ hbH) | (with_reducible refine keepT ?_ hbG) | (with_reducible refine keepT ?_ hbF) | (with_reducible refine keepT ?_ hbE) | (with_reducible refine keepT ?_ hbD) | (with_reducible refine keepT ?_ hbC) | (with_reducible refine keepT ?_ hbB) | (with_reducible refine keepT ?_ hbA))))
    (first
     | (go_at_call_of 14 (Value.agg #[Value.int .i64 ax, Value.int .i64 ay]); (with_reducible refine (HDA.out _).mono ?_); rintro e wA ⟨vA, rfl, hvA, hbA⟩; (have sA := hbA.size; (try simp at sA)); (first | (with_reducible have HN := Lib.hid (boxkeepD hbA)) | (with_reducible have HN := Lib.hid (boxkeep hbA)) | (with_reducible have HN := Lib.hid (keepZ HN.out hbA)) | skip); (have HA := Lib.hid hvA); clear hvA)
     | (go_at_call_of 14 (Value.agg #[Value.int .i64 bx, Value.int .i64 by']); (with_reducible refine (HDB.out _).mono ?_); rintro e wB ⟨vB, rfl, hvB, hbB⟩; (have sB := hbB.size; (try simp at sB)); (first | (with_reducible have HN := Lib.hid (boxkeepD hbB)) | (with_reducible have HN := Lib.hid (boxkeep hbB)) | (with_reducible have HN := Lib.hid (keepZ HN.out hbB)) | skip); (first | (with_reducible have HH := HA.out.below hbB) | (with_reducible have HH := HA.out.al.below hbB)); (have HA := Lib.hid HH); clear HH; (have HB := Lib.hid hvB); clear hvB)
     | (go_at_call_of 8 vA; (with_reducible refine (mulRat_any qa qb _ _ _ (by first | exact HA.out | exact HA.out.al) (by first | exact HB.out | exact HB.out.al) Za.out Zb.out).mono ?_); rintro e wC ⟨vC, rfl, hvC, hbC⟩; (have sC := hbC.size; (try simp at sC)); (first | (with_reducible have HN := Lib.hid (boxkeepD hbC)) | (with_reducible have HN := Lib.hid (boxkeep hbC)) | (with_reducible have HN := Lib.hid (keepZ HN.out hbC)) | skip); (have HC := Lib.hid hvC); clear hvC)
     | (go_at_call_of 14 (Value.agg #[Value.int .i64 cx, Value.int .i64 cy]); (with_reducible refine (HDC.out _).mono ?_); rintro e wD ⟨vD, rfl, hvD, hbD⟩; (have sD := hbD.size; (try simp at sD)); (first | (with_reducible have HN := Lib.hid (boxkeepD hbD)) | (with_reducible have HN := Lib.hid (boxkeep hbD)) | (with_reducible have HN := Lib.hid (keepZ HN.out hbD)) | skip); (first | (with_reducible have HH := HC.out.below hbD) | (with_reducible have HH := HC.out.al.below hbD)); (have HC := Lib.hid HH); clear HH; (have HD := Lib.hid hvD); clear hvD)
     | (go_at_call_of 8 vC; (with_reducible refine (mulRat_any (qa * qb) qc _ _ _ (by first | exact HC.out | exact HC.out.al) (by first | exact HD.out | exact HD.out.al) Zab.out Zc.out).mono ?_); rintro e wE ⟨vE, rfl, hvE, hbE⟩; (have sE := hbE.size; (try simp at sE)); (first | (with_reducible have HN := Lib.hid (boxkeepD hbE)) | (with_reducible have HN := Lib.hid (boxkeep hbE)) | (with_reducible have HN := Lib.hid (keepZ HN.out hbE)) | skip); (have HE := Lib.hid hvE); clear hvE)
     | (go_at_call 16; (with_reducible refine (HW4.out _).mono ?_); rintro e wF ⟨vF, rfl, hvF, hbF⟩; (have sF := hbF.size; (try simp at sF)); (first | (with_reducible have HN := Lib.hid (boxkeepD hbF)) | (with_reducible have HN := Lib.hid (boxkeep hbF)) | (with_reducible have HN := Lib.hid (keepZ HN.out hbF)) | skip); (first | (with_reducible have HH := HE.out.below hbF) | (with_reducible have HH := HE.out.al.below hbF)); (have HE := Lib.hid HH); clear HH; (have HF := Lib.hid hvF); clear hvF)
     | (go_at_call_of 8 vF; (with_reducible refine (mulRat_any q4 qt _ _ _ (by first | exact HF.out | exact HF.out.al) (HT5.out.below (And.left (by assumption))) Z4.out Zt.out).mono ?_); rintro e wG ⟨vG, rfl, hvG, hbG⟩; (have sG := hbG.size; (try simp at sG)); (first | (with_reducible have HN := Lib.hid (boxkeepD hbG)) | (with_reducible have HN := Lib.hid (boxkeep hbG)) | (with_reducible have HN := Lib.hid (keepZ HN.out hbG)) | skip); (first | (with_reducible have HH := HE.out.below hbG) | (with_reducible have HH := HE.out.al.below hbG)); (have HE := Lib.hid HH); clear HH; (have HG := Lib.hid hvG); clear hvG)
     | (go_at_call_of 8 vG; (with_reducible refine (mulRat_any (q4 * qt) qt _ _ _ (by first | exact HG.out | exact HG.out.al) (HT5.out.below (And.left (by assumption))) Z4t.out Zt.out).mono ?_); rintro e wH ⟨vH, rfl, hvH, hbH⟩; (have sH := hbH.size; (try simp at sH)); (first | (with_reducible have HN := Lib.hid (boxkeepD hbH)) | (with_reducible have HN := Lib.hid (boxkeep hbH)) | (with_reducible have HN := Lib.hid (keepZ HN.out hbH)) | skip); (first | (with_reducible have HH := HE.out.below hbH) | (with_reducible have HH := HE.out.al.below hbH)); (have HE := Lib.hid HH); clear HH; (have HH := Lib.hid hvH); clear hvH)
     | (go_at_call 15; (with_reducible refine (HDV.out _ _ _ (by first | exact HE.out | exact HE.out.al) (by first | exact HH.out | exact HH.out.al)).mono ?_); rintro e wI ⟨vI, rfl, hvI, hbI⟩; (have sI := hbI.size; (try simp at sI)); (first | (with_reducible have HN := Lib.hid (boxkeepD hbI)) | (with_reducible have HN := Lib.hid (boxkeep hbI)) | (with_reducible have HN := Lib.hid (keepZ HN.out hbI)) | skip); (obtain ⟨r1, r2, r3, r4, rfl, _, _⟩ := IsRat.opened hvI); (have HI := Lib.hid hvI); (try (have L1 := blk_lt HN.out; obtain ⟨n0, n1, n2, n3, n4, n5⟩ := zf HN.out))))
   all_goals
    rename_i hS
    have hbS := hS.1
    clear hS
    go_wp2_with fail
    go_meet
    refine ⟨_, decide (qr.num < 0), r1, (dig b64 qr.num.natAbs).length, r2, r3, (dig b64 (dn qr.den)).length, r4, 32, rfl, by first | omega | (simp; omega), hbS, ?_, ?_⟩
    ·
     repeat (first | exact HN.out | exact blk_new _ _ _ | (with_reducible refine blk_set3 (x := .bool false) (y := .slice none 0 0) (z := .slice none 0 0) ?_) | (with_reducible refine blk_al ?_))
    ·
     repeat (first | exact HI.out | (with_reducible refine IsRat.al ?_) | (with_reducible refine IsRat.set3 (T := 32) (b0 := false) (x0 := none) (y0 := none) (i0 := 0) (j0 := 0) (k0 := 0) (l0 := 0) ?_ ?_) | exact HN.out | exact blk_new _ _ _)
  case rest =>
   obtain ⟨N, b7, x7, i7, j7, y7, k7, l7, T7, rfl, hN, hbc, hNB, hvN⟩ := hcut
   have nn0 := blk_cell hNB 0 _ rfl
   have nn1 := blk_cell hNB 1 _ rfl
   have nn2 := blk_cell hNB 2 _ rfl
   have hRB := HB.out.keep hbc l4
   have hxc := ext_trans hx5 hbc
   obtain ⟨g0, g1, g2, f0', f1', f2'⟩ := hRB.cell
   have hBl := hRB.lt
   have hneN : N ≠ w.heap.size + 3 := by omega
   obtain ⟨vn, vd, hag, n5, n6⟩ := hvN
   simp only [Value.agg.injEq, Array.mk.injEq, List.cons.injEq, and_true] at hag
   obtain ⟨hb7, rfl, rfl⟩ := hag
   have Hb7 := Lib.hid hb7
   clear hNB hb7
   go_wp2_with fail
   refine bodyPost_ret (v := .tuple #[.agg #[.bool b7, .slice x7 i7 j7, .slice y7 k7 l7], .int .i64 0]) (by simp [results, Try.results5, go_sem, g0, g1, g2]; first | done | exact ⟨⟨rfl, rfl⟩, rfl⟩ | exact ⟨rfl, rfl⟩ | rfl) rfl ⟨_, by rw [HE2.out], ?_, below_store3 hxc (by omega)⟩
   exact IsRat.stored hRB n5 n6 (by have := Hb7.out; simpa using this.symm) rfl

end Go.Proofs.Ytgmpekhiohbakaa

namespace Go.Proofs.Ytgmpekhiohbakaa
open Go.RowKit

def narB (m : Int) (a b c : Pt) : Bool := if crossI a b c = 0 then decide (0 < dotI b a c) else decide (radQ a b c < ((m * m : Int) : Rat))
def twB (l : List Pt) (i : Nat) : Bool := decide (0 < i) && (decide ((ptAt l i).1 = (ptAt l (i - 1)).1) && decide ((ptAt l i).2 = (ptAt l (i - 1)).2))
def anyTo (p : Nat → Bool) : Nat → Bool
 | 0 => false
 | i + 1 => anyTo p i || p i
def firstTo (p : Nat → Bool) : Nat → Int
 | 0 => -1
 | i + 1 => if anyTo p i then firstTo p i else if p i then (i : Int) else -1
theorem anyTo_up {p : Nat → Bool} {i : Nat} (h : anyTo p i = false) (hp : p i = false) : anyTo p (i + 1) = false := by show (anyTo p i || p i) = false; rw [h, hp]; rfl
theorem anyTo_at {p : Nat → Bool} {i n : Nat} (h : i < n) (hp : p i = true) : anyTo p n = true := by
 induction n with
 | zero => omega
 | succ n ih =>
  show (anyTo p n || p n) = true
  by_cases e : i = n
  ·
   rw [← e, hp, Bool.or_true]
  ·
   rw [ih (by omega)]; rfl
theorem anyTo_sub {p : Nat → Bool} {i n : Nat} (h : anyTo p n = false) (hi : i < n) : p i = false := by
 cases e : p i with
 | false => rfl
 | true => rw [anyTo_at hi e] at h; cases h
theorem firstTo_none {p : Nat → Bool} {n : Nat} (h : anyTo p n = false) : firstTo p n = -1 := by
  induction n with
  | zero => rfl
  | succ n ih =>
    have h0 : anyTo p n = false := by
      cases e : anyTo p n with
      | false => rfl
      | true => have : anyTo p (n + 1) = true := by show (anyTo p n || p n) = true; rw [e]; rfl
                rw [this] at h; cases h
    have h1 := anyTo_sub h (Nat.lt_succ_self n)
    unfold firstTo
    rw [h0, h1]
    rfl
theorem firstTo_at {p : Nat → Bool} {i n : Nat} (h : anyTo p i = false) (hp : p i = true) (hi : i < n) : firstTo p n = (i : Int) := by
 induction n with
 | zero => omega
 | succ n ih =>
  unfold firstTo
  by_cases e : i = n
  ·
   subst e; rw [h, hp]; rfl
  ·
   rw [if_pos (anyTo_at (by omega) hp)]; exact ih (by omega)
def narP (l : List Pt) (m : Int) (i : Nat) : Bool := decide (0 < i) && (decide (i + 1 < l.length) && narB m (ptAt l (i - 1)) (ptAt l i) (ptAt l (i + 1)))
theorem narP_in {l : List Pt} {m : Int} {i j k : Nat} (hj : i = j + 1) (hk : k = i + 1) (h : k < l.length) : narP l m i = narB m (ptAt l j) (ptAt l i) (ptAt l k) := by
 subst hk
 unfold narP
 rw [decide_eq_true (by omega), decide_eq_true h, show i - 1 = j by omega]
 rfl
theorem narP_out {l : List Pt} {m : Int} {i : Nat} (h : ¬ (0 < i ∧ i + 1 < l.length)) : narP l m i = false := by
 unfold narP
 by_cases h0 : 0 < i
 ·
  rw [decide_eq_false (p := i + 1 < l.length) (by omega)]; simp
 ·
  rw [decide_eq_false h0]; rfl
theorem twB_in {l : List Pt} {i j : Nat} (hj : i = j + 1) : twB l i = (decide ((ptAt l i).1 = (ptAt l j).1) && decide ((ptAt l i).2 = (ptAt l j).2)) := by
 unfold twB
 rw [decide_eq_true (by omega), show i - 1 = j by omega]
 rfl
def pathErr (l : List Pt) : Int := if l.length < 2 ∨ 32 < l.length then 4 else if ptsOk l = false then 1 else if anyTo (twB l) l.length = true then 8 else 0
def stErr (l : List Pt) (m : Int) : Int := if pathErr l ≠ 0 then pathErr l else if m < 0 ∨ 1073741824 < m then 1 else 0
def stVal (l : List Pt) (m : Int) : Int := if stErr l m = 0 then firstTo (narP l m) l.length else 0
theorem line_dot {a b c : Pt} (h : crossI a b c = 0) (h1 : ¬ (b.1 = a.1 ∧ b.2 = a.2)) (h2 : ¬ (c.1 = b.1 ∧ c.2 = b.2)) : dotI b a c ≠ 0 := by
 intro h0
 unfold crossI at h
 unfold dotI at h0
 obtain ⟨a1, a2⟩ := a
 obtain ⟨b1, b2⟩ := b
 obtain ⟨c1, c2⟩ := c
 dsimp only at *
 obtain ⟨u1, hu1⟩ : ∃ z, z = a1 - b1 := ⟨_, rfl⟩
 obtain ⟨u2, hu2⟩ : ∃ z, z = a2 - b2 := ⟨_, rfl⟩
 obtain ⟨v1, hv1⟩ : ∃ z, z = c1 - b1 := ⟨_, rfl⟩
 obtain ⟨v2, hv2⟩ : ∃ z, z = c2 - b2 := ⟨_, rfl⟩
 have e1 : u1 * v1 + u2 * v2 = 0 := by rw [hu1, hu2, hv1, hv2]; exact h0
 have e2 : u2 * v1 - u1 * v2 = 0 := by rw [hu1, hu2, hv1, hv2]; grind
 have e3 : (u1 * u1 + u2 * u2) * (v1 * v1 + v2 * v2) = 0 := by
  have : (u1 * u1 + u2 * u2) * (v1 * v1 + v2 * v2) = (u1 * v1 + u2 * v2) * (u1 * v1 + u2 * v2) + (u2 * v1 - u1 * v2) * (u2 * v1 - u1 * v2) := by grind
  rw [this, e1, e2]; rfl
 have sq : ∀ x y : Int, x * x + y * y = 0 → x = 0 ∧ y = 0 := fun x y h => by
  have sqp : ∀ z : Int, 0 ≤ z * z := fun z => by
   rcases Int.le_total 0 z with h | h
   ·
    exact Int.mul_nonneg h h
   ·
    exact Int.mul_nonneg_of_nonpos_of_nonpos h h
  have p1 := sqp x
  have p2 := sqp y
  have q1 : x * x = 0 := by omega
  have q2 : y * y = 0 := by omega
  exact ⟨(Int.mul_eq_zero.1 q1).elim id id, (Int.mul_eq_zero.1 q2).elim id id⟩
 rcases Int.mul_eq_zero.1 e3 with h | h
 ·
  obtain ⟨p, q⟩ := sq _ _ h; exact h1 ⟨by omega, by omega⟩
 ·
  obtain ⟨p, q⟩ := sq _ _ h; exact h2 ⟨by omega, by omega⟩
theorem rad_sz {a b c : Pt} (ha : ptOk a = true) (hb : ptOk b = true) (hc : ptOk c = true) : szR (radQ a b c) 20 := by
 by_cases h : crossI a b c = 0
 ·
  unfold radQ; rw [if_pos h]; exact szR_mono (szR_int (n := 0) (k := 1) (by unfold b64; decide) (by omega)) (by omega)
 ·
  unfold radQ
  rw [if_neg h]
  refine szR_mono (szR_div (szR_mul (szR_mul (cd_range ha hb hb).2 (cd_range hb hc hc).2) (cd_range hc ha ha).2) (szR_mul (szR_mul (i64_szR 4 (by omega) (by omega) 1 (by omega)) (cd_range ha hb hc).1) (cd_range ha hb hc).1) ?_) (by omega)
  rw [← Rat.intCast_mul, ← Rat.intCast_mul, Rat.num_intCast]
  have := Int.mul_ne_zero (Int.mul_ne_zero (show (4 : Int) ≠ 0 by omega) h) h
  omega
end Go.Proofs.Ytgmpekhiohbakaa

namespace Go.Proofs.Ytgmpekhiohbakaa
open Go.RowKit

/-! The plain part: the reference's tests of a course. -/
def crsCells : List Crs → List Value
 | [] => []
 | c :: l => .int .i64 c.first :: .int .i64 c.tows :: .int .i64 c.width :: .int .i64 c.gap :: .int .i64 c.from_ :: .int .i64 c.to_ :: crsCells l
theorem crsCells_get (ls : List Crs) : ∀ i, i < ls.length → (crsCells ls)[i * 6]? = some (.int .i64 (ls.getD i crs0).first) ∧ (crsCells ls)[i * 6 + 1]? = some (.int .i64 (ls.getD i crs0).tows) ∧ (crsCells ls)[i * 6 + 2]? = some (.int .i64 (ls.getD i crs0).width) ∧ (crsCells ls)[i * 6 + 3]? = some (.int .i64 (ls.getD i crs0).gap) ∧ (crsCells ls)[i * 6 + 4]? = some (.int .i64 (ls.getD i crs0).from_) ∧ (crsCells ls)[i * 6 + 5]? = some (.int .i64 (ls.getD i crs0).to_) := by
 induction ls with
 | nil => intro i hi; simp at hi
 | cons r l ih =>
  intro i hi
  cases i with
  | zero => simp [crsCells]
  | succ i =>
   have := ih i (by simpa using hi)
   simpa [crsCells, Nat.succ_mul] using this
theorem CrsOf.ofRow {w : World} {base : Nat} {e : TypeId} {v : Value} {ls : List Crs} (h : LRow w base e 6 v ls.length (crsCells ls)) : CrsOf w v ls := by
 rcases Nat.eq_zero_or_pos ls.length with h0 | hp
 ·
  rcases h.1.2 with ⟨rfl, _⟩ | ⟨g, cap, cur, rfl, _⟩
  ·
   exact ⟨none, 0, by rw [h0], fun h => absurd h (by omega)⟩
  ·
   exact ⟨_, _, rfl, fun h => absurd h (by omega)⟩
 ·
  obtain ⟨g, cap, rfl⟩ := ownsRow_some h.1 hp
  have hc : ∀ j u, (crsCells ls)[j]? = some u → w.cell? ((⟨g, 0, none⟩ : Addr).add j) = some u := h.1.cells (g := g) rfl
  have hlt : g < w.heap.size := (h.lt rfl).1
  refine ⟨_, _, rfl, fun _ => ⟨g, 0, rfl, hlt, fun i hi => ?_⟩⟩
  obtain ⟨h0, h1, h2, h3, h4, h5⟩ := crsCells_get ls i hi
  have ea : ∀ j, (⟨g, 0, none⟩ : Addr).add j = ⟨g, 0 + j, none⟩ := fun j => by unfold Addr.add; split <;> simp_all
  refine ⟨?_, ?_, ?_, ?_, ?_, ?_⟩
  ·
   rw [← ea]; exact hc _ _ h0
  all_goals rw [Nat.add_assoc, ← ea]
  ·
   exact hc _ _ h1
  ·
   exact hc _ _ h2
  ·
   exact hc _ _ h3
  ·
   exact hc _ _ h4
  ·
   exact hc _ _ h5
end Go.Proofs.Ytgmpekhiohbakaa

namespace Go.Proofs.Ytgmpekhiohbakaa
open Go.RowKit

def FrcAt (R : World → Value → Rat → Prop) (w : World) (b o : Nat) (q : Rat) : Prop :=
 ∃ v0 vn vd, w.cell? ⟨b, o, none⟩ = some v0 ∧ w.cell? ⟨b, o + 1, none⟩ = some vn ∧ w.cell? ⟨b, o + 2, none⟩ = some vd ∧ R w (.agg #[v0, vn, vd]) q
def FrcsOf (R : World → Value → Rat → Prop) (w : World) (v : Value) (qs : List Rat) : Prop :=
 ∃ ao cap, v = .slice ao qs.length cap ∧ (0 < qs.length → ∃ b off, ao = some ⟨b, off, none⟩ ∧ b < w.heap.size ∧ ∀ i, i < qs.length → FrcAt R w b (off + i * 3) (qs.getD i 0))
theorem FrcAt.below {R : World → Value → Rat → Prop} (hR : ∀ w w' v q, R w v q → Below w.heap.size w w' → R w' v q) {w w' : World} {b o : Nat} {q : Rat} (h : FrcAt R w b o q) (hb : Below w.heap.size w w') (hl : b < w.heap.size) : FrcAt R w' b o q := by
 obtain ⟨v0, vn, vd, h0, h1, h2, h4⟩ := h
 have c : ∀ j v, w.cell? ⟨b, j, none⟩ = some v → w'.cell? ⟨b, j, none⟩ = some v := fun j v h => (hb.cell (p := ⟨b, j, none⟩) hl).trans h
 exact ⟨v0, vn, vd, c _ _ h0, c _ _ h1, c _ _ h2, hR _ _ _ _ h4 hb⟩
theorem FrcsOf.below {R : World → Value → Rat → Prop} (hR : ∀ w w' v q, R w v q → Below w.heap.size w w' → R w' v q) {w w' : World} {v : Value} {qs : List Rat} (h : FrcsOf R w v qs) (hb : Below w.heap.size w w') : FrcsOf R w' v qs := by
 obtain ⟨ao, cap, rfl, h⟩ := h
 refine ⟨ao, cap, rfl, fun hl => ?_⟩
 obtain ⟨b, off, rfl, hlt, h⟩ := h hl
 exact ⟨b, off, rfl, Nat.lt_of_lt_of_le hlt hb.size, fun i hi => (h i hi).below hR hb hlt⟩

end Go.Proofs.Ytgmpekhiohbakaa

namespace Go.Proofs.Ytgmpekhiohbakaa

structure Rn where
 ph : Int
 be : Int
 mi : Int
 wa : Int
 l0 : Bool
 l1 : Bool
 l2 : Bool
 te : Bool
structure Ru where
 m0 : Int
 m1 : Int
 m2 : Int
 pa : Int
 t00 : Int
 t01 : Int
 t02 : Int
 t10 : Int
 t11 : Int
 t12 : Int
 t20 : Int
 t21 : Int
 t22 : Int

def Ru.mn (r : Ru) (p : Int) : Int := if p = 1 then r.m0 else if p = 2 then r.m1 else r.m2
def Ru.tb (r : Ru) (p : Int) (d : Nat) : Int :=
 if p = 1 then (if d = 0 then r.t00 else if d = 1 then r.t01 else r.t02)
 else if p = 2 then (if d = 0 then r.t10 else if d = 1 then r.t11 else r.t12)
 else (if d = 0 then r.t20 else if d = 1 then r.t21 else r.t22)
def Rn.lost (x : Rn) (d : Nat) : Bool := if d = 0 then x.l0 else if d = 1 then x.l1 else x.l2
def Rn.lose (x : Rn) (d : Nat) (b : Bool) : Rn := if d = 0 then { x with l0 := b } else if d = 1 then { x with l1 := b } else { x with l2 := b }

def inR (n lo hi : Int) : Bool := decide (lo ≤ n) && decide (n ≤ hi)
structure GoodRules (r : Ru) : Prop where
 pa : 0 ≤ r.pa ∧ r.pa ≤ 256
 m0 : 1 ≤ r.m0 ∧ r.m0 ≤ 256
 m1 : 1 ≤ r.m1 ∧ r.m1 ≤ 256
 m2 : 1 ≤ r.m2 ∧ r.m2 ≤ 256
 t00 : 0 ≤ r.t00 ∧ r.t00 ≤ 3
 t01 : 0 ≤ r.t01 ∧ r.t01 ≤ 3
 t02 : 0 ≤ r.t02 ∧ r.t02 ≤ 3
 t10 : 0 ≤ r.t10 ∧ r.t10 ≤ 3
 t11 : 0 ≤ r.t11 ∧ r.t11 ≤ 3
 t12 : 0 ≤ r.t12 ∧ r.t12 ≤ 3
 t20 : 0 ≤ r.t20 ∧ r.t20 ≤ 3
 t21 : 0 ≤ r.t21 ∧ r.t21 ≤ 3
 t22 : 0 ≤ r.t22 ∧ r.t22 ≤ 3
theorem GoodRules.mn {r : Ru} (h : GoodRules r) (p : Int) : 1 ≤ r.mn p ∧ r.mn p ≤ 256 := by
 unfold Ru.mn
 split
 ·
  exact h.m0
 ·
  split
  ·
   exact h.m1
  ·
   exact h.m2
theorem GoodRules.tb {r : Ru} (h : GoodRules r) (p : Int) (d : Nat) : 0 ≤ r.tb p d ∧ r.tb p d ≤ 3 := by
 have ⟨_, _, _, _, a, b, c, d', e, f, g, i, j⟩ := h
 unfold Ru.tb
 split
 ·
  split
  ·
   exact a
  ·
   split
   ·
    exact b
   ·
    exact c
 ·
  split
  ·
   split
   ·
    exact d'
   ·
    split
    ·
     exact e
    ·
     exact f
  ·
   split
   ·
    exact g
   ·
    split
    ·
     exact i
    ·
     exact j

def goes (p : Int) : Bool := inR p 1 3
def heldAt (r : Ru) (x : Rn) (p : Int) : Bool := x.l0 && decide (r.tb p 0 = 2) || (x.l1 && decide (r.tb p 1 = 2) || x.l2 && decide (r.tb p 2 = 2))
def right (r : Ru) (x : Rn) : Bool :=
 if inR x.ph 0 7 then
  if x.ph = 4 then inR x.be 1 3 && (inR x.mi 0 (r.mn x.be - 1) && (inR x.wa 0 r.pa && heldAt r x x.be))
  else if x.be = 0 ∧ x.wa = 0 then (if goes x.ph then inR x.mi 0 (r.mn x.ph - 1) else decide (x.mi = 0))
  else false
 else false
def Right (r : Ru) (x : Rn) : Prop :=
 (x.ph = 4 ∧ (1 ≤ x.be ∧ x.be ≤ 3) ∧ (0 ≤ x.mi ∧ x.mi < r.mn x.be) ∧ (0 ≤ x.wa ∧ x.wa ≤ r.pa) ∧ heldAt r x x.be = true)
 ∨ (x.be = 0 ∧ x.wa = 0 ∧ (1 ≤ x.ph ∧ x.ph ≤ 3) ∧ (0 ≤ x.mi ∧ x.mi < r.mn x.ph))
 ∨ (x.be = 0 ∧ x.wa = 0 ∧ x.mi = 0 ∧ (x.ph = 0 ∨ x.ph = 5 ∨ x.ph = 6 ∨ x.ph = 7))
def ended (x : Rn) (p : Int) : Rn := { x with ph := p, be := 0, mi := 0, wa := 0 }
def inPh (x : Rn) : Int := if x.ph = 4 then x.be else x.ph
def meet (r : Ru) (x : Rn) (d : Nat) : Rn :=
 if goes (inPh x) then
  if r.tb (inPh x) d = 3 then ended x 7
  else if r.tb (inPh x) d = 1 then { x with te := true }
  else if r.tb (inPh x) d = 2 then (if goes x.ph then { x with be := x.ph, ph := 4 } else x)
  else x
 else x
def meetIf (r : Ru) (x : Rn) (d : Nat) : Rn := if x.lost d then meet r x d else x
def begin (r : Ru) (x : Rn) (p : Int) : Rn := meetIf r (meetIf r (meetIf r { x with ph := p, mi := 0 } 0) 1) 2
def tick (r : Ru) (x : Rn) : Rn :=
 if x.ph = 4 then (if r.pa < x.wa + 1 then ended { x with wa := x.wa + 1 } 7 else { x with wa := x.wa + 1 })
 else if goes x.ph then
  if x.mi + 1 < r.mn x.ph then { x with mi := x.mi + 1 }
  else if x.ph < 3 then begin r { x with mi := x.mi + 1 } (x.ph + 1)
  else if x.te then ended { x with mi := x.mi + 1 } 6
  else ended { x with mi := x.mi + 1 } 5
 else x
def dOf (e : Int) : Nat := ((e - 2) / 2).toNat
def lostOf (e : Int) : Bool := decide (e % 2 = 0)
def unheld (r : Ru) (x : Rn) : Rn := if x.ph = 4 ∧ heldAt r x x.be = false then { x with ph := x.be, be := 0, wa := 0 } else x
def next (r : Ru) (x : Rn) (e : Int) : Option Rn :=
 if e = 0 then some (tick r x)
 else if e = 1 then (if x.ph = 0 then some (begin r { x with te := false } 1) else none)
 else if inR x.ph 0 4 = false ∨ x.lost (dOf e) = lostOf e then none
 else if lostOf e then some (meet r (x.lose (dOf e) true) (dOf e))
 else some (unheld r (x.lose (dOf e) false))
end Go.Proofs.Ytgmpekhiohbakaa

namespace Go.Proofs.Ytgmpekhiohbakaa

theorem Right.wa {r : Ru} {x : Rn} (h : Right r x) : x.ph ≠ 4 → x.wa = 0 := by
 rcases h with ⟨a, b, c, d, e⟩ | ⟨a, b, c, d⟩ | ⟨a, b, c, d⟩ <;> omega
end Go.Proofs.Ytgmpekhiohbakaa

namespace Go.Proofs.Ytgmpekhiohbakaa
open Go.RowKit

theorem below1 (w : World) (o : Obj) : Below w.heap.size w (w.alloc o) := (Below.refl w.heap.size w).alloc (Nat.le_refl _) o
end Go.Proofs.Ytgmpekhiohbakaa

namespace Go.Proofs.Ytgmpekhiohbakaa
open Go.RowKit

def hB (r : Ru) (x : Rn) (p : Int) (d : Nat) : Bool := x.lost d && decide (r.tb p d = 2)
end Go.Proofs.Ytgmpekhiohbakaa

namespace Go.Proofs.Ytgmpekhiohbakaa
open Go.RowKit

def IntsOf (w : World) (v : Value) (es : List Int) : Prop :=
 ∃ ao cap, v = .slice ao es.length cap ∧ (0 < es.length → ∃ b off, ao = some ⟨b, off, none⟩ ∧ b < w.heap.size ∧ ∀ i, i < es.length → w.cell? ⟨b, off + i, none⟩ = some (.int .i64 (es.getD i 0)))
theorem IntsOf.below {w w' : World} {v : Value} {es : List Int} (h : IntsOf w v es) (hb : Below w.heap.size w w') : IntsOf w' v es := by
 obtain ⟨ao, cap, rfl, h⟩ := h
 refine ⟨ao, cap, rfl, fun hl => ?_⟩
 obtain ⟨b, off, rfl, hlt, h⟩ := h hl
 exact ⟨b, off, rfl, Nat.lt_of_lt_of_le hlt hb.size, fun i hi => (hb.cell (p := ⟨b, off + i, none⟩) hlt).trans (h i hi)⟩
end Go.Proofs.Ytgmpekhiohbakaa

namespace Go.Proofs.Ytgmpekhiohbakaa
open Go.RowKit

structure R3 where
 b : Bool
 a : Option Addr
 n : Nat
 c : Nat
 d : Option Addr
 m : Nat
 e : Nat
abbrev R3.arr (x : R3) : Array Value := #[.bool x.b, .slice x.a x.n x.c, .slice x.d x.m x.e]
abbrev R3.val (x : R3) : Value := .agg #[.bool x.b, .slice x.a x.n x.c, .slice x.d x.m x.e]
abbrev rngV (x y : R3) : Value := .agg #[.bool x.b, .slice x.a x.n x.c, .slice x.d x.m x.e, .bool y.b, .slice y.a y.n y.c, .slice y.d y.m y.e]
def r30 : R3 := ⟨false, none, 0, 0, none, 0, 0⟩
theorem IsRat.open3 {w : World} {v : Value} {q : Rat} (h : IsRat w v q) : ∃ x : R3, v = x.val := by
 obtain ⟨a1, c1, a2, c2, rfl, _, _⟩ := h.opened
 exact ⟨⟨_, _, _, _, _, _, _⟩, rfl⟩
def IsRng (w : World) (v : Value) (lo hi : Rat) : Prop := ∃ x y : R3, v = rngV x y ∧ IsRat w x.val lo ∧ IsRat w y.val hi
theorem IsRng.below {w w' : World} {v : Value} {lo hi : Rat} (h : IsRng w v lo hi) (hb : Below w.heap.size w w') : IsRng w' v lo hi := by
 obtain ⟨x, y, rfl, h1, h2⟩ := h
 exact ⟨x, y, rfl, h1.below hb, h2.below hb⟩
theorem IsRat.setj {w : World} {v : Value} {q : Rat} {B T : Nat} {cs : Array Value} (h : IsRat w v q) (hB : w.heap[B]? = some (.cells cs T (0, 0))) (hn : noInt cs) (j : Nat) (u : Value) : IsRat (w.setCell ⟨B, j, none⟩ u) v q := by
 obtain ⟨vn, vd, rfl, h1, h2⟩ := h
 exact ⟨vn, vd, rfl, IsRow.set_other h1 hB hn j u, IsRow.set_other h2 hB hn j u⟩
theorem ni3 (b1 : Bool) (a1 : Option Addr) (n1 c1 : Nat) (d1 : Option Addr) (m1 e1 : Nat) : noInt #[.bool b1, .slice a1 n1 c1, .slice d1 m1 e1] := by
 intro i k x
 match i with
 | 0 => simp
 | 1 => simp
 | 2 => simp
 | i + 3 => simp
theorem set3r {w : World} {B T : Nat} {p x : R3} (h : w.heap[B]? = some (.cells #[.bool p.b, .slice p.a p.n p.c, .slice p.d p.m p.e] T (0, 0))) : ((((w.setCell ⟨B, 0, none⟩ (.bool x.b)).setCell ⟨B, 1, none⟩ (.slice x.a x.n x.c)).setCell ⟨B, 2, none⟩ (.slice x.d x.m x.e))).heap[B]? = some (.cells #[.bool x.b, .slice x.a x.n x.c, .slice x.d x.m x.e] T (0, 0)) := by
 have h0 : (w.setCell ⟨B, 0, none⟩ (.bool x.b)).heap[B]? = some (.cells #[.bool x.b, .slice p.a p.n p.c, .slice p.d p.m p.e] T (0, 0)) := blk_set h 0 _
 have h1 : ((w.setCell ⟨B, 0, none⟩ (.bool x.b)).setCell ⟨B, 1, none⟩ (.slice x.a x.n x.c)).heap[B]? = some (.cells #[.bool x.b, .slice x.a x.n x.c, .slice p.d p.m p.e] T (0, 0)) := blk_set h0 1 _
 have h2 : (((w.setCell ⟨B, 0, none⟩ (.bool x.b)).setCell ⟨B, 1, none⟩ (.slice x.a x.n x.c)).setCell ⟨B, 2, none⟩ (.slice x.d x.m x.e)).heap[B]? = some (.cells #[.bool x.b, .slice x.a x.n x.c, .slice x.d x.m x.e] T (0, 0)) := blk_set h1 2 _
 exact h2
theorem IsRat.set3r {w : World} {v : Value} {r : Rat} {B T : Nat} {p x : R3} (i : IsRat w v r) (h : w.heap[B]? = some (.cells #[.bool p.b, .slice p.a p.n p.c, .slice p.d p.m p.e] T (0, 0))) : IsRat ((((w.setCell ⟨B, 0, none⟩ (.bool x.b)).setCell ⟨B, 1, none⟩ (.slice x.a x.n x.c)).setCell ⟨B, 2, none⟩ (.slice x.d x.m x.e))) v r := by
 have h0 : (w.setCell ⟨B, 0, none⟩ (.bool x.b)).heap[B]? = some (.cells #[.bool x.b, .slice p.a p.n p.c, .slice p.d p.m p.e] T (0, 0)) := blk_set h 0 _
 have h1 : ((w.setCell ⟨B, 0, none⟩ (.bool x.b)).setCell ⟨B, 1, none⟩ (.slice x.a x.n x.c)).heap[B]? = some (.cells #[.bool x.b, .slice x.a x.n x.c, .slice p.d p.m p.e] T (0, 0)) := blk_set h0 1 _
 have h2 : (((w.setCell ⟨B, 0, none⟩ (.bool x.b)).setCell ⟨B, 1, none⟩ (.slice x.a x.n x.c)).setCell ⟨B, 2, none⟩ (.slice x.d x.m x.e)).heap[B]? = some (.cells #[.bool x.b, .slice x.a x.n x.c, .slice x.d x.m x.e] T (0, 0)) := blk_set h1 2 _
 have i0 := i.setj h (by exact ni3 _ _ _ _ _ _ _) 0 (.bool x.b)
 have i1 := i0.setj h0 (by exact ni3 _ _ _ _ _ _ _) 1 (.slice x.a x.n x.c)
 have i2 := i1.setj h1 (by exact ni3 _ _ _ _ _ _ _) 2 (.slice x.d x.m x.e)
 exact i2
theorem below3r {n : Nat} {w0 w : World} {B : Nat} {x : R3} (h : Below n w0 w) (hB : n ≤ B) : Below n w0 ((((w.setCell ⟨B, 0, none⟩ (.bool x.b)).setCell ⟨B, 1, none⟩ (.slice x.a x.n x.c)).setCell ⟨B, 2, none⟩ (.slice x.d x.m x.e))) :=
 ((h.setCell (p := ⟨B, 0, none⟩) hB _).setCell (p := ⟨B, 1, none⟩) hB _).setCell (p := ⟨B, 2, none⟩) hB _
theorem fac3 {w : World} {B T : Nat} {x : R3} (h : w.heap[B]? = some (.cells #[.bool x.b, .slice x.a x.n x.c, .slice x.d x.m x.e] T (0, 0))) : w.cell? ⟨B, 0, none⟩ = some (.bool x.b) ∧ w.cell? ⟨B, 1, none⟩ = some (.slice x.a x.n x.c) ∧ w.cell? ⟨B, 2, none⟩ = some (.slice x.d x.m x.e) ∧ w.frozen? ⟨B, 0, none⟩ = false ∧ w.frozen? ⟨B, 1, none⟩ = false ∧ w.frozen? ⟨B, 2, none⟩ = false :=
 ⟨blk_cell h 0 _ rfl, blk_cell h 1 _ rfl, blk_cell h 2 _ rfl, blk_frozen h 0, blk_frozen h 1, blk_frozen h 2⟩
end Go.Proofs.Ytgmpekhiohbakaa

namespace Go.Proofs.Ytgmpekhiohbakaa
open Go.RowKit

theorem signR_any (q : Rat) (v : Value) (w : World) (h : IsRat w v q) : Calls Try.prog 29 #[v] w (RetInt (sgnI (decide (q.num < 0)) q.num.natAbs) w) := by
 obtain ⟨a1, c1, a2, c2, rfl, _, _⟩ := h.opened
 exact sign_any _ _ _ _ _ _ _ _
end Go.Proofs.Ytgmpekhiohbakaa

namespace Go.Proofs.Ytgmpekhiohbakaa
open Go.RowKit

theorem IsR.open3 {w : World} {v : Value} {q : Rat} (h : IsR w v q) : ∃ x : R3, v = x.val := by
 obtain ⟨d', a1, c1, a2, c2, rfl, _⟩ := h.opened
 exact ⟨⟨_, _, _, _, _, _, _⟩, rfl⟩
end Go.Proofs.Ytgmpekhiohbakaa

namespace Go.Proofs.Ytgmpekhiohbakaa
open Go.RowKit

theorem IsRat.grown3 {w w' : World} {v : Value} {q : Rat} {row : Option Nat} (h : IsRat w v q) (hg : w.grownBy w' row) (hr : ∀ g, row = some g → NoDig w g) : IsRat w' v q := by
 obtain ⟨vn, vd, rfl, h1, h2⟩ := h
 exact ⟨vn, vd, rfl, IsRow.grown (.inl rfl) h1 hg hr, IsRow.grown (.inl rfl) h2 hg hr⟩
theorem IsR.grown3 {w w' : World} {v : Value} {q : Rat} {row : Option Nat} (h : IsR w v q) (hg : w.grownBy w' row) (hr : ∀ g, row = some g → NoDig w g) : IsR w' v q := by
 obtain ⟨vn, vd, d', rfl, h1, h2, h3⟩ := h
 exact ⟨vn, vd, d', rfl, IsRow.grown (.inr rfl) h1 hg hr, IsRow.grown (.inr rfl) h2 hg hr, h3⟩

def FrcRow (R : World → Value → Rat → Prop) (w : World) (xs : List Value) (es : List Rat) : Prop :=
 xs.length = es.length * 3 ∧ ∀ j, j < es.length → ∃ v0 vn vd, xs[j * 3]? = some v0 ∧ xs[j * 3 + 1]? = some vn ∧ xs[j * 3 + 2]? = some vd ∧ R w (.agg #[v0, vn, vd]) (es.getD j 0)
theorem FrcRow.mono {R : World → Value → Rat → Prop} {w w' : World} {xs : List Value} {es : List Rat} (h : FrcRow R w xs es) (hr : ∀ v q, R w v q → R w' v q) : FrcRow R w' xs es :=
 ⟨h.1, fun j hj => by obtain ⟨v0, vn, vd, h0, h1, h2, h4⟩ := h.2 j hj; exact ⟨v0, vn, vd, h0, h1, h2, hr _ _ h4⟩⟩
theorem FrcRow.nil (R : World → Value → Rat → Prop) (w : World) : FrcRow R w [] [] := ⟨rfl, fun j hj => absurd hj (by simp)⟩
theorem FrcRow.snoc {R : World → Value → Rat → Prop} {w : World} {xs : List Value} {es : List Rat} (h : FrcRow R w xs es) {v0 vn vd : Value} {q : Rat} (hq : R w (.agg #[v0, vn, vd]) q) :
  FrcRow R w (xs ++ [v0, vn, vd]) (es ++ [q]) := by
 obtain ⟨hl, h⟩ := h
 refine ⟨by simp [hl]; omega, fun j hj => ?_⟩
 rcases Nat.lt_or_ge j es.length with h1 | h1
 ·
  obtain ⟨u0, un, ud, h0, h2, h3, h5⟩ := h j h1
  have e : ∀ k, k < 3 → (xs ++ [v0, vn, vd])[j * 3 + k]? = xs[j * 3 + k]? := fun k hk => List.getElem?_append_left (by omega)
  have e2 : (es ++ [q]).getD j 0 = es.getD j 0 := by simp [List.getD, List.getElem?_append_left h1]
  rw [e2]
  exact ⟨u0, un, ud, by rw [← h0]; exact e 0 (by omega), by rw [← h2]; exact e 1 (by omega), by rw [← h3]; exact e 2 (by omega), h5⟩
 ·
  obtain rfl : j = es.length := by simp at hj; omega
  have e : ∀ k, (xs ++ [v0, vn, vd])[es.length * 3 + k]? = ([v0, vn, vd] : List Value)[k]? := fun k => by rw [List.getElem?_append_right (by omega), hl]; congr 1; omega
  have e2 : (es ++ [q]).getD es.length 0 = q := by simp [List.getD]
  rw [e2]
  exact ⟨v0, vn, vd, e 0, e 1, e 2, hq⟩
theorem FrcsOf.ofRow {R : World → Value → Rat → Prop} {w : World} {base : Nat} {e : TypeId} {v : Value} {xs : List Value} {es : List Rat} (h : LRow w base e 3 v es.length xs) (ht : FrcRow R w xs es) : FrcsOf R w v es := by
 rcases Nat.eq_zero_or_pos es.length with h0 | hp
 ·
  rcases h.1.2 with ⟨rfl, _⟩ | ⟨g, cap, cur, rfl, _⟩
  ·
   exact ⟨none, 0, by rw [h0], fun h => absurd h (by omega)⟩
  ·
   exact ⟨_, _, rfl, fun h => absurd h (by omega)⟩
 ·
  obtain ⟨g, cap, rfl⟩ := ownsRow_some h.1 hp
  have hc : ∀ j u, xs[j]? = some u → w.cell? ((⟨g, 0, none⟩ : Addr).add j) = some u := h.1.cells (g := g) rfl
  have hlt : g < w.heap.size := (h.lt rfl).1
  refine ⟨_, _, rfl, fun _ => ⟨g, 0, rfl, hlt, fun i hi => ?_⟩⟩
  obtain ⟨v0, vn, vd, h0, h1, h2, h4⟩ := ht.2 i hi
  have ea : ∀ j, (⟨g, 0, none⟩ : Addr).add j = ⟨g, 0 + j, none⟩ := fun j => by unfold Addr.add; split <;> simp_all
  refine ⟨v0, vn, vd, ?_, ?_, ?_, h4⟩
  ·
   rw [← ea]; exact hc _ _ h0
  ·
   rw [show 0 + i * 3 + 1 = 0 + (i * 3 + 1) by omega, ← ea]; exact hc _ _ h1
  ·
   rw [show 0 + i * 3 + 2 = 0 + (i * 3 + 2) by omega, ← ea]; exact hc _ _ h2
theorem ownBlock_base3 {w : World} {base : Nat} {e : TypeId} {size : Nat} {v : Value} {n : Nat} {xs : List Value} (h : w.ownsRow base e size v n xs) : ∀ k, v.ownBlock = some k → base ≤ k := by
 intro k hk
 rcases h.2 with ⟨rfl, _⟩ | ⟨g, cap, cur, rfl, hb, _⟩
 ·
  simp [Value.ownBlock] at hk
 ·
  simp [Value.ownBlock] at hk
  omega
end Go.Proofs.Ytgmpekhiohbakaa

namespace Go.Proofs.Ytgmpekhiohbakaa
open Go.RowKit

theorem IsR.setj {w : World} {v : Value} {q : Rat} {B T : Nat} {cs : Array Value} (h : IsR w v q) (hB : w.heap[B]? = some (.cells cs T (0, 0))) (hn : noInt cs) (j : Nat) (u : Value) : IsR (w.setCell ⟨B, j, none⟩ u) v q := by
 obtain ⟨vn, vd, d', rfl, h1, h2, h3⟩ := h
 exact ⟨vn, vd, d', rfl, IsRow.set_other h1 hB hn j u, IsRow.set_other h2 hB hn j u, h3⟩
theorem IsR.set3r {w : World} {v : Value} {r : Rat} {B T : Nat} {p x : R3} (i : IsR w v r) (h : w.heap[B]? = some (.cells #[.bool p.b, .slice p.a p.n p.c, .slice p.d p.m p.e] T (0, 0))) : IsR ((((w.setCell ⟨B, 0, none⟩ (.bool x.b)).setCell ⟨B, 1, none⟩ (.slice x.a x.n x.c)).setCell ⟨B, 2, none⟩ (.slice x.d x.m x.e))) v r := by
 have h0 : (w.setCell ⟨B, 0, none⟩ (.bool x.b)).heap[B]? = some (.cells #[.bool x.b, .slice p.a p.n p.c, .slice p.d p.m p.e] T (0, 0)) := blk_set h 0 _
 have h1 : ((w.setCell ⟨B, 0, none⟩ (.bool x.b)).setCell ⟨B, 1, none⟩ (.slice x.a x.n x.c)).heap[B]? = some (.cells #[.bool x.b, .slice x.a x.n x.c, .slice p.d p.m p.e] T (0, 0)) := blk_set h0 1 _
 have h2 : (((w.setCell ⟨B, 0, none⟩ (.bool x.b)).setCell ⟨B, 1, none⟩ (.slice x.a x.n x.c)).setCell ⟨B, 2, none⟩ (.slice x.d x.m x.e)).heap[B]? = some (.cells #[.bool x.b, .slice x.a x.n x.c, .slice x.d x.m x.e] T (0, 0)) := blk_set h1 2 _
 have i0 := i.setj h (by exact ni3 _ _ _ _ _ _ _) 0 (.bool x.b)
 have i1 := i0.setj h0 (by exact ni3 _ _ _ _ _ _ _) 1 (.slice x.a x.n x.c)
 have i2 := i1.setj h1 (by exact ni3 _ _ _ _ _ _ _) 2 (.slice x.d x.m x.e)
 exact i2
def IsRngQ (w : World) (v : Value) (lo hi : Rat) : Prop := ∃ x y : R3, v = rngV x y ∧ IsR w x.val lo ∧ IsR w y.val hi
theorem IsRngQ.below {w w' : World} {v : Value} {lo hi : Rat} (h : IsRngQ w v lo hi) (hb : Below w.heap.size w w') : IsRngQ w' v lo hi := by
 obtain ⟨x, y, rfl, h1, h2⟩ := h
 exact ⟨x, y, rfl, h1.below hb, h2.below hb⟩
def hiQ (a b : Rat) : Rat := if cmpR a b ≥ 0 then a else b
end Go.Proofs.Ytgmpekhiohbakaa

namespace Go.Proofs.Ytgmpekhiohbakaa
open Go.RowKit

abbrev Bx := Nat × Array Value × Nat
def plainV : Value → Bool
 | .int .u64 _ => false
 | .int .u32 _ => false
 | _ => true
def Fr (p : Bool) (w : World) (v : Value) (q : Rat) : Prop := if p then IsRat w v q else IsR w v q
abbrev Fx := Bool × Value × Rat
structure Sx (w0 w : World) (bs : List Bx) (fs : List Fx) : Prop where
 bel : Below w0.heap.size w0 w
 box : ∀ (i : Nat) (b : Bx), bs[i]? = some b → w.heap[b.1]? = some (.cells b.2.1 b.2.2 (0, 0)) ∧ w0.heap.size ≤ b.1 ∧ b.2.1.toList.all plainV = true
 nod : (bs.map (·.1)).Nodup
 fra : ∀ (i : Nat) (f : Fx), fs[i]? = some f → Fr f.1 w f.2.1 f.2.2
theorem IsRow.set_plain {k : IntKind} {w : World} {v : Value} {ds : List Nat} {B T : Nat} {cs : Array Value} (hk : k = .u64 ∨ k = .u32) (h : IsRow k w v ds) (hB : w.heap[B]? = some (.cells cs T (0, 0))) (hn : cs.toList.all plainV = true) (j : Nat) (u : Value) :
  IsRow k (w.setCell ⟨B, j, none⟩ u) v ds := by
 rcases h with h | ⟨h0, b, off, cap, rfl, h1, h2, h3, h4⟩
 ·
  exact .inl h
 ·
  have hne : b ≠ B := by
   rintro rfl
   have := h4 0 h0
   rw [cell_of_row w b (off + 0) cs T (0, 0) hB] at this
   have hm := List.all_eq_true.1 hn _ (Array.mem_toList_iff.2 (Array.mem_of_getElem? this))
   rcases hk with rfl | rfl <;> exact absurd hm (by simp [plainV])
  refine .inr ⟨h0, b, off, cap, rfl, h1, h2, by simpa [World.setCell] using h3, fun i hi => ?_⟩
  rw [← h4 i hi]
  exact World.cell?_of_block (w := w) (heap_setCell_other w ⟨B, j, none⟩ b u hne)
theorem Fr.set {p : Bool} {w : World} {v : Value} {q : Rat} {B T : Nat} {cs : Array Value} (h : Fr p w v q) (hB : w.heap[B]? = some (.cells cs T (0, 0))) (hn : cs.toList.all plainV = true) (j : Nat) (u : Value) : Fr p (w.setCell ⟨B, j, none⟩ u) v q := by
 cases p with
 | true =>
  obtain ⟨vn, vd, rfl, h1, h2⟩ := (h : IsRat w v q)
  exact (⟨vn, vd, rfl, IsRow.set_plain (.inl rfl) h1 hB hn j u, IsRow.set_plain (.inl rfl) h2 hB hn j u⟩ : IsRat _ _ _)
 | false =>
  obtain ⟨vn, vd, d', rfl, h1, h2, h3⟩ := (h : IsR w v q)
  exact (⟨vn, vd, d', rfl, IsRow.set_plain (.inr rfl) h1 hB hn j u, IsRow.set_plain (.inr rfl) h2 hB hn j u, h3⟩ : IsR _ _ _)
theorem Fr.below {p : Bool} {w w' : World} {v : Value} {q : Rat} (h : Fr p w v q) (hb : Below w.heap.size w w') : Fr p w' v q := by
 cases p with
 | true => exact IsRat.below (h : IsRat w v q) hb
 | false => exact IsR.below (h : IsR w v q) hb
theorem Sx.init (w : World) : Sx w w [] [] := ⟨Below.refl _ _, fun i b h => by simp at h, by simp, fun i f h => by simp at h⟩
theorem Sx.p {w0 w : World} {bs : List Bx} {fs : List Fx} (h : Sx w0 w bs fs) (i : Nat) (v : Value) (q : Rat) (hi : fs[i]? = some (true, v, q)) : IsRat w v q := h.fra i _ hi
theorem Sx.q {w0 w : World} {bs : List Bx} {fs : List Fx} (h : Sx w0 w bs fs) (i : Nat) (v : Value) (q : Rat) (hi : fs[i]? = some (false, v, q)) : IsR w v q := h.fra i _ hi
theorem Sx.at {w0 w : World} {bs : List Bx} {fs : List Fx} (h : Sx w0 w bs fs) (i : Nat) (B T : Nat) (cs : Array Value) (hi : bs[i]? = some (B, cs, T)) : w.heap[B]? = some (.cells cs T (0, 0)) := (h.box i _ hi).1
theorem Sx.addP {w0 w : World} {bs : List Bx} {fs : List Fx} (h : Sx w0 w bs fs) {v : Value} {q : Rat} (hv : IsRat w v q) : Sx w0 w bs ((true, v, q) :: fs) :=
 ⟨h.bel, h.box, h.nod, fun i f hf => by
  match i, hf with
  | 0, hf => simp at hf; subst hf; exact hv
  | i + 1, hf => exact h.fra i f (by simpa using hf)⟩
theorem Sx.below {w0 w w' : World} {bs : List Bx} {fs : List Fx} (h : Sx w0 w bs fs) (hb : Below w.heap.size w w') : Sx w0 w' bs fs :=
 ⟨ext_trans h.bel hb, fun i b hi => by obtain ⟨h1, h2⟩ := h.box i b hi; exact ⟨blk_keep h1 hb (blk_lt h1), h2⟩, h.nod, fun i f hf => (h.fra i f hf).below hb⟩
theorem Sx.drew {w0 w : World} {bs : List Bx} {fs : List Fx} (h : Sx w0 w bs fs) : Sx w0 w.drew bs fs := h.below (Below.refl _ _).drew
theorem Sx.alloc {w0 w : World} {bs : List Bx} {fs : List Fx} (h : Sx w0 w bs fs) {B T : Nat} {cs : Array Value} (hB : w.heap.size = B) (hp : cs.toList.all plainV = true) : Sx w0 (w.alloc (.cells cs T)) ((B, cs, T) :: bs) fs := by
 subst hB
 have hb := (Below.refl w.heap.size w).alloc (Nat.le_refl _) (.cells cs T)
 have h' := h.below hb
 refine ⟨h'.bel, fun i b hi => ?_, ?_, h'.fra⟩
 ·
  match i, hi with
  | 0, hi =>
   simp at hi
   subst hi
   exact ⟨blk_new w cs T, h.bel.size, hp⟩
  | i + 1, hi => exact h'.box i b (by simpa using hi)
 ·
  rw [List.map_cons, List.nodup_cons]
  refine ⟨fun hm => ?_, h.nod⟩
  obtain ⟨b, hb1, hb2⟩ := List.mem_map.1 hm
  obtain ⟨i, hi⟩ := List.mem_iff_getElem?.1 hb1
  have := blk_lt (h.box i b hi).1
  omega
theorem Sx.set {w0 w : World} {bs : List Bx} {fs : List Fx} (h : Sx w0 w bs fs) (i : Nat) {B T : Nat} {cs : Array Value} (hi : bs[i]? = some (B, cs, T)) (j : Nat) {v : Value} (hv : plainV v = true) : Sx w0 (w.setCell ⟨B, j, none⟩ v) (bs.set i (B, cs.setIfInBounds j v, T)) fs := by
 obtain ⟨h1, h2, h3⟩ := h.box i _ hi
 refine ⟨h.bel.setCell (p := ⟨B, j, none⟩) h2 v, fun k b hk => ?_, ?_, fun k f hf => (h.fra k f hf).set h1 h3 j v⟩
 ·
  rw [List.getElem?_set] at hk
  by_cases hik : i = k
  ·
   subst hik
   rw [if_pos rfl] at hk
   split at hk
   ·
    injection hk with hk
    subst hk
    refine ⟨blk_set h1 j v, h2, ?_⟩
    rw [List.all_eq_true] at h3 ⊢
    intro u hu
    rw [Array.toList_setIfInBounds] at hu
    rcases List.mem_or_eq_of_mem_set hu with hu | hu
    ·
     exact h3 u hu
    ·
     rw [hu]; exact hv
   ·
    exact absurd hk (by simp)
  ·
   rw [if_neg hik] at hk
   obtain ⟨g1, g2⟩ := h.box k b hk
   have hne : b.1 ≠ B := by
    intro he
    have e1 : (bs.map (·.1))[i]? = some B := by rw [List.getElem?_map, hi]; rfl
    have e2 : (bs.map (·.1))[k]? = some B := by rw [List.getElem?_map, hk]; simp [he]
    obtain ⟨l1, _⟩ := List.getElem?_eq_some_iff.1 e1
    exact hik ((List.getElem?_inj l1 h.nod).1 (e1.trans e2.symm))
   exact ⟨(heap_setCell_other w ⟨B, j, none⟩ b.1 v hne).trans g1, g2⟩
 ·
  have e : (bs.set i (B, cs.setIfInBounds j v, T)).map (·.1) = bs.map (·.1) := by
   rw [List.map_set]
   apply List.ext_getElem?
   intro k
   rw [List.getElem?_set]
   by_cases hik : i = k
   ·
    subst hik
    have e1 : (bs.map (·.1))[i]? = some B := by rw [List.getElem?_map, hi]; rfl
    obtain ⟨l1, _⟩ := List.getElem?_eq_some_iff.1 e1
    rw [if_pos rfl, if_pos l1, e1]
   ·
    rw [if_neg hik]
  rw [e]
  exact h.nod
theorem Sx.erase {w0 w : World} {bs : List Bx} {fs : List Fx} (h : Sx w0 w bs fs) (i : Nat) : Sx w0 w (bs.eraseIdx i) [] := by
 refine ⟨h.bel, fun k b hk => ?_, ?_, fun k f hf => by simp at hf⟩
 ·
  rw [List.getElem?_eraseIdx] at hk
  split at hk
  ·
   exact h.box _ _ hk
  ·
   exact h.box _ _ hk
 ·
  exact h.nod.sublist ((List.eraseIdx_sublist _ _).map _)
theorem Sx.bare {w0 w : World} {bs : List Bx} {fs : List Fx} (h : Sx w0 w bs fs) : Sx w0 w bs [] := ⟨h.bel, h.box, h.nod, fun k f hf => by simp at hf⟩
theorem Sx.set3 {w0 w : World} {bs : List Bx} {fs : List Fx} (h : Sx w0 w bs fs) (i : Nat) {B T : Nat} {p : R3} (x : R3) (hi : bs[i]? = some (B, p.arr, T)) :
  Sx w0 (((w.setCell ⟨B, 0, none⟩ (.bool x.b)).setCell ⟨B, 1, none⟩ (.slice x.a x.n x.c)).setCell ⟨B, 2, none⟩ (.slice x.d x.m x.e)) (bs.set i (B, x.arr, T)) fs := by
 have hl := (List.getElem?_eq_some_iff.1 hi).1
 have g := ((h.set i hi 0 (v := .bool x.b) rfl).set i (by rw [List.getElem?_set, if_pos rfl, if_pos hl]) 1 (v := .slice x.a x.n x.c) rfl).set i (by rw [List.getElem?_set, if_pos rfl, if_pos (by simpa using hl)]) 2 (v := .slice x.d x.m x.e) rfl
 simpa using g
theorem Sx.st_R {w0 w : World} {bs : List Bx} {fs : List Fx} (h : Sx w0 w bs fs) (i : Nat) (o0 : R3) (n0 : R3) {B T : Nat} (hi : bs[i]? = some (B, #[.bool o0.b, .slice o0.a o0.n o0.c, .slice o0.d o0.m o0.e], T)) :
  Sx w0 ((((w).setCell ⟨B, 0, none⟩ (.bool n0.b)).setCell ⟨B, 1, none⟩ (.slice n0.a n0.n n0.c)).setCell ⟨B, 2, none⟩ (.slice n0.d n0.m n0.e)) (bs.set i (B, #[.bool n0.b, .slice n0.a n0.n n0.c, .slice n0.d n0.m n0.e], T)) fs := by
 have hl := (List.getElem?_eq_some_iff.1 hi).1
 have g := (((h).set i hi 0 (v := .bool n0.b) rfl).set i (by rw [List.getElem?_set, if_pos rfl, if_pos (by simpa using hl)]) 1 (v := .slice n0.a n0.n n0.c) rfl).set i (by rw [List.getElem?_set, if_pos rfl, if_pos (by simpa using hl)]) 2 (v := .slice n0.d n0.m n0.e) rfl
 simpa using g
theorem Sx.ne {w0 w : World} {bs : List Bx} {fs : List Fx} (h : Sx w0 w bs fs) (i j : Nat) {B T : Nat} {cs : Array Value} {B' T' : Nat} {cs' : Array Value} (hi : bs[i]? = some (B, cs, T)) (hj : bs[j]? = some (B', cs', T')) (hij : i ≠ j) : B ≠ B' := by
 intro e
 obtain ⟨l1, e1⟩ := List.getElem?_eq_some_iff.1 hi
 obtain ⟨l2, e2⟩ := List.getElem?_eq_some_iff.1 hj
 refine hij ((List.getElem_inj (h₀ := by simpa using l1) (h₁ := by simpa using l2) h.nod).1 ?_)
 simp [e1, e2, e]
theorem mk_alloc {m W : World} {o : Obj} (h : Below m.heap.size m W) : Below m.heap.size m (W.alloc o) := h.alloc h.size o
theorem nb1 {α : Type _} {xs : List α} {i : Nat} (h : i < xs.toArray.size) : xs.toArray[i] = xs[i] := List.getElem_toArray h
theorem nb2 {α : Type _} (a : α) (l : List α) (h : 0 < (a :: l).length) : (a :: l)[0] = a := List.getElem_cons_zero a l h
theorem nb3 {α : Type _} (a : α) (l : List α) (i : Nat) (h : i + 1 < (a :: l).length) : (a :: l)[i + 1] = l[i]'(by simpa using h) := List.getElem_cons_succ a l i h
theorem nb4 {α : Type _} (l : List α) (i : Nat) (a : α) : l.toArray.setIfInBounds i a = (l.set i a).toArray := List.setIfInBounds_toArray l i a
theorem nb5 {α : Type _} {x : α} {xs : List α} {a : α} : (x :: xs).set 0 a = a :: xs := List.set_cons_zero
theorem nb6 {α : Type _} {x : α} {xs : List α} {i : Nat} {a : α} : (x :: xs).set (i + 1) a = x :: xs.set i a := List.set_cons_succ
section
variable {P : Program} {ops : Array Oper} {Q : Exit → Act → World → Prop} {md : Region.Mode} {S : World → Prop}
theorem tkA {i : Nat} {oi : Oper} {v : Value} {fuel : Nat} {listed : Array Bool} {a : Act} {w : World} (hi : ops[i]? = some oi) (hy : YieldsIf P ops S oi v a) (hS : S w)
  (h : wpAnyH P md ops Q S fuel (listed.setIfInBounds i true) (a.put oi.dst v) w) (hs : Region.noSelect ops = true := by kernel_rfl) (hf : Region.free md ops listed i = true := by kernel_rfl)
  (hr : (Region.ready md ops listed).contains i = true := by kernel_rfl) (hQ : ∀ c a w, Q (.panic c) (a.put oi.dst v) w → Q (.panic c) a w := by exact fun _ _ _ h => h) : wpAnyH P md ops Q S (fuel + 1) listed a w :=
 wpAnyH_take hi hs hf hr hQ hy hS h
theorem rdA {i : Nat} {o : Oper} {fuel : Nat} {listed : Array Bool} {a : Act} {w : World} (ho : ops[i]? = some o)
  (h : ∀ K' : Act → World → Prop, Shut (∀ a w, S w → (S w → wpAnyH P md ops Q S fuel (listed.setIfInBounds i true) a w) → K' a w) → if Region.wanted o (yielded ops a.tmps) = true then Oper.wp P o a w K' Q else K' (a.put o.dst undef) w)
  (hr : Region.ready md ops listed = [i] := by kernel_rfl) : wpAnyH P md ops Q S (fuel + 1) listed a w :=
 wpAnyH_ready hr (by simp) (AllReadyH.cons ho h AllReadyH.nil)
end
end Go.Proofs.Ytgmpekhiohbakaa

namespace Go.Proofs.Ytgmpekhiohbakaa
open Go.RowKit

def bestUp (b : Rat → Rat → Bool) (f : Nat → Rat) : Nat → Rat
 | 0 => f 0
 | i + 1 => if b (f (i + 1)) (bestUp b f i) then f (i + 1) else bestUp b f i
def gtB (x y : Rat) : Bool := decide (cmpR x y > 0)
structure MB (w : World) (y : R3) (q : Rat) (wr : World) : Prop where
 bel : Below w.heap.size w wr
 r : wr.heap[w.heap.size]? = some (.cells r30.arr 32 (0, 0))
 m : wr.heap[w.heap.size + 1]? = some (.cells y.arr 32 (0, 0))
 v : IsRat wr y.val q
theorem MB.below {w a b : World} {y : R3} {q : Rat} (h : MB w y q a) (hb : Below a.heap.size a b) : MB w y q b := ⟨ext_trans h.bel hb, blk_keep h.r hb (blk_lt h.r), blk_keep h.m hb (blk_lt h.m), h.v.below hb⟩
theorem MB.set {w a : World} {y x : R3} {q p : Rat} (h : MB w y q a) (hx : IsRat a x.val p) : MB w x p (((a.setCell ⟨w.heap.size + 1, 0, none⟩ (.bool x.b)).setCell ⟨w.heap.size + 1, 1, none⟩ (.slice x.a x.n x.c)).setCell ⟨w.heap.size + 1, 2, none⟩ (.slice x.d x.m x.e)) :=
 ⟨below3r h.bel (by omega), blk_keep h.r (below3r (Below.refl (w.heap.size + 1) a) (Nat.le_refl _)) (by omega), set3r h.m, hx.set3r h.m⟩
end Go.Proofs.Ytgmpekhiohbakaa

namespace Go.Proofs.Ytgmpekhiohbakaa
open Go.RowKit

def fillT (t : Array Value) (ds : List Nat) (f : Nat → Value) : Array Value := ds.foldl (fun t d => t.setIfInBounds d (f d)) t
def fillA (a : Act) (ds : List Nat) (f : Nat → Value) : Act := { a with tmps := fillT a.tmps ds f }
theorem fillT_get (f : Nat → Value) (j : Nat) : ∀ (ds : List Nat) (t : Array Value), (fillT t ds f)[j]? = if j ∈ ds ∧ j < t.size then some (f j) else t[j]?
 | [], t => by simp [fillT]
 | d :: ds, t => by
  have ih := fillT_get f j ds (t.setIfInBounds d (f d))
  show (fillT (t.setIfInBounds d (f d)) ds f)[j]? = _
  rw [ih, Array.size_setIfInBounds]
  by_cases h1 : j ∈ ds ∧ j < t.size
  ·
   rw [if_pos h1, if_pos ⟨List.mem_cons_of_mem _ h1.1, h1.2⟩]
  ·
   rw [if_neg h1, Array.getElem?_setIfInBounds]
   by_cases h2 : d = j
   ·
    subst h2
    rw [if_pos rfl]
    by_cases h3 : d < t.size
    ·
     rw [if_pos h3, if_pos ⟨List.mem_cons_self, h3⟩]
    ·
     rw [if_neg h3, if_neg (fun h => h3 h.2), Array.getElem?_eq_none (by omega)]
   ·
    rw [if_neg h2, if_neg (fun h => h1 ⟨by rcases List.mem_cons.1 h.1 with h | h; exact absurd h.symm h2; exact h, h.2⟩)]
theorem fillT_size (f : Nat → Value) : ∀ (ds : List Nat) (t : Array Value), (fillT t ds f).size = t.size
 | [], t => rfl
 | d :: ds, t => by
  show (fillT (t.setIfInBounds d (f d)) ds f).size = _
  rw [fillT_size, Array.size_setIfInBounds]
theorem fillA_put {a : Act} {ds : List Nat} {f : Nat → Value} {d : Nat} {v : Value} (hd : d ∈ ds) : (fillA a ds f).put (some d) v = fillA a ds (fun e => if e = d then v else f e) := by
 have e : (fillT a.tmps ds f).setIfInBounds d v = fillT a.tmps ds (fun e => if e = d then v else f e) := by
  apply Array.ext_getElem?
  intro j
  rw [Array.getElem?_setIfInBounds, fillT_get, fillT_get, fillT_size]
  by_cases h : d = j
  ·
   subst h
   rw [if_pos rfl]
   by_cases h3 : d < a.tmps.size
   ·
    rw [if_pos h3, if_pos ⟨hd, h3⟩]; simp
   ·
    rw [if_neg h3, if_neg (fun h => h3 h.2), Array.getElem?_eq_none (by omega)]
  ·
   rw [if_neg h]
   have h' : ¬ j = d := fun e => h e.symm
   simp [h']
 unfold fillA
 show ({ a with tmps := fillT a.tmps ds f } : Act).put (some d) v = _
 unfold Act.put
 simp [e]
theorem fillA_id (a : Act) (ds : List Nat) : fillA a ds (fun d => a.tmps.getD d undef) = a := by
 unfold fillA
 have e : fillT a.tmps ds (fun d => a.tmps.getD d undef) = a.tmps := by
  apply Array.ext_getElem?
  intro j
  rw [fillT_get]
  split
  ·
   rename_i h
   rw [Array.getElem?_eq_getElem h.2, Array.getD_eq_getD_getElem?, Array.getElem?_eq_getElem h.2]
   rfl
  ·
   rfl
 rw [e]
def AllM (p : Nat → Prop) : List Nat → Prop
 | [] => True
 | i :: l => p i ∧ AllM p l
theorem AllM.at {p : Nat → Prop} {i : Nat} : ∀ {l : List Nat}, AllM p l → i ∈ l → p i
 | j :: l, h, hi => by
  rcases List.mem_cons.1 hi with rfl | hi
  ·
   exact h.1
  ·
   exact h.2.at hi
def modOk (ops : Array Oper) (l0 lM : Array Bool) (M N E : List Nat) (dst : Nat → Nat) (preds : Nat → List Nat) (ds : List Nat) : Bool :=
 l0.size == ops.size && lM.size == ops.size &&
 (List.range ops.size).all (fun i => lM.getD i true == (l0.getD i true || M.contains i)) &&
 M.all (fun i => l0.getD i true == false && (match ops[i]? with
  | some o => o.dst == some (dst i) && ds.contains (dst i) && (preds i).all (fun j => M.contains j && o.after.any (fun e => Region.binds .any e && e.on == j)) &&
    o.after.all (fun e => !Region.binds .any e || l0.getD e.on false || (M.contains e.on && Nat.blt e.on i))
  | none => false)) &&
 (List.range ops.size).all (fun i => l0.getD i true || M.contains i || (match ops[i]? with
  | some o => o.after.any (fun e => Region.binds .any e && (l0.getD e.on true == false && M.contains e.on == false)) || M.all (fun j => o.after.any (fun e => Region.binds .any e && e.on == j) || M.any (fun l => Nat.blt j l && (match ops[l]? with
    | some o' => o'.after.any (fun e => Region.binds .any e && e.on == j)
    | none => false)) || (E.contains j && (match ops[j]? with
    | some oj => oj.after.all (fun e => !Region.binds .any e || l0.getD e.on false || o.after.any (fun e' => Region.binds .any e' && e'.on == e.on))
    | none => false)))
  | none => false)) &&
 M.all (fun i => M.all (fun j => i == j || dst i != dst j)) && M.all (fun i => N.contains i || E.contains i) && Region.noSelect ops &&
 E.all (fun i => M.contains i && (match ops[i]? with
  | some oi => (List.range ops.size).all (fun j => j == i || oi.after.any (fun e => Region.binds .any e && e.on == j) || (match ops[j]? with
   | some oj => oj.after.any (fun e => Region.binds .any e && e.on == i) || oi.apart ops oj
   | none => true))
  | none => false))
section
variable {P : Program} {ops : Array Oper} {Q : Exit → Act → World → Prop}
def StepM (P : Program) (ops : Array Oper) (Q : Exit → Act → World → Prop) (a0 : Act) (ds : List Nat) (W0 : World) (PV : Nat → Value → World → Prop) (dst : Nat → Nat) (preds : Nat → List Nat) (al : List Nat) (i : Nat) : Prop :=
 ∀ o, ops[i]? = some o → ∀ f w, Below W0.heap.size W0 w → (∀ j, j ∈ preds i → PV j (f (dst j)) w) →
  ∀ K' : Act → World → Prop, Shut (∀ a' w'' v, a' = (fillA a0 ds f).put o.dst v → PV i v w'' → (i ∈ al → v = .pointer (some ⟨w.heap.size, 0, none⟩)) → Below w.heap.size w w'' → K' a' w'') →
   if Region.wanted o (yielded ops (fillA a0 ds f).tmps) = true then Oper.wp P o (fillA a0 ds f) w K' Q else K' ((fillA a0 ds f).put o.dst undef) w
theorem StepM.of {a0 : Act} {ds : List Nat} {W0 : World} {PV : Nat → Value → World → Prop} {dst : Nat → Nat} {preds : Nat → List Nat} {al : List Nat} {i : Nat} {o : Oper} (ho : ops[i]? = some o)
  (h : ∀ f w, Below W0.heap.size W0 w → (∀ j, j ∈ preds i → PV j (f (dst j)) w) →
   ∀ K' : Act → World → Prop, Shut (∀ a' w'' v, a' = (fillA a0 ds f).put o.dst v → PV i v w'' → (i ∈ al → v = .pointer (some ⟨w.heap.size, 0, none⟩)) → Below w.heap.size w w'' → K' a' w'') →
   if Region.wanted o (yielded ops (fillA a0 ds f).tmps) = true then Oper.wp P o (fillA a0 ds f) w K' Q else K' ((fillA a0 ds f).put o.dst undef) w) : StepM P ops Q a0 ds W0 PV dst preds al i :=
 fun o' ho' => by rw [ho] at ho'; cases ho'; exact h
def EagerM (P : Program) (ops : Array Oper) (a0 : Act) (ds : List Nat) (W0 : World) (PV : Nat → Value → World → Prop) (dst : Nat → Nat) (preds : Nat → List Nat) (i : Nat) : Prop :=
 ∀ o, ops[i]? = some o → ∀ f w, Below W0.heap.size W0 w → (∀ j, j ∈ preds i → PV j (f (dst j)) w) →
  ∃ v, PV i v w ∧ Region.wanted o (yielded ops (fillA a0 ds f).tmps) = true ∧ ∀ u, (execOp (fillA a0 ds f).eval o).run P u = .ok (.value v) u
theorem EagerM.of {a0 : Act} {ds : List Nat} {W0 : World} {PV : Nat → Value → World → Prop} {dst : Nat → Nat} {preds : Nat → List Nat} {i : Nat} {o : Oper} (ho : ops[i]? = some o)
  (h : ∀ f w, Below W0.heap.size W0 w → (∀ j, j ∈ preds i → PV j (f (dst j)) w) →
   ∃ v, PV i v w ∧ Region.wanted o (yielded ops (fillA a0 ds f).tmps) = true ∧ ∀ u, (execOp (fillA a0 ds f).eval o).run P u = .ok (.value v) u) : EagerM P ops a0 ds W0 PV dst preds i :=
 fun o' ho' => by rw [ho] at ho'; cases ho'; exact h
theorem wpAnyH_mod {S : World → Prop} {a0 : Act} {ds : List Nat} {l0 lM : Array Bool} {M N E : List Nat} {F : Nat} {W0 : World} {PV : Nat → Value → World → Prop} {dst : Nat → Nat} {preds : Nat → List Nat} {al : List Nat}
  (hchk : modOk ops l0 lM M N E dst preds ds = true) (hQ : ∀ c a (d : Nat) v w, Q (.panic c) (Act.put a (some d) v) w → Q (.panic c) a w)
  (hst : ∀ i v w w', Below w.heap.size w w' → PV i v w → PV i v w')
  (hal : ∀ i v w, i ∈ al → PV i v w → ∃ B, v = .pointer (some ⟨B, 0, none⟩) ∧ B < w.heap.size)
  (hS : ∀ w, Below W0.heap.size W0 w → S w)
  (hstep : AllM (StepM P ops Q a0 ds W0 PV dst preds al) N) (heag : AllM (EagerM P ops a0 ds W0 PV dst preds) E) (hEal : ∀ i, i ∈ E → i ∉ al)
  (hend : ∀ f w, Below W0.heap.size W0 w → (∀ i, i ∈ M → PV i (f (dst i)) w) → (∀ i j, i ∈ M → j ∈ M → i ∈ al → j ∈ al → i ≠ j → f (dst i) ≠ f (dst j)) → wpAnyH P .any ops Q S F lM (fillA a0 ds f) w) :
  ∀ (n : Nat) (U : List Nat) (listed : Array Bool) (f : Nat → Value) (w : World), U.length = n → listed.size = ops.size →
   (∀ i, i ∉ M → listed.getD i true = l0.getD i true) → (∀ i, i ∈ M → (listed.getD i true = false ↔ i ∈ U)) → (∀ i, i ∈ U → i ∈ M) → U.Nodup → Below W0.heap.size W0 w →
   (∀ i, i ∈ M → i ∉ U → PV i (f (dst i)) w) → (∀ i j, i ∈ M → j ∈ M → i ∉ U → j ∉ U → i ∈ al → j ∈ al → i ≠ j → f (dst i) ≠ f (dst j)) →
   (∀ i, i ∈ M → i ∉ U → ∀ o, ops[i]? = some o → ∀ e, e ∈ o.after → Region.binds .any e = true → e.on ∈ U → False) →
   wpAnyH P .any ops Q S (F + n) listed (fillA a0 ds f) w := by
 unfold modOk at hchk
 simp only [Bool.and_eq_true, beq_iff_eq, List.all_eq_true, List.mem_range] at hchk
 obtain ⟨⟨⟨⟨⟨⟨⟨⟨k1, k2⟩, k3⟩, k4⟩, k5⟩, k6⟩, k7⟩, k8⟩, k9⟩ := hchk
 intro n
 induction n with
 | zero =>
  intro U listed f w hU hsz hout hin hsub hnd hb hp hdist hdc
  obtain rfl : U = [] := List.eq_nil_of_length_eq_zero hU
  have e : listed = lM := by
   apply Array.ext (by omega)
   intro i h1 h2
   have hi : i < ops.size := by omega
   have g1 : listed.getD i true = listed[i] := by simp [Array.getD_eq_getD_getElem?, h1]
   have g2 : lM.getD i true = lM[i] := by simp [Array.getD_eq_getD_getElem?, h2]
   rw [← g1, ← g2, k3 i hi]
   by_cases hm : i ∈ M
   ·
    have := hin i hm
    have h3 : M.contains i = true := by simpa using hm
    rw [h3, Bool.or_true]
    cases h4 : listed.getD i true with
    | true => rfl
    | false => exact absurd (this.1 h4) (by simp)
   ·
    have h3 : M.contains i = false := by simpa using hm
    rw [h3, Bool.or_false, hout i hm]
  rw [e]
  exact hend f w hb (fun i hi => hp i hi (by simp)) (fun i j h1 h2 => hdist i j h1 h2 (by simp) (by simp))
 | succ n ih =>
  intro U listed f w hU hsz hout hin hsub hnd hb hp hdist hdc
  have hpre : ∀ i, i ∈ U → i ∈ Region.ready .any ops listed → ∀ o, ops[i]? = some o → ∀ j, j ∈ preds i → PV j (f (dst j)) w := by
   intro i hiU hi o ho j hj
   have hm := hsub i hiU
   have h4 := k4 i hm
   rw [ho] at h4
   simp only [Bool.and_eq_true, beq_iff_eq] at h4
   obtain ⟨_, ⟨⟨hdst, hds⟩, hpr⟩, _⟩ := h4
   rw [List.all_eq_true] at hpr
   have h6 := hpr j hj
   simp only [Bool.and_eq_true] at h6
   obtain ⟨hjM, hja⟩ := h6
   have hjM : j ∈ M := by simpa using hjM
   refine hp j hjM (fun hjU => ?_)
   obtain ⟨_, o', ho', hall⟩ := mem_ready.1 hi
   rw [ho] at ho'
   cases ho'
   rw [Array.any_eq_true'] at hja
   obtain ⟨e, he, hbe⟩ := hja
   simp only [Bool.and_eq_true, beq_iff_eq] at hbe
   have h7 := hall e he hbe.1
   rw [hbe.2] at h7
   have h8 := (hin j hjM).2 hjU
   rw [Array.getD_eq_getD_getElem?] at h7 h8
   cases hx : listed[j]? with
   | none => rw [hx] at h7; simp at h7
   | some b => rw [hx] at h7 h8; simp at h7 h8; rw [h7] at h8; cases h8
  -- behind an operation of U that was ready
  have hgo : ∀ i, i ∈ U → i ∈ Region.ready .any ops listed → ∀ o, ops[i]? = some o → ∀ w'' v, PV i v w'' → (i ∈ al → v = .pointer (some ⟨w.heap.size, 0, none⟩)) → Below w.heap.size w w'' →
    wpAnyH P .any ops Q S (F + n) (listed.setIfInBounds i true) (fillA a0 ds (fun e => if e = dst i then v else f e)) w'' := by
   intro i hiU hi o ho w'' v hv hfresh hb'
   have hm := hsub i hiU
   have hdd : ∀ j, j ∈ M → j ≠ i → dst j ≠ dst i := fun j hj hne h => by
    have := k6 j hj i hm
    simp only [Bool.or_eq_true, beq_iff_eq, bne_iff_ne] at this
    rcases this with h1 | h1
    ·
     exact hne h1
    ·
     exact h1 h
   refine ih (U.erase i) _ _ _ (by rw [List.length_erase_of_mem hiU]; omega) (by rw [Array.size_setIfInBounds]; exact hsz) (fun j hj => ?_) (fun j hj => ?_) (fun j hj => hsub j (List.mem_of_mem_erase hj)) (hnd.erase i) (hb.trans (hb'.mono hb.size)) (fun j hj hju => ?_) (fun j l hj hl hju hlu hja hla hjl => ?_) (fun j hj hju o' ho' e he hbe heU => ?_)
   ·
    have hne : i ≠ j := fun h => hj (h ▸ hm)
    rw [getD_set_ne true hne]
    exact hout j hj
   ·
    by_cases hij : i = j
    ·
     subst hij
     have hlt : i < listed.size := by rw [hsz]; exact (Array.getElem?_eq_some_iff.1 ho).1
     constructor
     ·
      intro h
      rw [Array.getD_eq_getD_getElem?, Array.getElem?_setIfInBounds] at h
      simp [hlt] at h
     ·
      intro h
      exact absurd h (List.Nodup.not_mem_erase hnd)
    ·
     rw [getD_set_ne true hij, hin j hj, List.Nodup.mem_erase_iff hnd]
     constructor
     ·
      intro h; exact ⟨fun e => hij e.symm, h⟩
     ·
      intro h; exact h.2
   ·
    by_cases hij : j = i
    ·
     subst hij
     simpa using hv
    ·
     have := hp j hj (fun h => hju ((List.Nodup.mem_erase_iff hnd).2 ⟨hij, h⟩))
     show PV j (if dst j = dst i then v else f (dst j)) w''
     rw [if_neg (hdd j hj hij)]
     exact hst j _ _ _ hb' this
   ·
    show (if dst j = dst i then v else f (dst j)) ≠ (if dst l = dst i then v else f (dst l))
    have hnew : ∀ k, k ∈ M → k ≠ i → k ∉ U.erase i → k ∈ al → i ∈ al → f (dst k) ≠ v := fun k hk hki hku hka hia => by
     have h1 := hp k hk (fun h => hku ((List.Nodup.mem_erase_iff hnd).2 ⟨hki, h⟩))
     obtain ⟨B, hB, hlt⟩ := hal k _ _ hka h1
     rw [hB, hfresh hia]
     intro h
     have h2 := congrArg (fun v => match v with | Value.pointer (some a) => a.block | _ => 0) h
     dsimp only at h2
     omega
    by_cases h1 : j = i
    ·
     subst h1
     rw [if_pos rfl, if_neg (hdd l hl (fun h => hjl h.symm))]
     exact fun h => hnew l hl (fun h => hjl h.symm) hlu hla hja h.symm
    ·
     rw [if_neg (hdd j hj h1)]
     by_cases h2 : l = i
     ·
      subst h2
      rw [if_pos rfl]
      exact hnew j hj h1 hju hja hla
     ·
      rw [if_neg (hdd l hl h2)]
      exact hdist j l hj hl (fun h => hju ((List.Nodup.mem_erase_iff hnd).2 ⟨h1, h⟩)) (fun h => hlu ((List.Nodup.mem_erase_iff hnd).2 ⟨h2, h⟩)) hja hla hjl
   ·
    have heU2 : e.on ∈ U := List.mem_of_mem_erase heU
    by_cases hij : j = i
    ·
     subst hij
     obtain ⟨_, o2, ho2, hall⟩ := mem_ready.1 hi
     rw [ho'] at ho2
     cases ho2
     have h7 := hall e he hbe
     have h8 := (hin e.on (hsub _ heU2)).2 heU2
     rw [Array.getD_eq_getD_getElem?] at h7 h8
     cases hx : listed[e.on]? with
     | none => rw [hx] at h7; simp at h7
     | some b => rw [hx] at h7 h8; simp at h7 h8; rw [h7] at h8; cases h8
    ·
     exact hdc j hj (fun h => hju ((List.Nodup.mem_erase_iff hnd).2 ⟨hij, h⟩)) o' ho' e he hbe heU2
  have hdstd : ∀ i, i ∈ M → ∀ o, ops[i]? = some o → o.dst = some (dst i) ∧ dst i ∈ ds := by
   intro i hm o ho
   have h4 := k4 i hm
   rw [ho] at h4
   simp only [Bool.and_eq_true, beq_iff_eq] at h4
   obtain ⟨_, ⟨⟨hdst, hds⟩, hpr⟩, _⟩ := h4
   exact ⟨hdst, by simpa using hds⟩
  by_cases hE : ∃ i, i ∈ E ∧ i ∈ U ∧ i ∈ Region.ready .any ops listed
  ·
   obtain ⟨i, hiE, hiU, hi⟩ := hE
   obtain ⟨_, o, ho, _⟩ := mem_ready.1 hi
   obtain ⟨hdst, hds⟩ := hdstd i (hsub i hiU) o ho
   obtain ⟨v, hv, hw, hrun⟩ := heag.at hiE o ho f w hb (hpre i hiU hi o ho)
   refine wpAnyH_first (v := v) ho (Region.noSelect_spec k8) (fun c a w h => hQ c a (dst i) v w (by rw [hdst] at h; exact h)) (F + n) listed _ w ?_ hi (.inl ⟨hw, fun u _ => hrun u⟩) (hS _ hb) ?_
   ·
    intro j oj hoj hne hun hno
    have h9 := (k9 i hiE).2
    rw [ho] at h9
    simp only [List.all_eq_true, List.mem_range] at h9
    have h10 := h9 j (Array.getElem?_eq_some_iff.1 hoj).1
    rw [hoj] at h10
    simp only [Bool.or_eq_true, beq_iff_eq, hne, false_or] at h10
    rcases h10 with h10 | h10 | h10
    ·
     exfalso
     rw [Array.any_eq_true'] at h10
     obtain ⟨e, he, hbe⟩ := h10
     simp only [Bool.and_eq_true, beq_iff_eq] at hbe
     obtain ⟨_, o2, ho2, hall⟩ := mem_ready.1 hi
     rw [ho] at ho2
     cases ho2
     have h11 := hall e he hbe.1
     rw [hbe.2] at h11
     rw [Array.getD_eq_getD_getElem?] at h11 hun
     cases hx : listed[j]? with
     | none => rw [hx] at h11; simp at h11
     | some b => rw [hx] at h11 hun; simp at h11 hun; rw [h11] at hun; cases hun
    ·
     exfalso
     rw [Array.any_eq_true'] at h10
     obtain ⟨e, he, hbe⟩ := h10
     simp only [Bool.and_eq_true, beq_iff_eq] at hbe
     exact hno e he hbe.1 hbe.2
    ·
     exact h10
   ·
    rw [hdst, fillA_put hds]
    exact hgo i hiU hi o ho w v hv (fun h => absurd h (hEal i hiE)) (Below.refl _ _)
  ·
   -- what is ready lies in U
   have hready : ∀ i, i ∈ Region.ready .any ops listed → i ∈ U := by
    intro i hi
    obtain ⟨g1, o, ho, hall⟩ := mem_ready.1 hi
    by_cases hm : i ∈ M
    ·
     exact (hin i hm).1 g1
    ·
     exfalso
     have hlt : i < ops.size := (Array.getElem?_eq_some_iff.1 ho).1
     have h5 := k5 i hlt
     rw [hout i hm] at g1
     have h3 : M.contains i = false := by simpa using hm
     rw [g1, h3, ho] at h5
     simp only [Bool.false_or] at h5
     rw [Bool.or_eq_true] at h5
     rcases h5 with h5 | h5
     ·
      rw [Array.any_eq_true'] at h5
      obtain ⟨e, he, hbe⟩ := h5
      simp only [Bool.and_eq_true, beq_iff_eq] at hbe
      obtain ⟨hb1, hb2, hb3⟩ := hbe
      have h7 := hall e he hb1
      have hem : e.on ∉ M := by simpa using hb3
      have h8 := hout e.on hem
      rw [hb2] at h8
      rw [Array.getD_eq_getD_getElem?] at h7 h8
      cases hx : listed[e.on]? with
      | none => rw [hx] at h7; simp at h7
      | some b => rw [hx] at h7 h8; simp at h7 h8; rw [h7] at h8; cases h8
     rw [List.all_eq_true] at h5
     have hne : U ≠ [] := by intro h; rw [h] at hU; simp at hU
     have hu : U.max hne ∈ U := List.max_mem hne
     have hmax : ∀ j, j ∈ U → j ≤ U.max hne := fun j hj => List.le_max_of_mem hj
     generalize U.max hne = u at hu hmax
     have h6 := h5 u (hsub u hu)
     rw [Bool.or_eq_true, Bool.or_eq_true] at h6
     rcases h6 with (h6 | h6) | h6
     ·
      rw [Array.any_eq_true'] at h6
      obtain ⟨e, he, hbe⟩ := h6
      simp only [Bool.and_eq_true, beq_iff_eq] at hbe
      have h7 := hall e he hbe.1
      rw [hbe.2] at h7
      have h8 := (hin u (hsub u hu)).2 hu
      rw [Array.getD_eq_getD_getElem?] at h7 h8
      cases hx : listed[u]? with
      | none => rw [hx] at h7; simp at h7
      | some b => rw [hx] at h7 h8; simp at h7 h8; rw [h7] at h8; cases h8
     ·
      rw [List.any_eq_true] at h6
      obtain ⟨l, hl, h6⟩ := h6
      rw [Bool.and_eq_true] at h6
      obtain ⟨h6a, h6b⟩ := h6
      have hlt2 : u < l := by simpa using h6a
      have hlu : l ∉ U := fun h => by have := hmax l h; omega
      cases hol : ops[l]? with
      | none => rw [hol] at h6b; simp at h6b
      | some o' =>
       rw [hol] at h6b
       simp only [Array.any_eq_true'] at h6b
       obtain ⟨e, he, hbe⟩ := h6b
       simp only [Bool.and_eq_true, beq_iff_eq] at hbe
       exact hdc l hl hlu o' hol e he hbe.1 (hbe.2 ▸ hu)
     ·
      rw [Bool.and_eq_true] at h6
      obtain ⟨h6a, h6b⟩ := h6
      cases hou : ops[u]? with
      | none => rw [hou] at h6b; simp at h6b
      | some ou =>
       rw [hou] at h6b
       simp only [Array.all_eq_true_iff_forall_mem] at h6b
       refine hE ⟨u, by simpa using h6a, hu, mem_ready.2 ⟨(hin u (hsub u hu)).2 hu, ou, hou, fun e he hbe => ?_⟩⟩
       have h7 := h6b e he
       rw [hbe] at h7
       simp only [Bool.not_true, Bool.false_or, Bool.or_eq_true] at h7
       rcases h7 with h7 | h7
       ·
        by_cases hem : e.on ∈ M
        ·
         exfalso
         have h9 := (k4 e.on hem).1
         rw [Array.getD_eq_getD_getElem?] at h7 h9
         cases hx : l0[e.on]? with
         | none => rw [hx] at h7; simp at h7
         | some b => rw [hx] at h7 h9; simp at h7 h9; rw [h7] at h9; cases h9
        ·
         have h13 : l0.getD e.on true = true ∧ e.on < l0.size := by
          rw [Array.getD_eq_getD_getElem?] at h7 ⊢
          cases hx : l0[e.on]? with
          | none => rw [hx] at h7; simp at h7
          | some b => rw [hx] at h7; exact ⟨by simpa using h7, (Array.getElem?_eq_some_iff.1 hx).1⟩
         have h14 := hout e.on hem
         rw [h13.1] at h14
         rw [Array.getD_eq_getD_getElem?] at h14 ⊢
         have h15 : e.on < listed.size := by omega
         rw [Array.getElem?_eq_getElem h15] at h14 ⊢
         simpa using h14
       ·
        rw [Array.any_eq_true'] at h7
        obtain ⟨e', he', hbe'⟩ := h7
        simp only [Bool.and_eq_true, beq_iff_eq] at hbe'
        have h8 := hall e' he' hbe'.1
        rw [hbe'.2] at h8
        exact h8
   -- something is ready: the least of U
   have hmin : ∃ i, i ∈ U ∧ ∀ j, j ∈ U → i ≤ j := by
    have hne : U ≠ [] := by intro h; rw [h] at hU; simp at hU
    refine ⟨U.min hne, List.min_mem hne, fun j hj => List.min_le_of_mem hj⟩
   have hsome : Region.ready .any ops listed ≠ [] := by
    obtain ⟨i, hi, hle⟩ := hmin
    have hm := hsub i hi
    have h4 := k4 i hm
    cases ho : ops[i]? with
    | none => rw [ho] at h4; simp at h4
    | some o =>
     rw [ho] at h4
     simp only [Bool.and_eq_true, beq_iff_eq] at h4
     obtain ⟨_, ⟨⟨_, _⟩, _⟩, h7⟩ := h4
     have : i ∈ Region.ready .any ops listed := by
      rw [mem_ready]
      refine ⟨(hin i hm).2 hi, o, ho, fun e he hbe => ?_⟩
      rw [Array.all_eq_true_iff_forall_mem] at h7
      have h8 := h7 e he
      rw [hbe] at h8
      simp only [Bool.not_true, Bool.false_or, Bool.or_eq_true, Bool.and_eq_true] at h8
      have hgd : listed.getD e.on true = true → listed.getD e.on false = true ∨ ops.size ≤ e.on := fun h => by
       rw [Array.getD_eq_getD_getElem?] at h ⊢
       cases hx : listed[e.on]? with
       | none => right; have := Array.getElem?_eq_none_iff.1 hx; omega
       | some b => left; rw [hx] at h; simpa using h
      by_cases hem : e.on ∈ M
      ·
       have hlt : e.on < i := by
        rcases h8 with h8 | h8
        ·
         exfalso
         have h9 := k4 e.on hem
         have h10 := h9.1
         rw [Array.getD_eq_getD_getElem?] at h8 h10
         cases hx : l0[e.on]? with
         | none => rw [hx] at h8; simp at h8
         | some b => rw [hx] at h8 h10; simp at h8 h10; rw [h8] at h10; cases h10
        ·
         simpa using h8.2
       have hnu : e.on ∉ U := fun h => by have := hle _ h; omega
       have h11 : listed.getD e.on true = true := by
        cases h12 : listed.getD e.on true with
        | true => rfl
        | false => exact absurd ((hin e.on hem).1 h12) hnu
       rcases hgd h11 with h | h
       ·
        exact h
       ·
        exfalso
        have := k4 e.on hem
        rw [Array.getElem?_eq_none h] at this
        simp at this
      ·
       rcases h8 with h8 | h8
       ·
        have h13 : l0.getD e.on true = true := by
         rw [Array.getD_eq_getD_getElem?] at h8 ⊢
         cases hx : l0[e.on]? with
         | none => rfl
         | some b => rw [hx] at h8; simpa using h8
        have h14 := hout e.on hem
        rw [h13] at h14
        rcases hgd h14 with h | h
        ·
         exact h
        ·
         exfalso
         rw [Array.getD_eq_getD_getElem?, Array.getElem?_eq_none (by omega)] at h8
         simp at h8
       ·
        exact absurd (by simpa using h8.1) hem
     intro h
     rw [h] at this
     cases this
   refine ⟨fun h => absurd h hsome, fun i hi => ?_⟩
   have hiU := hready i hi
   have hm := hsub i hiU
   obtain ⟨_, o, ho, _⟩ := mem_ready.1 hi
   obtain ⟨hdst, hds⟩ := hdstd i hm o ho
   refine wpOp_step ho (fun K' hK => ?_)
   have hiN : i ∈ N := by
    have := k7 i hm
    rw [Bool.or_eq_true] at this
    rcases this with h | h
    ·
     simpa using h
    ·
     exact absurd ⟨i, by simpa using h, hiU, hi⟩ hE
   refine hstep.at hiN o ho f w hb (hpre i hiU hi o ho) K' ?_
   intro a' w'' v ha' hv hfresh hb'
   refine hK _ _ ⟨hS _ (hb.trans (hb'.mono hb.size)), ?_⟩
   rw [ha', hdst, fillA_put hds]
   exact hgo i hiU hi o ho w'' v hv hfresh hb'
end
section
variable {P : Program} {ops : Array Oper} {Q : Exit → Act → World → Prop}
def pickV : List (Nat × (Value → World → Prop)) → Nat → Value → World → Prop
 | [], _ => fun _ _ => True
 | (j, p) :: l, i => if i = j then p else pickV l i
def StV : List (Nat × (Value → World → Prop)) → Prop
 | [] => True
 | (_, p) :: l => (∀ v w w', Below w.heap.size w w' → p v w → p v w') ∧ StV l
theorem StV.st : ∀ {l : List (Nat × (Value → World → Prop))}, StV l → ∀ i v w w', Below w.heap.size w w' → pickV l i v w → pickV l i v w'
 | [], _, _, _, _, _, _, _ => trivial
 | (j, p) :: l, h, i, v, w, w', hb, hp => by
  unfold pickV at hp ⊢
  split
  ·
   rename_i he; rw [if_pos he] at hp; exact h.1 v w w' hb hp
  ·
   rename_i he; rw [if_neg he] at hp; exact h.2.st i v w w' hb hp
def lookN : List (Nat × Nat) → Nat → Nat
 | [], _ => 0
 | (j, d) :: l, i => if i = j then d else lookN l i
def lookL : List (Nat × List Nat) → Nat → List Nat
 | [], _ => []
 | (j, d) :: l, i => if i = j then d else lookL l i
theorem wpAnyH_modular {S : World → Prop} {a : Act} {w : World} {fuel : Nat} {l0 : Array Bool} (M N E ds : List Nat) (lM : Array Bool) (F : Nat) (dst : List (Nat × Nat)) (preds : List (Nat × List Nat)) (al : List Nat) (pv : List (Nat × (Value → World → Prop)))
  (hf : fuel = F + M.length) (hchk : modOk ops l0 lM M N E (lookN dst) (lookL preds) ds = true) (hnd : M.Nodup) (hsz : l0.size = ops.size) (hst : StV pv)
  (hal : AllM (fun i => ∀ v w, pickV pv i v w → ∃ B, v = .pointer (some ⟨B, 0, none⟩) ∧ B < w.heap.size) al)
  (hS : ∀ w', Below w.heap.size w w' → S w')
  (hstep : AllM (StepM P ops Q a ds w (pickV pv) (lookN dst) (lookL preds) al) N) (heag : AllM (EagerM P ops a ds w (pickV pv) (lookN dst) (lookL preds)) E) (hEal : ∀ i, i ∈ E → i ∉ al)
  (hend : ∀ f w', Below w.heap.size w w' → (∀ i, i ∈ M → pickV pv i (f (lookN dst i)) w') → (∀ i j, i ∈ M → j ∈ M → i ∈ al → j ∈ al → i ≠ j → f (lookN dst i) ≠ f (lookN dst j)) → wpAnyH P .any ops Q S F lM (fillA a ds f) w') (hQ : ∀ c a (d : Nat) v w, Q (.panic c) (Act.put a (some d) v) w → Q (.panic c) a w := by exact fun _ _ _ _ _ h => h) :
  wpAnyH P .any ops Q S fuel l0 a w := by
 have k4 : ∀ i, i ∈ M → l0.getD i true = false := fun i hi => by
  have h := hchk
  unfold modOk at h
  simp only [Bool.and_eq_true, beq_iff_eq, List.all_eq_true] at h
  exact (h.1.1.1.1.1.2 i hi).1
 have h := wpAnyH_mod hchk hQ hst.st (fun i v w hi h => hal.at hi v w h) hS hstep heag hEal hend M.length M l0 (fun d => a.tmps.getD d undef) w rfl hsz (fun _ _ => rfl) (fun i hi => ⟨fun _ => hi, fun _ => k4 i hi⟩) (fun _ h => h) hnd (Below.refl _ _) (fun i hi hn => absurd hi hn) (fun i j hi _ hn => absurd hi hn) (fun i hi hn => absurd hi hn)
 rw [fillA_id] at h
 rw [hf]
 exact h
end
theorem Sx.addBox {w0 w : World} {bs : List Bx} {fs : List Fx} (h : Sx w0 w bs fs) {B T : Nat} {cs : Array Value} (hB : w.heap[B]? = some (.cells cs T (0, 0))) (h1 : w0.heap.size ≤ B) (hp : cs.toList.all plainV = true) (hn : ∀ b, b ∈ bs → b.1 ≠ B) : Sx w0 w ((B, cs, T) :: bs) fs := by
 refine ⟨h.bel, fun i b hi => ?_, ?_, h.fra⟩
 ·
  match i, hi with
  | 0, hi => simp at hi; subst hi; exact ⟨hB, h1, hp⟩
  | i + 1, hi => exact h.box i b (by simpa using hi)
 ·
  rw [List.map_cons, List.nodup_cons]
  refine ⟨fun hm => ?_, h.nod⟩
  obtain ⟨b, hb1, hb2⟩ := List.mem_map.1 hm
  exact hn b hb1 hb2
theorem Sx.lt {w0 w : World} {bs : List Bx} {fs : List Fx} (h : Sx w0 w bs fs) : ∀ b, b ∈ bs → b.1 < w.heap.size := fun b hb => by
 obtain ⟨i, hi⟩ := List.mem_iff_getElem?.1 hb
 exact blk_lt (h.box i b hi).1
end Go.Proofs.Ytgmpekhiohbakaa

namespace Go.Proofs.Ytgmpekhiohbakaa
open Go.RowKit

abbrev Ent := Int × Rat × Rat
def Ent7 (R : World → Value → Rat → Prop) (w : World) (b o : Nat) (e : Ent) : Prop :=
 ∃ x y : R3, w.cell? ⟨b, o, none⟩ = some (.int .i64 e.1) ∧ w.cell? ⟨b, o + 1, none⟩ = some (.bool x.b) ∧ w.cell? ⟨b, o + 2, none⟩ = some (.slice x.a x.n x.c) ∧ w.cell? ⟨b, o + 3, none⟩ = some (.slice x.d x.m x.e) ∧ w.cell? ⟨b, o + 4, none⟩ = some (.bool y.b) ∧ w.cell? ⟨b, o + 5, none⟩ = some (.slice y.a y.n y.c) ∧ w.cell? ⟨b, o + 6, none⟩ = some (.slice y.d y.m y.e) ∧ R w x.val e.2.1 ∧ R w y.val e.2.2
def TabOf (R : World → Value → Rat → Prop) (w : World) (v : Value) (es : List Ent) : Prop :=
 ∃ ao cap, v = .slice ao es.length cap ∧ (0 < es.length → ∃ b off, ao = some ⟨b, off, none⟩ ∧ b < w.heap.size ∧ ∀ i, i < es.length → Ent7 R w b (off + i * 7) (es.getD i (0, 0, 0)))
theorem Ent7.below {R : World → Value → Rat → Prop} (hR : ∀ w w' v q, R w v q → Below w.heap.size w w' → R w' v q) {w w' : World} {b o : Nat} {e : Ent} (h : Ent7 R w b o e) (hb : Below w.heap.size w w') (hl : b < w.heap.size) : Ent7 R w' b o e := by
 obtain ⟨x, y, h0, h1, h2, h3, h4, h5, h6, h7, h8⟩ := h
 have c : ∀ j v, w.cell? ⟨b, j, none⟩ = some v → w'.cell? ⟨b, j, none⟩ = some v := fun j v h => (hb.cell (p := ⟨b, j, none⟩) hl).trans h
 exact ⟨x, y, c _ _ h0, c _ _ h1, c _ _ h2, c _ _ h3, c _ _ h4, c _ _ h5, c _ _ h6, hR _ _ _ _ h7 hb, hR _ _ _ _ h8 hb⟩
theorem TabOf.below {R : World → Value → Rat → Prop} (hR : ∀ w w' v q, R w v q → Below w.heap.size w w' → R w' v q) {w w' : World} {v : Value} {es : List Ent} (h : TabOf R w v es) (hb : Below w.heap.size w w') : TabOf R w' v es := by
 obtain ⟨ao, cap, rfl, h⟩ := h
 refine ⟨ao, cap, rfl, fun hl => ?_⟩
 obtain ⟨b, off, rfl, hlt, h⟩ := h hl
 exact ⟨b, off, rfl, Nat.lt_of_lt_of_le hlt hb.size, fun i hi => (h i hi).below hR hb hlt⟩
def EntRow (R : World → Value → Rat → Prop) (w : World) (xs : List Value) (es : List Ent) : Prop :=
 xs.length = es.length * 7 ∧ ∀ j, j < es.length → ∃ x y : R3, xs[j * 7]? = some (.int .i64 (es.getD j (0, 0, 0)).1) ∧ xs[j * 7 + 1]? = some (.bool x.b) ∧ xs[j * 7 + 2]? = some (.slice x.a x.n x.c) ∧ xs[j * 7 + 3]? = some (.slice x.d x.m x.e) ∧ xs[j * 7 + 4]? = some (.bool y.b) ∧ xs[j * 7 + 5]? = some (.slice y.a y.n y.c) ∧ xs[j * 7 + 6]? = some (.slice y.d y.m y.e) ∧ R w x.val (es.getD j (0, 0, 0)).2.1 ∧ R w y.val (es.getD j (0, 0, 0)).2.2
theorem EntRow.mono {R : World → Value → Rat → Prop} {w w' : World} {xs : List Value} {es : List Ent} (h : EntRow R w xs es) (hr : ∀ v q, R w v q → R w' v q) : EntRow R w' xs es :=
 ⟨h.1, fun j hj => by obtain ⟨x, y, h0, h1, h2, h3, h4, h5, h6, h7, h8⟩ := h.2 j hj; exact ⟨x, y, h0, h1, h2, h3, h4, h5, h6, hr _ _ h7, hr _ _ h8⟩⟩
theorem EntRow.nil (R : World → Value → Rat → Prop) (w : World) : EntRow R w [] [] := ⟨rfl, fun j hj => absurd hj (by simp)⟩
theorem EntRow.snoc {R : World → Value → Rat → Prop} {w : World} {xs : List Value} {es : List Ent} (h : EntRow R w xs es) {f : Int} {x y : R3} {lo hi : Rat} (h1 : R w x.val lo) (h2 : R w y.val hi) :
  EntRow R w (xs ++ [.int .i64 f, .bool x.b, .slice x.a x.n x.c, .slice x.d x.m x.e, .bool y.b, .slice y.a y.n y.c, .slice y.d y.m y.e]) (es ++ [(f, lo, hi)]) := by
 obtain ⟨hl, h⟩ := h
 refine ⟨by simp [hl]; omega, fun j hj => ?_⟩
 rcases Nat.lt_or_ge j es.length with hj1 | hj1
 ·
  obtain ⟨x', y', g0, g1, g2, g3, g4, g5, g6, g7, g8⟩ := h j hj1
  have e : ∀ k, k < 7 → (xs ++ [.int .i64 f, .bool x.b, .slice x.a x.n x.c, .slice x.d x.m x.e, .bool y.b, .slice y.a y.n y.c, .slice y.d y.m y.e])[j * 7 + k]? = xs[j * 7 + k]? := fun k hk => List.getElem?_append_left (by omega)
  have e2 : (es ++ [(f, lo, hi)]).getD j (0, 0, 0) = es.getD j (0, 0, 0) := by simp [List.getD, List.getElem?_append_left hj1]
  rw [e2]
  exact ⟨x', y', by rw [← g0]; exact e 0 (by omega), by rw [← g1]; exact e 1 (by omega), by rw [← g2]; exact e 2 (by omega), by rw [← g3]; exact e 3 (by omega), by rw [← g4]; exact e 4 (by omega), by rw [← g5]; exact e 5 (by omega), by rw [← g6]; exact e 6 (by omega), g7, g8⟩
 ·
  obtain rfl : j = es.length := by simp at hj; omega
  have e : ∀ k, (xs ++ [.int .i64 f, .bool x.b, .slice x.a x.n x.c, .slice x.d x.m x.e, .bool y.b, .slice y.a y.n y.c, .slice y.d y.m y.e])[es.length * 7 + k]? = ([.int .i64 f, .bool x.b, .slice x.a x.n x.c, .slice x.d x.m x.e, .bool y.b, .slice y.a y.n y.c, .slice y.d y.m y.e] : List Value)[k]? := fun k => by rw [List.getElem?_append_right (by omega), hl]; congr 1; omega
  have e2 : (es ++ [(f, lo, hi)]).getD es.length (0, 0, 0) = (f, lo, hi) := by simp [List.getD]
  rw [e2]
  exact ⟨x, y, e 0, e 1, e 2, e 3, e 4, e 5, e 6, h1, h2⟩
theorem TabOf.ofRow {R : World → Value → Rat → Prop} {w : World} {base : Nat} {e : TypeId} {v : Value} {xs : List Value} {es : List Ent} (h : LRow w base e 7 v es.length xs) (ht : EntRow R w xs es) : TabOf R w v es := by
 rcases Nat.eq_zero_or_pos es.length with h0 | hp
 ·
  rcases h.1.2 with ⟨rfl, _⟩ | ⟨g, cap, cur, rfl, _⟩
  ·
   exact ⟨none, 0, by rw [h0], fun h => absurd h (by omega)⟩
  ·
   exact ⟨_, _, rfl, fun h => absurd h (by omega)⟩
 ·
  obtain ⟨g, cap, rfl⟩ := ownsRow_some h.1 hp
  have hc : ∀ j u, xs[j]? = some u → w.cell? ((⟨g, 0, none⟩ : Addr).add j) = some u := h.1.cells (g := g) rfl
  have hlt : g < w.heap.size := (h.lt rfl).1
  refine ⟨_, _, rfl, fun _ => ⟨g, 0, rfl, hlt, fun i hi => ?_⟩⟩
  obtain ⟨x, y, h0, h1, h2, h3, h4, h5, h6, h7, h8⟩ := ht.2 i hi
  have ea : ∀ j, (⟨g, 0, none⟩ : Addr).add j = ⟨g, 0 + j, none⟩ := fun j => by unfold Addr.add; split <;> simp_all
  have ec : ∀ k u, xs[i * 7 + k]? = some u → w.cell? ⟨g, 0 + i * 7 + k, none⟩ = some u := fun k u h => by rw [show 0 + i * 7 + k = 0 + (i * 7 + k) by omega, ← ea]; exact hc _ _ h
  exact ⟨x, y, ec 0 _ h0, ec 1 _ h1, ec 2 _ h2, ec 3 _ h3, ec 4 _ h4, ec 5 _ h5, ec 6 _ h6, h7, h8⟩
abbrev RawE := Int × (Int × Int) × (Int × Int)
def RawAt (w : World) (b o : Nat) (r : RawE) : Prop :=
 w.cell? ⟨b, o, none⟩ = some (.int .i64 r.1) ∧ w.cell? ⟨b, o + 1, none⟩ = some (.int .i64 r.2.1.1) ∧ w.cell? ⟨b, o + 2, none⟩ = some (.int .i64 r.2.1.2) ∧ w.cell? ⟨b, o + 3, none⟩ = some (.int .i64 r.2.2.1) ∧ w.cell? ⟨b, o + 4, none⟩ = some (.int .i64 r.2.2.2)
def RawsOf (w : World) (v : Value) (rs : List RawE) : Prop :=
 ∃ ao cap, v = .slice ao rs.length cap ∧ (0 < rs.length → ∃ b off, ao = some ⟨b, off, none⟩ ∧ b < w.heap.size ∧ ∀ i, i < rs.length → RawAt w b (off + i * 5) (rs.getD i (0, (0, 0), (0, 0))))
theorem RawAt.below {w w' : World} {b o : Nat} {r : RawE} {n : Nat} (h : RawAt w b o r) (hb : Below n w w') (hl : b < n) : RawAt w' b o r := by
 obtain ⟨h0, h1, h2, h3, h4⟩ := h
 have c : ∀ j v, w.cell? ⟨b, j, none⟩ = some v → w'.cell? ⟨b, j, none⟩ = some v := fun j v h => (hb.cell (p := ⟨b, j, none⟩) hl).trans h
 exact ⟨c _ _ h0, c _ _ h1, c _ _ h2, c _ _ h3, c _ _ h4⟩
theorem RawsOf.below {w w' : World} {v : Value} {rs : List RawE} (h : RawsOf w v rs) (hb : Below w.heap.size w w') : RawsOf w' v rs := by
 obtain ⟨ao, cap, rfl, h⟩ := h
 refine ⟨ao, cap, rfl, fun hl => ?_⟩
 obtain ⟨b, off, rfl, hlt, h⟩ := h hl
 exact ⟨b, off, rfl, Nat.lt_of_lt_of_le hlt hb.size, fun i hi => (h i hi).below hb hlt⟩
def hiE (r : RawE) : Rat := hiQ (fracQ r.2.1.1 r.2.1.2) (fracQ r.2.2.1 r.2.2.2)
end Go.Proofs.Ytgmpekhiohbakaa

namespace Go.Proofs.Ytgmpekhiohbakaa
open Go.RowKit

theorem hi2 (a b : Rat) : bestUp gtB (fun i => [a, b].getD i 0) 1 = hiQ a b := by
 unfold bestUp bestUp hiQ gtB cmpR
 simp only [List.getD, List.getElem?_cons_succ, List.getElem?_cons_zero, Option.getD_some]
 grind
end Go.Proofs.Ytgmpekhiohbakaa

namespace Go.Proofs.Ytgmpekhiohbakaa
open Go.RowKit

theorem Sx.to {w0 w W : World} {bs cs : List Bx} {fs : List Fx} (h : Sx w0 w bs fs) (e : w = W) (eb : bs = cs) : Sx w0 W cs fs := by subst e; subst eb; exact h
theorem nbs : (∀ {α : Type} {xs : List α} {i : Nat} (h : i < xs.toArray.size), xs.toArray[i] = xs[i]) ∧ (∀ {α : Type} (a : α) (l : List α) (h : 0 < (a :: l).length), (a :: l)[0] = a) ∧ (∀ {α : Type} (a : α) (l : List α) (i : Nat) (h : i + 1 < (a :: l).length), (a :: l)[i + 1] = l[i]'(by simpa using h)) ∧ (∀ {α : Type} (l : List α) (i : Nat) (a : α), l.toArray.setIfInBounds i a = (l.set i a).toArray) ∧ (∀ {α : Type} {x : α} {xs : List α} {a : α}, (x :: xs).set 0 a = a :: xs) ∧ ∀ {α : Type} {x : α} {xs : List α} {i : Nat} {a : α}, (x :: xs).set (i + 1) a = x :: xs.set i a :=
 ⟨nb1, nb2, nb3, nb4, nb5, nb6⟩
section
variable {P : Program} {ops : Array Oper} {Q : Exit → Act → World → Prop} {md : Region.Mode} {S : World → Prop}
theorem tkB {i : Nat} {oi : Oper} {v : Value} {fuel : Nat} {listed : Array Bool} {a : Act} {w : World} (hi : ops[i]? = some oi) (hy : ∀ w, S w → (execOp a.eval oi).run P w = .ok (.value v) w)
  (h : wpAnyH P md ops Q S fuel (listed.setIfInBounds i true) (a.put oi.dst v) w) (hS : S w := by assumption) (hw : Region.wanted oi (yielded ops a.tmps) = true := by first | rfl | kernel_rfl) (hs : Region.noSelect ops = true := by kernel_rfl) (hf : Region.free md ops listed i = true := by kernel_rfl)
  (hr : (Region.ready md ops listed).contains i = true := by kernel_rfl) (hQ : ∀ c a w, Q (.panic c) (a.put oi.dst v) w → Q (.panic c) a w := by exact fun _ _ _ h => h) : wpAnyH P md ops Q S (fuel + 1) listed a w :=
 tkA hi (Or.inl ⟨hw, hy⟩) hS h hs hf hr hQ
theorem tkC {i : Nat} {oi : Oper} {fuel : Nat} {listed : Array Bool} {a : Act} {w : World} (hi : ops[i]? = some oi)
  (h : wpAnyH P md ops Q S fuel (listed.setIfInBounds i true) (a.put oi.dst undef) w) (hS : S w := by assumption) (hw : Region.wanted oi (yielded ops a.tmps) = false := by first | rfl | kernel_rfl) (hs : Region.noSelect ops = true := by kernel_rfl) (hf : Region.free md ops listed i = true := by kernel_rfl)
  (hr : (Region.ready md ops listed).contains i = true := by kernel_rfl) (hQ : ∀ c a w, Q (.panic c) (a.put oi.dst undef) w → Q (.panic c) a w := by exact fun _ _ _ h => h) : wpAnyH P md ops Q S (fuel + 1) listed a w :=
 tkA (v := undef) hi (Or.inr ⟨hw, rfl⟩) hS h hs hf hr hQ
end
theorem FrcAt.r3 {w : World} {b o : Nat} {q : Rat} (h : FrcAt IsRat w b o q) : ∃ x : R3, w.cell? ⟨b, o, none⟩ = some (.bool x.b) ∧ w.cell? ⟨b, o + 1, none⟩ = some (.slice x.a x.n x.c) ∧ w.cell? ⟨b, o + 2, none⟩ = some (.slice x.d x.m x.e) ∧ IsRat w x.val q := by
 obtain ⟨v0, vn, vd, h0, h1, h2, h3⟩ := h
 obtain ⟨x, hx⟩ := h3.open3
 injection hx with hx
 injection hx with hx
 simp only [List.cons.injEq, and_true] at hx
 obtain ⟨rfl, rfl, rfl⟩ := hx
 exact ⟨x, h0, h1, h2, h3⟩
end Go.Proofs.Ytgmpekhiohbakaa

namespace Go.Proofs.Ytgmpekhiohbakaa
open Go.RowKit

theorem cmp_neg {x y : Rat} : cmpR x y < 0 ↔ x < y := by
 unfold cmpR
 by_cases h : x < y
 ·
  rw [if_pos h]; simp [h]
 ·
  rw [if_neg h]
  by_cases h2 : y < x
  ·
   rw [if_pos h2]; simp [h]
  ·
   rw [if_neg h2]; simp [h]
end Go.Proofs.Ytgmpekhiohbakaa

namespace Go.Proofs.Ytgmpekhiohbakaa
open Go.RowKit

theorem pathErr_8 {l : List Pt} {i : Nat} (h1 : 2 ≤ l.length) (h2 : l.length ≤ 32) (h3 : ptsOk l = true) (hi : i < l.length) (h : twB l i = true) : pathErr l = 8 := by
 unfold pathErr
 rw [if_neg (by omega), if_neg (by rw [h3]; decide), if_pos (anyTo_at hi h)]
theorem pathErr_0 {l : List Pt} (h1 : 2 ≤ l.length) (h2 : l.length ≤ 32) (h3 : ptsOk l = true) (h4 : anyTo (twB l) l.length = false) : pathErr l = 0 := by
 unfold pathErr
 rw [if_neg (by omega), if_neg (by rw [h3]; decide), if_neg (by rw [h4]; decide)]
theorem stErr_path {l : List Pt} {m e : Int} (h : pathErr l = e) (h0 : e ≠ 0) : stErr l m = e ∧ stVal l m = 0 := by
 have : stErr l m = e := by unfold stErr; rw [if_pos (by rw [h]; exact h0), h]
 exact ⟨this, by unfold stVal; rw [this, if_neg h0]⟩
theorem stErr_m {l : List Pt} {m : Int} (h : pathErr l = 0) (hm : m < 0 ∨ 1073741824 < m) : stErr l m = 1 ∧ stVal l m = 0 := by
 have : stErr l m = 1 := by unfold stErr; rw [if_neg (by rw [h]; decide), if_pos hm]
 exact ⟨this, by unfold stVal; rw [this]; rfl⟩
theorem st_ok {l : List Pt} {m : Int} (h : pathErr l = 0) (hm : ¬ (m < 0 ∨ 1073741824 < m)) : stErr l m = 0 ∧ stVal l m = firstTo (narP l m) l.length := by
 have : stErr l m = 0 := by unfold stErr; rw [if_neg (by rw [h]; decide), if_neg hm]
 exact ⟨this, by unfold stVal; rw [this, if_pos rfl]⟩
theorem st_at {l : List Pt} {m : Int} {i : Nat} (h : pathErr l = 0) (hm : ¬ (m < 0 ∨ 1073741824 < m)) (ha : anyTo (narP l m) i = false) (hp : narP l m i = true) (hi : i < l.length) : stErr l m = 0 ∧ stVal l m = (i : Int) := by
 obtain ⟨h1, h2⟩ := st_ok h hm
 exact ⟨h1, by rw [h2, firstTo_at ha hp hi]⟩
theorem st_end {l : List Pt} {m : Int} {n : Nat} (h : pathErr l = 0) (hm : ¬ (m < 0 ∨ 1073741824 < m)) (ha : anyTo (narP l m) n = false) (hn : l.length = n + 1) : stErr l m = 0 ∧ stVal l m = -1 := by
 obtain ⟨h1, h2⟩ := st_ok h hm
 have : anyTo (narP l m) (n + 1) = false := anyTo_up ha (narP_out (by omega))
 exact ⟨h1, by rw [h2, hn, firstTo_none this]⟩
def RetTwoI (a b : Int) (w : World) (e : Ending) (w' : World) : Prop := e = .returned (.tuple #[.int .i64 a, .int .i64 b]) ∧ Below w.heap.size w w'
end Go.Proofs.Ytgmpekhiohbakaa

namespace Go.Proofs.Ytgmpekhiohbakaa
open Go.RowKit

def CapP (v : Value) : Prop := ∃ a n c, v = .slice a n c ∧ n ≤ c
theorem pathErr_r {l : List Pt} (h1 : 2 ≤ l.length) (h2 : l.length ≤ 32) (h : ptsOk l = false) : pathErr l = 1 := by
 unfold pathErr
 rw [if_neg (by omega), if_pos h]
theorem inB_yes {m : Int} (h : inL m 0 1073741824 = true) : ¬ (m < 0 ∨ 1073741824 < m) := by
 have := (inB_iff m 0 1073741824).1 h
 omega
theorem inB_not {m : Int} (h : inL m 0 1073741824 = false) : m < 0 ∨ 1073741824 < m := by
 have := (inB_iff m 0 1073741824)
 by_cases h2 : 0 ≤ m ∧ m ≤ 1073741824
 ·
  rw [this.2 h2] at h; cases h
 ·
  omega
theorem tw_ne {l : List Pt} {i j n : Nat} (h : anyTo (twB l) n = false) (hj : i = j + 1) (hi : i < n) : ¬ ((ptAt l i).1 = (ptAt l j).1 ∧ (ptAt l i).2 = (ptAt l j).2) := fun ⟨h1, h2⟩ => by
 have := anyTo_sub h hi
 rw [twB_in hj, decide_eq_true h1, decide_eq_true h2] at this
 cases this
theorem Sx.st_II {w0 w : World} {bs : List Bx} {fs : List Fx} (h : Sx w0 w bs fs) (i : Nat) (o0 : Int) (o1 : Int) (n0 : Int) (n1 : Int) {B T : Nat} (hi : bs[i]? = some (B, #[.int .i64 o0, .int .i64 o1], T)) :
  Sx w0 (((w).setCell ⟨B, 0, none⟩ (.int .i64 n0)).setCell ⟨B, 1, none⟩ (.int .i64 n1)) (bs.set i (B, #[.int .i64 n0, .int .i64 n1], T)) fs := by
 have hl := (List.getElem?_eq_some_iff.1 hi).1
 have g := ((h).set i hi 0 (v := .int .i64 n0) rfl).set i (by rw [List.getElem?_set, if_pos rfl, if_pos (by simpa using hl)]) 1 (v := .int .i64 n1) rfl
 simpa using g
set_option maxRecDepth 100000 in
set_option maxHeartbeats 8000000 in
theorem psteered_any (l : List Pt) (m : Int) (v : Value) (w : World) (h : PairsOf w v l) (hcap : CapP v) : Calls Try.prog 10 #[v, .int .i64 m] w (RetTwoI (stVal l m) (stErr l m) w) := by
 have HS := Lib.hid (Sx.init w)
 have HP := Lib.hid h
 obtain ⟨ao, cap, rfl, hE⟩ := h
 obtain ⟨ca, cn, cc, hce, hcc⟩ := hcap
 cases hce
 have HCAP := Lib.hid hcc
 clear hcc
 have HE := Lib.hid hE
 clear hE
 by_cases hl1 : l.length < 2
 ·
  have HR : Hid (pathErr l = 4) := by show _ = _; unfold pathErr; rw [if_pos (by omega)]
  have t1 : decide ((l.length : Int) < 2) = true := decide_eq_true (by omega)
  have t1b : decide (l.length < 2) = true := decide_eq_true (by omega)
  go_enter Try.func10, Try.ntmps10
  go_wp2_with fail
  go_ret2
  exact ⟨by rw [(stErr_path (m := m) (HR.out) (show (4 : Int) ≠ 0 by decide)).2, (stErr_path (m := m) (HR.out) (show (4 : Int) ≠ 0 by decide)).1] <;> rfl, HS.out.bel⟩
 by_cases hl2 : 32 < l.length
 ·
  have HR : Hid (pathErr l = 4) := by show _ = _; unfold pathErr; rw [if_pos (by omega)]
  have t1 : decide ((l.length : Int) < 2) = false := decide_eq_false (by omega)
  have t1b : decide (l.length < 2) = false := decide_eq_false (by omega)
  have t2 : decide ((l.length : Int) > 32) = true := decide_eq_true (by omega)
  have t2b : decide (32 < l.length) = true := decide_eq_true (by omega)
  go_enter Try.func10, Try.ntmps10
  go_wp2_with fail
  go_ret2
  exact ⟨by rw [(stErr_path (m := m) (HR.out) (show (4 : Int) ≠ 0 by decide)).2, (stErr_path (m := m) (HR.out) (show (4 : Int) ≠ 0 by decide)).1] <;> rfl, HS.out.bel⟩
 ·
  have HL2 : Hid (2 ≤ l.length) := by show _ ≤ _; omega
  have HL32 : Hid (l.length ≤ 32) := by show _ ≤ _; omega
  have t1 : decide ((l.length : Int) < 2) = false := decide_eq_false (by omega)
  have t1b : decide (l.length < 2) = false := decide_eq_false (by omega)
  have t2 : decide ((l.length : Int) > 32) = false := decide_eq_false (by omega)
  have t2b : decide (32 < l.length) = false := decide_eq_false (by omega)
  go_enter Try.func10, Try.ntmps10
  go_wp2_with fail
  cases t1 : ptsOk l with
  | true =>
   refine (isRight_any l _ _ (HP.out.below HS.out.bel) (by omega)).mono ?_
   rw [t1]
   rintro e w2 ⟨rfl, hb2⟩
   replace HS := Lib.hid (HS.out.below hb2)
   clear hb2
   have HPO := Lib.hid t1
   obtain ⟨b, off, rfl, hbl, hLL⟩ := HE.out (by have := HL2.out; omega)
   have HBL := Lib.hid hbl
   have HLL := Lib.hid hLL
   clear hbl hLL
   obtain ⟨n1, hn1⟩ : ∃ n, l.length = n + 1 := ⟨l.length - 1, by omega⟩
   have HN1 := Lib.hid hn1
   have hn1b : l.length - 1 = n1 := by omega
   have hcap1 : l.length ≤ cap := HCAP.out
   clear hn1
   go_wp2_with fail
   go_loopw [28] (fun u28 wr => ∃ (i : Nat), i ≤ n1 ∧ u28 = .int .i64 i ∧ Hid (anyTo (twB l) (i + 1) = false) ∧ Hid (Sx w wr [] []))
    (fun u _ => n1 - (intOf u).toNat)
   case atStart => exact ⟨0, Nat.zero_le _, rfl, Lib.hid rfl, Lib.hid (HS.out.bare)⟩
   case round =>
    obtain ⟨wr3, hwr3⟩ : ∃ z, z = wr := ⟨_, rfl⟩
    subst hwr3
    clear HS
    obtain ⟨i, hi, rfl, HTO, HS⟩ := hrel
    by_cases hlt : i < n1
    ·
     have hlt' : (i : Int) < n1 := by omega
     have hge' : (0 : Int) ≤ i := by omega
     have HLT := Lib.hid hlt
     have h2L := HL2.out
     have h32 := HL32.out
     have hLL := HLL.out
     have hn1 := HN1.out
     obtain ⟨k, hk⟩ : ∃ k, k = i + 1 := ⟨_, rfl⟩
     have hkl : k < l.length := by omega
     have hil : i < l.length := by omega
     have hi2 : (i : Int) < l.length := by omega
     obtain ⟨Gg0, Gg1⟩ := hLL i hil
     have G0 := Lib.hid Gg0
     have G1 := Lib.hid Gg1
     clear Gg0 Gg1
     obtain ⟨Fg0, Fg1⟩ := hLL k hkl
     have F0 := Lib.hid Fg0
     have F1 := Lib.hid Fg1
     clear Fg0 Fg1
     have hoff : off + k * 2 = off + 2 + i * 2 := by omega
     rw [hoff] at F0 F1
     have HTW := Lib.hid (twB_in (l := l) (show k = i + 1 from hk))
     have HEQ : ∀ W, (binOp .eql 27 (.agg #[.int .i64 (l.getD k (0, 0)).1, .int .i64 (l.getD k (0, 0)).2]) (.agg #[.int .i64 (l.getD i (0, 0)).1, .int .i64 (l.getD i (0, 0)).2])).run Try.prog W = .ok (.bool (twB l k)) W := fun W => by rw [HTW.out]; exact eql_pt _ _ _ _ W
     have HNOT : Hid (twB l k = true → pathErr l = 8) := pathErr_8 h2L h32 HPO.out hkl
     have HUP : Hid (twB l k = false → anyTo (twB l) (i + 1 + 1) = false) := fun h => by rw [← hk]; exact anyTo_up (by rw [hk]; exact HTO.out) h
     clear hLL hlt hkl hil hk HTW hoff hn1
     generalize twB l k = tw at *
     generalize (l.getD i (0, 0)).1 = xi at *
     generalize (l.getD i (0, 0)).2 = yi at *
     generalize (l.getD k (0, 0)).1 = xk at *
     generalize (l.getD k (0, 0)).2 = yk at *
     have Fc0 := (HS.out.bel.cell (p := ⟨b, off + 2 + i * 2, none⟩) HBL.out).trans F0.out
     have Fc1 := (HS.out.bel.cell (p := ⟨b, off + 2 + i * 2 + 1, none⟩) HBL.out).trans F1.out
     go_wp2_with fail
     clear Fc0 Fc1
     generalize hW4 : (wr3).alloc (.cells _ _) = W4 at *
     replace HS := Lib.hid (((HS.out).alloc (B := wr3.heap.size) rfl (by rfl)).to hW4 (by (try simp only [nb5, nb6]); rfl))
     clear hW4
     refine wp_region_held_drew (S := (fun w' => Sx w w' [(wr3.heap.size, #[.int .i64 xk, .int .i64 yk], 27)] [])) (by kernel_rfl) ((HS.out.drew).bare) (fun hh => ?_)
     replace HS := Lib.hid HS.out.drew
     refine tkB (i := 0) (v := ?vk6) rfl ?hk6 ?rk6
     case hk6 => intro u hSu; (try dsimp only at hSu); have qb0e := (hSu.at 0 _ _ _ rfl); have qb0c0 := blk_cell qb0e 0 (.int .i64 xk) rfl; have qb0c1 := blk_cell qb0e 1 (.int .i64 yk) rfl; clear qb0e; clear hSu; go_simp <;> with_reducible rfl
     try simp only [nbs, Act.put]
     refine tkB (i := 1) (v := ?vk7) rfl ?hk7 ?rk7
     case hk7 => intro u hSu; go_simp <;> with_reducible rfl
     try simp only [nbs, Act.put]
     refine tkB (i := 2) (v := ?vk8) rfl ?hk8 ?rk8
     case hk8 => intro u hSu; go_simp <;> with_reducible rfl
     try simp only [nbs, Act.put]
     refine tkB (i := 3) (v := ?vk9) rfl ?hk9 ?rk9
     case hk9 => intro u hSu; go_simp <;> with_reducible rfl
     try simp only [nbs, Act.put]
     refine tkB (i := 4) (v := ?vk10) rfl ?hk10 ?rk10
     case hk10 => intro u hSu; (try dsimp only at hSu); have Gc0 := (hSu.bel.cell (p := ⟨b, off + i * 2, none⟩) HBL.out).trans G0.out; have Gc1 := (hSu.bel.cell (p := ⟨b, off + i * 2 + 1, none⟩) HBL.out).trans G1.out; clear hSu; go_simp <;> with_reducible rfl
     try simp only [nbs, Act.put]
     cases t11 : tw with
     | true =>
      refine tkB (i := 5) (v := ?vk12) rfl ?hk12 ?rk12
      case hk12 => intro u hSu; go_simp <;> with_reducible rfl
      try simp only [nbs, Act.put]
      refine wpAnyH_done (by kernel_rfl) ?_ _
      generalize W4.drew = Wd13 at *
      go_wp2_with fail
      go_ret2
      exact ⟨by rw [(stErr_path (m := m) (HNOT.out t11) (show (8 : Int) ≠ 0 by decide)).2, (stErr_path (m := m) (HNOT.out t11) (show (8 : Int) ≠ 0 by decide)).1] <;> rfl, HS.out.bel⟩
     | false =>
      refine tkB (i := 5) (v := ?vk14) rfl ?hk14 ?rk14
      case hk14 => intro u hSu; go_simp <;> with_reducible rfl
      try simp only [nbs, Act.put]
      refine wpAnyH_done (by kernel_rfl) ?_ _
      generalize W4.drew = Wd15 at *
      go_wp2_with fail
      exact ⟨⟨i + 1, by have := HLT.out; omega, by go_num, Lib.hid (HUP.out t11), Lib.hid ((HS.out).erase 0)⟩, meas_up HLT.out⟩
    ·
     obtain rfl : n1 = i := by omega
     have HPE : Hid (pathErr l = 0) := pathErr_0 HL2.out HL32.out HPO.out (by rw [HN1.out]; exact HTO.out)
     go_wp2_with fail
     cases t16 : inL m 0 1073741824 with
     | true =>
      refine (within_any m 0 1073741824 _).mono ?_
      rw [t16]
      rintro e w17 ⟨rfl, hb17⟩
      replace HS := Lib.hid (HS.out.below hb17)
      clear hb17
      go_wp2_with fail
      have HM : Hid (¬ (m < 0 ∨ 1073741824 < m)) := inB_yes t16
      have HTA : Hid (anyTo (twB l) l.length = false) := by show _ = _; rw [HN1.out]; exact HTO.out
      clear HTO
      go_wp2_with fail
      go_loopw [8] (fun u8 wr => ∃ (i : Nat), i ≤ n1 ∧ u8 = .int .i64 i ∧ 1 ≤ i ∧ Hid (anyTo (narP l m) i = false) ∧ Hid (Sx w wr [] []))
       (fun u _ => n1 - (intOf u).toNat)
      case atStart => exact ⟨1, (by have := HL2.out; have := HN1.out; omega), rfl, Nat.le_refl 1, Lib.hid (anyTo_up rfl (narP_out (by omega))), Lib.hid (HS.out.bare)⟩
      case round =>
       obtain ⟨wr18, hwr18⟩ : ∃ z, z = wr := ⟨_, rfl⟩
       subst hwr18
       clear HS
       obtain ⟨i, hi, rfl, hi1, HTO, HS⟩ := hrel
       by_cases hlt : i < n1
       ·
        have hlt' : (i : Int) < n1 := by omega
        have hge' : (0 : Int) ≤ i := by omega
        have HLT := Lib.hid hlt
        have h2L := HL2.out
        have h32 := HL32.out
        have hLL := HLL.out
        skip
        skip
        have hn1 := HN1.out
        obtain ⟨j, hj⟩ : ∃ j, i = j + 1 := ⟨i - 1, by omega⟩
        obtain ⟨k, hk⟩ : ∃ k, k = i + 1 := ⟨_, rfl⟩
        have hjl : j < l.length := by omega
        have hil : i < l.length := by omega
        have hkl : k < l.length := by omega
        obtain ⟨Dg0, Dg1⟩ := hLL j hjl
        have D0 := Lib.hid Dg0
        have D1 := Lib.hid Dg1
        clear Dg0 Dg1
        obtain ⟨Gg0, Gg1⟩ := hLL i hil
        have G0 := Lib.hid Gg0
        have G1 := Lib.hid Gg1
        clear Gg0 Gg1
        obtain ⟨Fg0, Fg1⟩ := hLL k hkl
        have F0 := Lib.hid Fg0
        have F1 := Lib.hid Fg1
        clear Fg0 Fg1
        have hw1 : IntKind.i64.wrap ((i : Int) - 1) = (j : Int) := (IntWalk.i64_in _ (by omega)).trans (by omega)
        have hw2 : IntKind.i64.wrap ((i : Int) + 1) = (k : Int) := (IntWalk.i64_in _ (by omega)).trans (by omega)
        have hj1 : (0 : Int) ≤ j := by omega
        have hj2 : (j : Int) < l.length := by omega
        have hi2 : (i : Int) < l.length := by omega
        have hk1 : (0 : Int) ≤ k := by omega
        have hk2 : (k : Int) < l.length := by omega
        have tk : decide ((k : Int) < l.length) = true := decide_eq_true hk2
        have tkb : decide (k < l.length) = true := decide_eq_true hkl
        have HNI := Lib.hid (narP_in (m := m) hj hk hkl)
        have HAT : Hid (narP l m i = true → stErr l m = 0 ∧ stVal l m = (i : Int)) := fun h => st_at HPE.out HM.out HTO.out h hil
        have HUP : Hid (narP l m i = false → anyTo (narP l m) (i + 1) = false) := anyTo_up HTO.out
        have oj := ptsOk_get HPO.out j hjl
        have oi := ptsOk_get HPO.out i hil
        have ok := ptsOk_get HPO.out k hkl
        have HK := Lib.hid hk
        clear hn1
        by_cases hz : crossI (ptAt l j) (ptAt l i) (ptAt l k) = 0
        ·
         have hrad := fun W => radius_any (ptAt l j) (ptAt l i) (ptAt l k) W oj oi ok
         have ZR := Lib.hid (rad_sz oj oi ok)
         have hre : radE (ptAt l j) (ptAt l i) (ptAt l k) = 5 := by unfold radE; rw [if_pos hz]
         rw [hre] at hrad
         have HRAD : Hid (∀ W, Calls Try.prog 5 #[.agg #[.int .i64 (l.getD j (0, 0)).1, .int .i64 (l.getD j (0, 0)).2], .agg #[.int .i64 (l.getD i (0, 0)).1, .int .i64 (l.getD i (0, 0)).2], .agg #[.int .i64 (l.getD k (0, 0)).1, .int .i64 (l.getD k (0, 0)).2]] W (RetRatE (radQ (ptAt l j) (ptAt l i) (ptAt l k)) 5 W)) := hrad
         have HDOT : Hid (∀ W, Calls Try.prog 14 #[.agg #[.int .i64 (l.getD i (0, 0)).1, .int .i64 (l.getD i (0, 0)).2], .agg #[.int .i64 (l.getD j (0, 0)).1, .int .i64 (l.getD j (0, 0)).2], .agg #[.int .i64 (l.getD k (0, 0)).1, .int .i64 (l.getD k (0, 0)).2]] W (RetRat ((dotI (ptAt l i) (ptAt l j) (ptAt l k) : Int) : Rat) W)) := fun W => dot_any (ptAt l i) (ptAt l j) (ptAt l k) W oi oj ok
         have hd0 := line_dot hz (tw_ne HTA.out hj hil) (tw_ne HTA.out HK.out hkl)
         have HNP : Hid (narP l m i = decide (sgnI (decide (((dotI (ptAt l i) (ptAt l j) (ptAt l k) : Int) : Rat).num < 0)) ((dotI (ptAt l i) (ptAt l j) (ptAt l k) : Int) : Rat).num.natAbs ≥ 0)) := by show _ = _; rw [HNI.out]; unfold narB; rw [if_pos hz, sgnI_int, decide_eq_decide]; unfold sgI; split <;> rename_i h <;> (try split) <;> omega
         generalize ((dotI (ptAt l i) (ptAt l j) (ptAt l k) : Int) : Rat) = qd at *
         clear hd0
         generalize radQ (ptAt l j) (ptAt l i) (ptAt l k) = qr at *
         clear hrad hre hz hLL hlt hjl hil hkl hj hk oj oi ok HNI
         generalize (l.getD i (0, 0)).1 = xi at *
         generalize (l.getD i (0, 0)).2 = yi at *
         generalize (l.getD j (0, 0)).1 = xj at *
         generalize (l.getD j (0, 0)).2 = yj at *
         generalize (l.getD k (0, 0)).1 = xk at *
         generalize (l.getD k (0, 0)).2 = yk at *
         go_wp2_with fail
         refine wp_region_held_drew (S := (fun w' => Sx w w' [] [])) (by kernel_rfl) ((HS.out.drew).bare) (fun hh => ?_)
         replace HS := Lib.hid HS.out.drew
         have HSW := Lib.hid HS.out.bel.size
         refine tkB (i := 0) (v := ?vk20) rfl ?hk20 ?rk20
         case hk20 => intro u hSu; go_simp <;> with_reducible rfl
         try simp only [nbs, Act.put]
         refine tkB (i := 1) (v := ?vk21) rfl ?hk21 ?rk21
         case hk21 => intro u hSu; go_simp <;> with_reducible rfl
         try simp only [nbs, Act.put]
         refine tkB (i := 2) (v := ?vk22) rfl ?hk22 ?rk22
         case hk22 => intro u hSu; go_simp <;> with_reducible rfl
         try simp only [nbs, Act.put]
         refine tkB (i := 3) (v := ?vk23) rfl ?hk23 ?rk23
         case hk23 => intro u hSu; go_simp <;> with_reducible rfl
         try simp only [nbs, Act.put]
         refine tkB (i := 4) (v := ?vk24) rfl ?hk24 ?rk24
         case hk24 => intro u hSu; (try dsimp only at hSu); have Dc0 := (hSu.bel.cell (p := ⟨b, off + j * 2, none⟩) HBL.out).trans D0.out; have Dc1 := (hSu.bel.cell (p := ⟨b, off + j * 2 + 1, none⟩) HBL.out).trans D1.out; clear hSu; go_simp <;> with_reducible rfl
         try simp only [nbs, Act.put]
         refine tkB (i := 5) (v := ?vk25) rfl ?hk25 ?rk25
         case hk25 => intro u hSu; go_simp <;> with_reducible rfl
         try simp only [nbs, Act.put]
         refine tkB (i := 6) (v := ?vk26) rfl ?hk26 ?rk26
         case hk26 => intro u hSu; go_simp <;> with_reducible rfl
         try simp only [nbs, Act.put]
         refine tkB (i := 7) (v := ?vk27) rfl ?hk27 ?rk27
         case hk27 => intro u hSu; go_simp <;> with_reducible rfl
         try simp only [nbs, Act.put]
         refine tkB (i := 8) (v := ?vk28) rfl ?hk28 ?rk28
         case hk28 => intro u hSu; (try dsimp only at hSu); have Gc0 := (hSu.bel.cell (p := ⟨b, off + i * 2, none⟩) HBL.out).trans G0.out; have Gc1 := (hSu.bel.cell (p := ⟨b, off + i * 2 + 1, none⟩) HBL.out).trans G1.out; clear hSu; go_simp <;> with_reducible rfl
         try simp only [nbs, Act.put]
         refine tkB (i := 9) (v := ?vk29) rfl ?hk29 ?rk29
         case hk29 => intro u hSu; go_simp <;> with_reducible rfl
         try simp only [nbs, Act.put]
         refine tkB (i := 10) (v := ?vk30) rfl ?hk30 ?rk30
         case hk30 => intro u hSu; go_simp <;> with_reducible rfl
         try simp only [nbs, Act.put]
         refine tkB (i := 11) (v := ?vk31) rfl ?hk31 ?rk31
         case hk31 => intro u hSu; go_simp <;> with_reducible rfl
         try simp only [nbs, Act.put]
         refine tkB (i := 12) (v := ?vk32) rfl ?hk32 ?rk32
         case hk32 => intro u hSu; go_simp <;> with_reducible rfl
         try simp only [nbs, Act.put]
         refine tkB (i := 13) (v := ?vk33) rfl ?hk33 ?rk33
         case hk33 => intro u hSu; (try dsimp only at hSu); have Fc0 := (hSu.bel.cell (p := ⟨b, off + k * 2, none⟩) HBL.out).trans F0.out; have Fc1 := (hSu.bel.cell (p := ⟨b, off + k * 2 + 1, none⟩) HBL.out).trans F1.out; clear hSu; go_simp <;> with_reducible rfl
         try simp only [nbs, Act.put]
         refine wpAnyH_modular [14, 15, 16] [14, 15, 16] [] [9, 10, 11] #[true, true, true, true, true, true, true, true, true, true, true, true, true, true, true, true, true, false, false, false] 3 [(14, 9), (15, 10), (16, 11)] [(14, []), (15, []), (16, [])] [14, 15, 16] [(14, fun v w => ∃ Br19_14 : Nat, v = .pointer (some ⟨Br19_14, 0, none⟩) ∧ wr18.drew.heap.size ≤ Br19_14 ∧ w.heap[Br19_14]? = some (.cells #[.int .i64 0, .int .i64 0] 27 (0, 0))), (15, fun v w => ∃ Br19_15 : Nat, v = .pointer (some ⟨Br19_15, 0, none⟩) ∧ wr18.drew.heap.size ≤ Br19_15 ∧ w.heap[Br19_15]? = some (.cells #[.int .i64 0, .int .i64 0] 27 (0, 0))), (16, fun v w => ∃ Br19_16 : Nat, v = .pointer (some ⟨Br19_16, 0, none⟩) ∧ wr18.drew.heap.size ≤ Br19_16 ∧ w.heap[Br19_16]? = some (.cells #[.int .i64 0, .int .i64 0] 27 (0, 0)))]
          rfl (by kernel_rfl) (by decide) rfl ⟨(fun v w w' hb ⟨B, e, g, k⟩ => ⟨B, e, g, blk_keep k hb (blk_lt k)⟩), ⟨(fun v w w' hb ⟨B, e, g, k⟩ => ⟨B, e, g, blk_keep k hb (blk_lt k)⟩), ⟨(fun v w w' hb ⟨B, e, g, k⟩ => ⟨B, e, g, blk_keep k hb (blk_lt k)⟩), trivial⟩⟩⟩ ⟨fun v w ⟨B, e, g, k⟩ => ⟨B, e, blk_lt k⟩, ⟨fun v w ⟨B, e, g, k⟩ => ⟨B, e, blk_lt k⟩, ⟨fun v w ⟨B, e, g, k⟩ => ⟨B, e, blk_lt k⟩, trivial⟩⟩⟩ (fun w' hb => Sx.below hh hb) ⟨?_, ?_, ?_, trivial⟩ trivial (by decide) ?_
         ·
          refine StepM.of rfl (fun f w' hb hp K hK => ?_)
          have HSB := HS
          replace HS := Lib.hid (HS.out.below hb)
          simp only [fillA, fillT, List.foldl_cons, List.foldl_nil, Act.put, nb4, nb5, nb6]
          go_simp
          exact hK.out _ _ (.pointer (some ⟨w'.heap.size, 0, none⟩)) (by simp only [fillA, fillT, List.foldl_cons, List.foldl_nil, Act.put, nb4, nb5, nb6, nb1, nb2, nb3]) ⟨_, rfl, hb.size, blk_new _ _ _⟩ (fun _ => rfl) (below1 w' _)
         ·
          refine StepM.of rfl (fun f w' hb hp K hK => ?_)
          have HSB := HS
          replace HS := Lib.hid (HS.out.below hb)
          simp only [fillA, fillT, List.foldl_cons, List.foldl_nil, Act.put, nb4, nb5, nb6]
          go_simp
          exact hK.out _ _ (.pointer (some ⟨w'.heap.size, 0, none⟩)) (by simp only [fillA, fillT, List.foldl_cons, List.foldl_nil, Act.put, nb4, nb5, nb6, nb1, nb2, nb3]) ⟨_, rfl, hb.size, blk_new _ _ _⟩ (fun _ => rfl) (below1 w' _)
         ·
          refine StepM.of rfl (fun f w' hb hp K hK => ?_)
          have HSB := HS
          replace HS := Lib.hid (HS.out.below hb)
          simp only [fillA, fillT, List.foldl_cons, List.foldl_nil, Act.put, nb4, nb5, nb6]
          go_simp
          exact hK.out _ _ (.pointer (some ⟨w'.heap.size, 0, none⟩)) (by simp only [fillA, fillT, List.foldl_cons, List.foldl_nil, Act.put, nb4, nb5, nb6, nb1, nb2, nb3]) ⟨_, rfl, hb.size, blk_new _ _ _⟩ (fun _ => rfl) (below1 w' _)
         ·
          intro f wr19 hb hp hd
          obtain ⟨Br19_14, e14, g14, k14⟩ : ∃ Br19_14 : Nat, f 9 = .pointer (some ⟨Br19_14, 0, none⟩) ∧ wr18.drew.heap.size ≤ Br19_14 ∧ wr19.heap[Br19_14]? = some (.cells #[.int .i64 0, .int .i64 0] 27 (0, 0)) := hp 14 (by decide)
          obtain ⟨Br19_15, e15, g15, k15⟩ : ∃ Br19_15 : Nat, f 10 = .pointer (some ⟨Br19_15, 0, none⟩) ∧ wr18.drew.heap.size ≤ Br19_15 ∧ wr19.heap[Br19_15]? = some (.cells #[.int .i64 0, .int .i64 0] 27 (0, 0)) := hp 15 (by decide)
          obtain ⟨Br19_16, e16, g16, k16⟩ : ∃ Br19_16 : Nat, f 11 = .pointer (some ⟨Br19_16, 0, none⟩) ∧ wr18.drew.heap.size ≤ Br19_16 ∧ wr19.heap[Br19_16]? = some (.cells #[.int .i64 0, .int .i64 0] 27 (0, 0)) := hp 16 (by decide)
          have hd14_15 : Br19_14 ≠ Br19_15 := fun h => hd 14 15 (by decide) (by decide) (by decide) (by decide) (by decide) (by show f 9 = f 10; rw [e14, e15, h])
          have hd14_16 : Br19_14 ≠ Br19_16 := fun h => hd 14 16 (by decide) (by decide) (by decide) (by decide) (by decide) (by show f 9 = f 11; rw [e14, e16, h])
          have hd15_16 : Br19_15 ≠ Br19_16 := fun h => hd 15 16 (by decide) (by decide) (by decide) (by decide) (by decide) (by show f 10 = f 11; rw [e15, e16, h])
          replace hh := Sx.below hh hb
          have hlt := HS.out.lt
          replace HS := Lib.hid (HS.out.below hb)
          have hge14 : w.heap.size ≤ Br19_14 := Nat.le_trans HSW.out g14
          have hne14 : ∀ b, b ∈ ([] : List Bx) → b.1 ≠ Br19_14 := by
           intro b hb
           cases hb
          replace HS := Lib.hid (HS.out.addBox k14 hge14 (by rfl) hne14)
          have hge15 : w.heap.size ≤ Br19_15 := Nat.le_trans HSW.out g15
          have hne15 : ∀ b, b ∈ ([(Br19_14, #[.int .i64 0, .int .i64 0], 27)] : List Bx) → b.1 ≠ Br19_15 := by
           intro b hb
           simp only [List.mem_cons, List.not_mem_nil, or_false] at hb
           rcases hb with rfl
           ·
            exact hd14_15
          replace HS := Lib.hid (HS.out.addBox k15 hge15 (by rfl) hne15)
          have hge16 : w.heap.size ≤ Br19_16 := Nat.le_trans HSW.out g16
          have hne16 : ∀ b, b ∈ ([(Br19_15, #[.int .i64 0, .int .i64 0], 27), (Br19_14, #[.int .i64 0, .int .i64 0], 27)] : List Bx) → b.1 ≠ Br19_16 := by
           intro b hb
           simp only [List.mem_cons, List.not_mem_nil, or_false] at hb
           rcases hb with rfl | rfl
           ·
            exact hd15_16
           ·
            exact hd14_16
          replace HS := Lib.hid (HS.out.addBox k16 hge16 (by rfl) hne16)
          simp only [fillA, fillT, List.foldl_cons, List.foldl_nil, Act.put, nb4, nb5, nb6, e14, e15, e16]
          clear hp hd hb hlt e14 e15 e16
          refine rdA (i := 17) rfl (fun K hK => ?_)
          have b0e := (HS.out.at 2 _ _ _ rfl)
          have b0c0 := blk_cell b0e 0 (.int .i64 0) rfl
          have b0c1 := blk_cell b0e 1 (.int .i64 0) rfl
          have b0f0 := blk_frozen b0e 0
          have b0f1 := blk_frozen b0e 1
          have b0l := blk_lt b0e
          clear b0e
          go_simp
          refine hK.out _ _ ((((((((HS.out).st_II 2 0 0 xj yj rfl)).erase 2)).erase 1)).erase 0) (fun hh => ?_)
          clear hK K b0c0 b0c1 b0f0 b0f1 b0l
          try simp only [nbs, Act.put]
          generalize hW34 : ((wr19).setCell _ _).setCell _ _ = W34 at *
          replace HS := Lib.hid (((HS.out).st_II 2 0 0 xj yj rfl).to hW34 (by (try simp only [nb5, nb6]); rfl))
          clear hW34
          refine rdA (i := 18) rfl (fun K hK => ?_)
          have b1e := (HS.out.at 1 _ _ _ rfl)
          have b1c0 := blk_cell b1e 0 (.int .i64 0) rfl
          have b1c1 := blk_cell b1e 1 (.int .i64 0) rfl
          have b1f0 := blk_frozen b1e 0
          have b1f1 := blk_frozen b1e 1
          have b1l := blk_lt b1e
          clear b1e
          go_simp
          refine hK.out _ _ ((((((((HS.out).st_II 1 0 0 xi yi rfl)).erase 2)).erase 1)).erase 0) (fun hh => ?_)
          clear hK K b1c0 b1c1 b1f0 b1f1 b1l
          try simp only [nbs, Act.put]
          generalize hW35 : ((W34).setCell _ _).setCell _ _ = W35 at *
          replace HS := Lib.hid (((HS.out).st_II 1 0 0 xi yi rfl).to hW35 (by (try simp only [nb5, nb6]); rfl))
          clear hW35
          refine rdA (i := 19) rfl (fun K hK => ?_)
          have b2e := (HS.out.at 0 _ _ _ rfl)
          have b2c0 := blk_cell b2e 0 (.int .i64 0) rfl
          have b2c1 := blk_cell b2e 1 (.int .i64 0) rfl
          have b2f0 := blk_frozen b2e 0
          have b2f1 := blk_frozen b2e 1
          have b2l := blk_lt b2e
          clear b2e
          go_simp
          refine hK.out _ _ ((((((((HS.out).st_II 0 0 0 xk yk rfl)).erase 2)).erase 1)).erase 0) (fun hh => ?_)
          clear hK K b2c0 b2c1 b2f0 b2f1 b2l
          try simp only [nbs, Act.put]
          generalize hW36 : ((W35).setCell _ _).setCell _ _ = W36 at *
          replace HS := Lib.hid (((HS.out).st_II 0 0 0 xk yk rfl).to hW36 (by (try simp only [nb5, nb6]); rfl))
          clear hW36
          refine wpAnyH_done (by kernel_rfl) ?_ _
          have b0e := (HS.out.at 2 _ _ _ rfl)
          have b0c0 := blk_cell b0e 0 (.int .i64 xj) rfl
          have b0c1 := blk_cell b0e 1 (.int .i64 yj) rfl
          have b0f0 := blk_frozen b0e 0
          have b0f1 := blk_frozen b0e 1
          have b0l := blk_lt b0e
          clear b0e
          have b1e := (HS.out.at 1 _ _ _ rfl)
          have b1c0 := blk_cell b1e 0 (.int .i64 xi) rfl
          have b1c1 := blk_cell b1e 1 (.int .i64 yi) rfl
          have b1f0 := blk_frozen b1e 0
          have b1f1 := blk_frozen b1e 1
          have b1l := blk_lt b1e
          clear b1e
          have b2e := (HS.out.at 0 _ _ _ rfl)
          have b2c0 := blk_cell b2e 0 (.int .i64 xk) rfl
          have b2c1 := blk_cell b2e 1 (.int .i64 yk) rfl
          have b2f0 := blk_frozen b2e 0
          have b2f1 := blk_frozen b2e 1
          have b2l := blk_lt b2e
          clear b2e
          have bn0_1 := HS.out.ne 2 1 rfl rfl (by decide)
          have bn0_2 := HS.out.ne 2 0 rfl rfl (by decide)
          have bn1_2 := HS.out.ne 1 0 rfl rfl (by decide)
          go_wp2_with fail
          clear b0c0 b0c1 b0f0 b0f1 b0l b1c0 b1c1 b1f0 b1f1 b1l b2c0 b2c1 b2f0 b2f1 b2l bn0_1 bn0_2 bn1_2
          refine (HRAD.out _).mono ?_
          rintro e w37 ⟨v37, rfl, hv37, hb37⟩
          obtain ⟨z37, rfl⟩ := hv37.open3
          replace HS := Lib.hid (HS.out.below hb37)
          clear hb37
          replace HS := Lib.hid (HS.out.addP hv37)
          clear hv37
          go_wp2_with fail
          generalize hW38 : (w37).alloc (.cells _ _) = W38 at *
          replace HS := Lib.hid (((HS.out).alloc (B := w37.heap.size) rfl (by rfl)).to hW38 (by (try simp only [nb5, nb6]); rfl))
          clear hW38
          refine wp_region_held_drew (S := (fun w' => Sx w w' [(w37.heap.size, z37.arr, 32), (Br19_16, #[.int .i64 xk, .int .i64 yk], 27), (Br19_15, #[.int .i64 xi, .int .i64 yi], 27), (Br19_14, #[.int .i64 xj, .int .i64 yj], 27)] [])) (by kernel_rfl) ((HS.out.drew).bare) (fun hh => ?_)
          replace HS := Lib.hid HS.out.drew
          refine tkB (i := 0) (v := ?vk40) rfl ?hk40 ?rk40
          case hk40 => intro u hSu; go_simp <;> with_reducible rfl
          try simp only [nbs, Act.put]
          refine tkB (i := 1) (v := ?vk41) rfl ?hk41 ?rk41
          case hk41 => intro u hSu; go_simp <;> with_reducible rfl
          try simp only [nbs, Act.put]
          refine tkB (i := 2) (v := ?vk42) rfl ?hk42 ?rk42
          case hk42 => intro u hSu; go_simp <;> with_reducible rfl
          try simp only [nbs, Act.put]
          refine tkC (i := 3) rfl ?_
          try simp only [nbs, Act.put]
          refine tkC (i := 4) rfl ?_
          try simp only [nbs, Act.put]
          refine tkC (i := 5) rfl ?_
          try simp only [nbs, Act.put]
          refine tkC (i := 6) rfl ?_
          try simp only [nbs, Act.put]
          refine tkC (i := 7) rfl ?_
          try simp only [nbs, Act.put]
          refine tkC (i := 8) rfl ?_
          try simp only [nbs, Act.put]
          refine tkB (i := 9) (v := ?vk43) rfl ?hk43 ?rk43
          case hk43 => intro u hSu; go_simp <;> with_reducible rfl
          try simp only [nbs, Act.put]
          refine tkB (i := 10) (v := ?vk44) rfl ?hk44 ?rk44
          case hk44 => intro u hSu; go_simp <;> with_reducible rfl
          try simp only [nbs, Act.put]
          refine tkB (i := 11) (v := ?vk45) rfl ?hk45 ?rk45
          case hk45 => intro u hSu; go_simp <;> with_reducible rfl
          try simp only [nbs, Act.put]
          refine tkB (i := 12) (v := ?vk46) rfl ?hk46 ?rk46
          case hk46 => intro u hSu; go_simp <;> with_reducible rfl
          try simp only [nbs, Act.put]
          refine tkB (i := 13) (v := ?vk47) rfl ?hk47 ?rk47
          case hk47 => intro u hSu; go_simp <;> with_reducible rfl
          try simp only [nbs, Act.put]
          refine tkB (i := 14) (v := ?vk48) rfl ?hk48 ?rk48
          case hk48 => intro u hSu; (try dsimp only at hSu); have qb1e := (hSu.at 2 _ _ _ rfl); have qb1c0 := blk_cell qb1e 0 (.int .i64 xi) rfl; have qb1c1 := blk_cell qb1e 1 (.int .i64 yi) rfl; clear qb1e; clear hSu; go_simp <;> with_reducible rfl
          try simp only [nbs, Act.put]
          refine tkB (i := 15) (v := ?vk49) rfl ?hk49 ?rk49
          case hk49 => intro u hSu; (try dsimp only at hSu); have qb0e := (hSu.at 3 _ _ _ rfl); have qb0c0 := blk_cell qb0e 0 (.int .i64 xj) rfl; have qb0c1 := blk_cell qb0e 1 (.int .i64 yj) rfl; clear qb0e; clear hSu; go_simp <;> with_reducible rfl
          try simp only [nbs, Act.put]
          refine tkB (i := 16) (v := ?vk50) rfl ?hk50 ?rk50
          case hk50 => intro u hSu; (try dsimp only at hSu); have qb2e := (hSu.at 1 _ _ _ rfl); have qb2c0 := blk_cell qb2e 0 (.int .i64 xk) rfl; have qb2c1 := blk_cell qb2e 1 (.int .i64 yk) rfl; clear qb2e; clear hSu; go_simp <;> with_reducible rfl
          try simp only [nbs, Act.put]
          refine rdA (i := 17) rfl (fun K hK => ?_)
          go_simp
          go_wp2_with (go_at_call 14; (with_reducible refine (HDOT.out _).mono ?_); rintro e w51 ⟨v51, rfl, hv51, hb51⟩; obtain ⟨z51, rfl⟩ := hv51.open3)
          refine hK.out _ _ (Sx.below hh hb51) (fun hh => ?_)
          clear hK K
          try simp only [nbs, Act.put]
          replace HS := Lib.hid (HS.out.below hb51)
          clear hb51
          replace HS := Lib.hid (HS.out.addP hv51)
          clear hv51
          refine rdA (i := 18) rfl (fun K hK => ?_)
          go_simp
          obtain ⟨c52, hc52⟩ : ∃ κ, κ = sgnI (decide (qd.num < 0)) qd.num.natAbs := ⟨_, rfl⟩
          have HC52 := Lib.hid hc52
          clear hc52
          have a53 := HS.out.p 0 _ _ rfl
          go_wp2_with (go_at_call 29; (with_reducible refine (signR_any qd _ _ a53).mono ?_); rw [← HC52.out]; rintro e w52 ⟨rfl, hb52⟩)
          refine hK.out _ _ (Sx.below hh hb52) (fun hh => ?_)
          clear hK K
          try simp only [nbs, Act.put]
          replace HS := Lib.hid (HS.out.below hb52)
          clear hb52 a53
          by_cases t54p : c52 ≥ 0
          ·
           have t54 : decide (c52 ≥ 0) = true := decide_eq_true t54p
           have T54 := Lib.hid t54p
           clear t54p
           refine tkB (i := 19) (v := ?vk55) rfl ?hk55 ?rk55
           case hk55 => intro u hSu; go_simp <;> with_reducible rfl
           try simp only [nbs, Act.put]
           refine tkB (i := 20) (v := ?vk56) rfl ?hk56 ?rk56
           case hk56 => intro u hSu; go_simp <;> with_reducible rfl
           try simp only [nbs, Act.put]
           refine tkB (i := 21) (v := ?vk57) rfl ?hk57 ?rk57
           case hk57 => intro u hSu; go_simp <;> with_reducible rfl
           try simp only [nbs, Act.put]
           refine wpAnyH_done (by kernel_rfl) ?_ _
           go_wp2_with fail
           go_ret2
           exact ⟨by rw [(HAT.out (by rw [HNP.out, ← HC52.out, t54])).2, (HAT.out (by rw [HNP.out, ← HC52.out, t54])).1] <;> rfl, HS.out.bel⟩
          ·
           have t54 : decide (c52 ≥ 0) = false := decide_eq_false t54p
           have T54 := Lib.hid t54p
           clear t54p
           refine tkB (i := 19) (v := ?vk58) rfl ?hk58 ?rk58
           case hk58 => intro u hSu; go_simp <;> with_reducible rfl
           try simp only [nbs, Act.put]
           refine tkB (i := 20) (v := ?vk59) rfl ?hk59 ?rk59
           case hk59 => intro u hSu; go_simp <;> with_reducible rfl
           try simp only [nbs, Act.put]
           refine tkB (i := 21) (v := ?vk60) rfl ?hk60 ?rk60
           case hk60 => intro u hSu; go_simp <;> with_reducible rfl
           try simp only [nbs, Act.put]
           refine wpAnyH_done (by kernel_rfl) ?_ _
           go_wp2_with fail
           have hk := HK.out
           subst hk
           exact ⟨⟨i + 1, by have := HLT.out; omega, by go_num, by omega, Lib.hid (HUP.out (by rw [HNP.out, ← HC52.out, t54])), Lib.hid (((((HS.out).erase 0).erase 0).erase 0).erase 0)⟩, meas_up HLT.out⟩
        ·
         have hrad := fun W => radius_any (ptAt l j) (ptAt l i) (ptAt l k) W oj oi ok
         have ZR := Lib.hid (rad_sz oj oi ok)
         have hre : radE (ptAt l j) (ptAt l i) (ptAt l k) = 0 := by unfold radE; rw [if_neg hz]
         rw [hre] at hrad
         have HRAD : Hid (∀ W, Calls Try.prog 5 #[.agg #[.int .i64 (l.getD j (0, 0)).1, .int .i64 (l.getD j (0, 0)).2], .agg #[.int .i64 (l.getD i (0, 0)).1, .int .i64 (l.getD i (0, 0)).2], .agg #[.int .i64 (l.getD k (0, 0)).1, .int .i64 (l.getD k (0, 0)).2]] W (RetRatE (radQ (ptAt l j) (ptAt l i) (ptAt l k)) 0 W)) := hrad
         have HPRO := Lib.hid (fun W => lproduct_any m m W (by have := HM.out; omega) (by have := HM.out; omega))
         have ZM : Hid (szR ((m * m : Int) : Rat) 2) := by show szR _ _; rw [Rat.intCast_mul]; exact szR_mul (i64_szR m (by have := HM.out; omega) (by have := HM.out; omega) 1 (by omega)) (i64_szR m (by have := HM.out; omega) (by have := HM.out; omega) 1 (by omega))
         have HNP : Hid (narP l m i = decide (cmpR (radQ (ptAt l j) (ptAt l i) (ptAt l k)) ((m * m : Int) : Rat) < 0)) := by show _ = _; rw [HNI.out]; unfold narB; rw [if_neg hz, decide_eq_decide]; exact cmp_neg.symm
         generalize ((m * m : Int) : Rat) = qm at *
         generalize radQ (ptAt l j) (ptAt l i) (ptAt l k) = qr at *
         clear hrad hre hz hLL hlt hjl hil hkl hj hk oj oi ok HNI
         generalize (l.getD i (0, 0)).1 = xi at *
         generalize (l.getD i (0, 0)).2 = yi at *
         generalize (l.getD j (0, 0)).1 = xj at *
         generalize (l.getD j (0, 0)).2 = yj at *
         generalize (l.getD k (0, 0)).1 = xk at *
         generalize (l.getD k (0, 0)).2 = yk at *
         go_wp2_with fail
         refine wp_region_held_drew (S := (fun w' => Sx w w' [] [])) (by kernel_rfl) ((HS.out.drew).bare) (fun hh => ?_)
         replace HS := Lib.hid HS.out.drew
         have HSW := Lib.hid HS.out.bel.size
         refine tkB (i := 0) (v := ?vk62) rfl ?hk62 ?rk62
         case hk62 => intro u hSu; go_simp <;> with_reducible rfl
         try simp only [nbs, Act.put]
         refine tkB (i := 1) (v := ?vk63) rfl ?hk63 ?rk63
         case hk63 => intro u hSu; go_simp <;> with_reducible rfl
         try simp only [nbs, Act.put]
         refine tkB (i := 2) (v := ?vk64) rfl ?hk64 ?rk64
         case hk64 => intro u hSu; go_simp <;> with_reducible rfl
         try simp only [nbs, Act.put]
         refine tkB (i := 3) (v := ?vk65) rfl ?hk65 ?rk65
         case hk65 => intro u hSu; go_simp <;> with_reducible rfl
         try simp only [nbs, Act.put]
         refine tkB (i := 4) (v := ?vk66) rfl ?hk66 ?rk66
         case hk66 => intro u hSu; (try dsimp only at hSu); have Dc0 := (hSu.bel.cell (p := ⟨b, off + j * 2, none⟩) HBL.out).trans D0.out; have Dc1 := (hSu.bel.cell (p := ⟨b, off + j * 2 + 1, none⟩) HBL.out).trans D1.out; clear hSu; go_simp <;> with_reducible rfl
         try simp only [nbs, Act.put]
         refine tkB (i := 5) (v := ?vk67) rfl ?hk67 ?rk67
         case hk67 => intro u hSu; go_simp <;> with_reducible rfl
         try simp only [nbs, Act.put]
         refine tkB (i := 6) (v := ?vk68) rfl ?hk68 ?rk68
         case hk68 => intro u hSu; go_simp <;> with_reducible rfl
         try simp only [nbs, Act.put]
         refine tkB (i := 7) (v := ?vk69) rfl ?hk69 ?rk69
         case hk69 => intro u hSu; go_simp <;> with_reducible rfl
         try simp only [nbs, Act.put]
         refine tkB (i := 8) (v := ?vk70) rfl ?hk70 ?rk70
         case hk70 => intro u hSu; (try dsimp only at hSu); have Gc0 := (hSu.bel.cell (p := ⟨b, off + i * 2, none⟩) HBL.out).trans G0.out; have Gc1 := (hSu.bel.cell (p := ⟨b, off + i * 2 + 1, none⟩) HBL.out).trans G1.out; clear hSu; go_simp <;> with_reducible rfl
         try simp only [nbs, Act.put]
         refine tkB (i := 9) (v := ?vk71) rfl ?hk71 ?rk71
         case hk71 => intro u hSu; go_simp <;> with_reducible rfl
         try simp only [nbs, Act.put]
         refine tkB (i := 10) (v := ?vk72) rfl ?hk72 ?rk72
         case hk72 => intro u hSu; go_simp <;> with_reducible rfl
         try simp only [nbs, Act.put]
         refine tkB (i := 11) (v := ?vk73) rfl ?hk73 ?rk73
         case hk73 => intro u hSu; go_simp <;> with_reducible rfl
         try simp only [nbs, Act.put]
         refine tkB (i := 12) (v := ?vk74) rfl ?hk74 ?rk74
         case hk74 => intro u hSu; go_simp <;> with_reducible rfl
         try simp only [nbs, Act.put]
         refine tkB (i := 13) (v := ?vk75) rfl ?hk75 ?rk75
         case hk75 => intro u hSu; (try dsimp only at hSu); have Fc0 := (hSu.bel.cell (p := ⟨b, off + k * 2, none⟩) HBL.out).trans F0.out; have Fc1 := (hSu.bel.cell (p := ⟨b, off + k * 2 + 1, none⟩) HBL.out).trans F1.out; clear hSu; go_simp <;> with_reducible rfl
         try simp only [nbs, Act.put]
         refine wpAnyH_modular [14, 15, 16] [14, 15, 16] [] [9, 10, 11] #[true, true, true, true, true, true, true, true, true, true, true, true, true, true, true, true, true, false, false, false] 3 [(14, 9), (15, 10), (16, 11)] [(14, []), (15, []), (16, [])] [14, 15, 16] [(14, fun v w => ∃ Br61_14 : Nat, v = .pointer (some ⟨Br61_14, 0, none⟩) ∧ wr18.drew.heap.size ≤ Br61_14 ∧ w.heap[Br61_14]? = some (.cells #[.int .i64 0, .int .i64 0] 27 (0, 0))), (15, fun v w => ∃ Br61_15 : Nat, v = .pointer (some ⟨Br61_15, 0, none⟩) ∧ wr18.drew.heap.size ≤ Br61_15 ∧ w.heap[Br61_15]? = some (.cells #[.int .i64 0, .int .i64 0] 27 (0, 0))), (16, fun v w => ∃ Br61_16 : Nat, v = .pointer (some ⟨Br61_16, 0, none⟩) ∧ wr18.drew.heap.size ≤ Br61_16 ∧ w.heap[Br61_16]? = some (.cells #[.int .i64 0, .int .i64 0] 27 (0, 0)))]
          rfl (by kernel_rfl) (by decide) rfl ⟨(fun v w w' hb ⟨B, e, g, k⟩ => ⟨B, e, g, blk_keep k hb (blk_lt k)⟩), ⟨(fun v w w' hb ⟨B, e, g, k⟩ => ⟨B, e, g, blk_keep k hb (blk_lt k)⟩), ⟨(fun v w w' hb ⟨B, e, g, k⟩ => ⟨B, e, g, blk_keep k hb (blk_lt k)⟩), trivial⟩⟩⟩ ⟨fun v w ⟨B, e, g, k⟩ => ⟨B, e, blk_lt k⟩, ⟨fun v w ⟨B, e, g, k⟩ => ⟨B, e, blk_lt k⟩, ⟨fun v w ⟨B, e, g, k⟩ => ⟨B, e, blk_lt k⟩, trivial⟩⟩⟩ (fun w' hb => Sx.below hh hb) ⟨?_, ?_, ?_, trivial⟩ trivial (by decide) ?_
         ·
          refine StepM.of rfl (fun f w' hb hp K hK => ?_)
          have HSB := HS
          replace HS := Lib.hid (HS.out.below hb)
          simp only [fillA, fillT, List.foldl_cons, List.foldl_nil, Act.put, nb4, nb5, nb6]
          go_simp
          exact hK.out _ _ (.pointer (some ⟨w'.heap.size, 0, none⟩)) (by simp only [fillA, fillT, List.foldl_cons, List.foldl_nil, Act.put, nb4, nb5, nb6, nb1, nb2, nb3]) ⟨_, rfl, hb.size, blk_new _ _ _⟩ (fun _ => rfl) (below1 w' _)
         ·
          refine StepM.of rfl (fun f w' hb hp K hK => ?_)
          have HSB := HS
          replace HS := Lib.hid (HS.out.below hb)
          simp only [fillA, fillT, List.foldl_cons, List.foldl_nil, Act.put, nb4, nb5, nb6]
          go_simp
          exact hK.out _ _ (.pointer (some ⟨w'.heap.size, 0, none⟩)) (by simp only [fillA, fillT, List.foldl_cons, List.foldl_nil, Act.put, nb4, nb5, nb6, nb1, nb2, nb3]) ⟨_, rfl, hb.size, blk_new _ _ _⟩ (fun _ => rfl) (below1 w' _)
         ·
          refine StepM.of rfl (fun f w' hb hp K hK => ?_)
          have HSB := HS
          replace HS := Lib.hid (HS.out.below hb)
          simp only [fillA, fillT, List.foldl_cons, List.foldl_nil, Act.put, nb4, nb5, nb6]
          go_simp
          exact hK.out _ _ (.pointer (some ⟨w'.heap.size, 0, none⟩)) (by simp only [fillA, fillT, List.foldl_cons, List.foldl_nil, Act.put, nb4, nb5, nb6, nb1, nb2, nb3]) ⟨_, rfl, hb.size, blk_new _ _ _⟩ (fun _ => rfl) (below1 w' _)
         ·
          intro f wr61 hb hp hd
          obtain ⟨Br61_14, e14, g14, k14⟩ : ∃ Br61_14 : Nat, f 9 = .pointer (some ⟨Br61_14, 0, none⟩) ∧ wr18.drew.heap.size ≤ Br61_14 ∧ wr61.heap[Br61_14]? = some (.cells #[.int .i64 0, .int .i64 0] 27 (0, 0)) := hp 14 (by decide)
          obtain ⟨Br61_15, e15, g15, k15⟩ : ∃ Br61_15 : Nat, f 10 = .pointer (some ⟨Br61_15, 0, none⟩) ∧ wr18.drew.heap.size ≤ Br61_15 ∧ wr61.heap[Br61_15]? = some (.cells #[.int .i64 0, .int .i64 0] 27 (0, 0)) := hp 15 (by decide)
          obtain ⟨Br61_16, e16, g16, k16⟩ : ∃ Br61_16 : Nat, f 11 = .pointer (some ⟨Br61_16, 0, none⟩) ∧ wr18.drew.heap.size ≤ Br61_16 ∧ wr61.heap[Br61_16]? = some (.cells #[.int .i64 0, .int .i64 0] 27 (0, 0)) := hp 16 (by decide)
          have hd14_15 : Br61_14 ≠ Br61_15 := fun h => hd 14 15 (by decide) (by decide) (by decide) (by decide) (by decide) (by show f 9 = f 10; rw [e14, e15, h])
          have hd14_16 : Br61_14 ≠ Br61_16 := fun h => hd 14 16 (by decide) (by decide) (by decide) (by decide) (by decide) (by show f 9 = f 11; rw [e14, e16, h])
          have hd15_16 : Br61_15 ≠ Br61_16 := fun h => hd 15 16 (by decide) (by decide) (by decide) (by decide) (by decide) (by show f 10 = f 11; rw [e15, e16, h])
          replace hh := Sx.below hh hb
          have hlt := HS.out.lt
          replace HS := Lib.hid (HS.out.below hb)
          have hge14 : w.heap.size ≤ Br61_14 := Nat.le_trans HSW.out g14
          have hne14 : ∀ b, b ∈ ([] : List Bx) → b.1 ≠ Br61_14 := by
           intro b hb
           cases hb
          replace HS := Lib.hid (HS.out.addBox k14 hge14 (by rfl) hne14)
          have hge15 : w.heap.size ≤ Br61_15 := Nat.le_trans HSW.out g15
          have hne15 : ∀ b, b ∈ ([(Br61_14, #[.int .i64 0, .int .i64 0], 27)] : List Bx) → b.1 ≠ Br61_15 := by
           intro b hb
           simp only [List.mem_cons, List.not_mem_nil, or_false] at hb
           rcases hb with rfl
           ·
            exact hd14_15
          replace HS := Lib.hid (HS.out.addBox k15 hge15 (by rfl) hne15)
          have hge16 : w.heap.size ≤ Br61_16 := Nat.le_trans HSW.out g16
          have hne16 : ∀ b, b ∈ ([(Br61_15, #[.int .i64 0, .int .i64 0], 27), (Br61_14, #[.int .i64 0, .int .i64 0], 27)] : List Bx) → b.1 ≠ Br61_16 := by
           intro b hb
           simp only [List.mem_cons, List.not_mem_nil, or_false] at hb
           rcases hb with rfl | rfl
           ·
            exact hd15_16
           ·
            exact hd14_16
          replace HS := Lib.hid (HS.out.addBox k16 hge16 (by rfl) hne16)
          simp only [fillA, fillT, List.foldl_cons, List.foldl_nil, Act.put, nb4, nb5, nb6, e14, e15, e16]
          clear hp hd hb hlt e14 e15 e16
          refine rdA (i := 17) rfl (fun K hK => ?_)
          have b0e := (HS.out.at 2 _ _ _ rfl)
          have b0c0 := blk_cell b0e 0 (.int .i64 0) rfl
          have b0c1 := blk_cell b0e 1 (.int .i64 0) rfl
          have b0f0 := blk_frozen b0e 0
          have b0f1 := blk_frozen b0e 1
          have b0l := blk_lt b0e
          clear b0e
          go_simp
          refine hK.out _ _ ((((((((HS.out).st_II 2 0 0 xj yj rfl)).erase 2)).erase 1)).erase 0) (fun hh => ?_)
          clear hK K b0c0 b0c1 b0f0 b0f1 b0l
          try simp only [nbs, Act.put]
          generalize hW76 : ((wr61).setCell _ _).setCell _ _ = W76 at *
          replace HS := Lib.hid (((HS.out).st_II 2 0 0 xj yj rfl).to hW76 (by (try simp only [nb5, nb6]); rfl))
          clear hW76
          refine rdA (i := 18) rfl (fun K hK => ?_)
          have b1e := (HS.out.at 1 _ _ _ rfl)
          have b1c0 := blk_cell b1e 0 (.int .i64 0) rfl
          have b1c1 := blk_cell b1e 1 (.int .i64 0) rfl
          have b1f0 := blk_frozen b1e 0
          have b1f1 := blk_frozen b1e 1
          have b1l := blk_lt b1e
          clear b1e
          go_simp
          refine hK.out _ _ ((((((((HS.out).st_II 1 0 0 xi yi rfl)).erase 2)).erase 1)).erase 0) (fun hh => ?_)
          clear hK K b1c0 b1c1 b1f0 b1f1 b1l
          try simp only [nbs, Act.put]
          generalize hW77 : ((W76).setCell _ _).setCell _ _ = W77 at *
          replace HS := Lib.hid (((HS.out).st_II 1 0 0 xi yi rfl).to hW77 (by (try simp only [nb5, nb6]); rfl))
          clear hW77
          refine rdA (i := 19) rfl (fun K hK => ?_)
          have b2e := (HS.out.at 0 _ _ _ rfl)
          have b2c0 := blk_cell b2e 0 (.int .i64 0) rfl
          have b2c1 := blk_cell b2e 1 (.int .i64 0) rfl
          have b2f0 := blk_frozen b2e 0
          have b2f1 := blk_frozen b2e 1
          have b2l := blk_lt b2e
          clear b2e
          go_simp
          refine hK.out _ _ ((((((((HS.out).st_II 0 0 0 xk yk rfl)).erase 2)).erase 1)).erase 0) (fun hh => ?_)
          clear hK K b2c0 b2c1 b2f0 b2f1 b2l
          try simp only [nbs, Act.put]
          generalize hW78 : ((W77).setCell _ _).setCell _ _ = W78 at *
          replace HS := Lib.hid (((HS.out).st_II 0 0 0 xk yk rfl).to hW78 (by (try simp only [nb5, nb6]); rfl))
          clear hW78
          refine wpAnyH_done (by kernel_rfl) ?_ _
          have b0e := (HS.out.at 2 _ _ _ rfl)
          have b0c0 := blk_cell b0e 0 (.int .i64 xj) rfl
          have b0c1 := blk_cell b0e 1 (.int .i64 yj) rfl
          have b0f0 := blk_frozen b0e 0
          have b0f1 := blk_frozen b0e 1
          have b0l := blk_lt b0e
          clear b0e
          have b1e := (HS.out.at 1 _ _ _ rfl)
          have b1c0 := blk_cell b1e 0 (.int .i64 xi) rfl
          have b1c1 := blk_cell b1e 1 (.int .i64 yi) rfl
          have b1f0 := blk_frozen b1e 0
          have b1f1 := blk_frozen b1e 1
          have b1l := blk_lt b1e
          clear b1e
          have b2e := (HS.out.at 0 _ _ _ rfl)
          have b2c0 := blk_cell b2e 0 (.int .i64 xk) rfl
          have b2c1 := blk_cell b2e 1 (.int .i64 yk) rfl
          have b2f0 := blk_frozen b2e 0
          have b2f1 := blk_frozen b2e 1
          have b2l := blk_lt b2e
          clear b2e
          have bn0_1 := HS.out.ne 2 1 rfl rfl (by decide)
          have bn0_2 := HS.out.ne 2 0 rfl rfl (by decide)
          have bn1_2 := HS.out.ne 1 0 rfl rfl (by decide)
          go_wp2_with fail
          clear b0c0 b0c1 b0f0 b0f1 b0l b1c0 b1c1 b1f0 b1f1 b1l b2c0 b2c1 b2f0 b2f1 b2l bn0_1 bn0_2 bn1_2
          refine (HRAD.out _).mono ?_
          rintro e w79 ⟨v79, rfl, hv79, hb79⟩
          obtain ⟨z79, rfl⟩ := hv79.open3
          replace HS := Lib.hid (HS.out.below hb79)
          clear hb79
          replace HS := Lib.hid (HS.out.addP hv79)
          clear hv79
          go_wp2_with fail
          generalize hW80 : (w79).alloc (.cells _ _) = W80 at *
          replace HS := Lib.hid (((HS.out).alloc (B := w79.heap.size) rfl (by rfl)).to hW80 (by (try simp only [nb5, nb6]); rfl))
          clear hW80
          refine wp_region_held_drew (S := (fun w' => Sx w w' [(w79.heap.size, z79.arr, 32), (Br61_16, #[.int .i64 xk, .int .i64 yk], 27), (Br61_15, #[.int .i64 xi, .int .i64 yi], 27), (Br61_14, #[.int .i64 xj, .int .i64 yj], 27)] [])) (by kernel_rfl) ((HS.out.drew).bare) (fun hh => ?_)
          replace HS := Lib.hid HS.out.drew
          refine tkB (i := 0) (v := ?vk82) rfl ?hk82 ?rk82
          case hk82 => intro u hSu; go_simp <;> with_reducible rfl
          try simp only [nbs, Act.put]
          refine tkB (i := 1) (v := ?vk83) rfl ?hk83 ?rk83
          case hk83 => intro u hSu; go_simp <;> with_reducible rfl
          try simp only [nbs, Act.put]
          refine tkB (i := 2) (v := ?vk84) rfl ?hk84 ?rk84
          case hk84 => intro u hSu; go_simp <;> with_reducible rfl
          try simp only [nbs, Act.put]
          refine tkB (i := 3) (v := ?vk85) rfl ?hk85 ?rk85
          case hk85 => intro u hSu; (try dsimp only at hSu); obtain ⟨qb3c0, qb3c1, qb3c2, _⟩ := fac3 (x := z79) (hSu.at 0 _ _ _ rfl); clear hSu; go_simp <;> with_reducible rfl
          try simp only [nbs, Act.put]
          refine tkB (i := 4) (v := ?vk86) rfl ?hk86 ?rk86
          case hk86 => intro u hSu; go_simp <;> with_reducible rfl
          try simp only [nbs, Act.put]
          refine tkB (i := 5) (v := ?vk87) rfl ?hk87 ?rk87
          case hk87 => intro u hSu; go_simp <;> with_reducible rfl
          try simp only [nbs, Act.put]
          refine rdA (i := 6) rfl (fun K hK => ?_)
          go_simp
          go_wp2_with (go_at_call 28; (with_reducible refine (HPRO.out _).mono ?_); rintro e w88 ⟨v88, rfl, hv88, hb88⟩; obtain ⟨z88, rfl⟩ := hv88.open3)
          refine hK.out _ _ (Sx.below hh hb88) (fun hh => ?_)
          clear hK K
          try simp only [nbs, Act.put]
          replace HS := Lib.hid (HS.out.below hb88)
          clear hb88
          replace HS := Lib.hid (HS.out.addP hv88)
          clear hv88
          refine rdA (i := 7) rfl (fun K hK => ?_)
          go_simp
          obtain ⟨c89, hc89⟩ : ∃ κ, κ = cmpR qr qm := ⟨_, rfl⟩
          have HC89 := Lib.hid hc89
          clear hc89
          have a90 := HS.out.p 1 _ _ rfl
          have a91 := HS.out.p 0 _ _ rfl
          go_wp2_with (go_at_call 27; (with_reducible refine (cmpRat_any qr qm _ _ _ a90 a91 (szR_mono ZR.out (by omega)) (szR_mono ZM.out (by omega))).mono ?_); rw [← HC89.out]; rintro e w89 ⟨rfl, hb89⟩)
          refine hK.out _ _ (Sx.below hh hb89) (fun hh => ?_)
          clear hK K
          try simp only [nbs, Act.put]
          replace HS := Lib.hid (HS.out.below hb89)
          clear hb89 a90 a91
          by_cases t92p : c89 < 0
          ·
           have t92 : decide (c89 < 0) = true := decide_eq_true t92p
           have T92 := Lib.hid t92p
           clear t92p
           refine tkB (i := 8) (v := ?vk93) rfl ?hk93 ?rk93
           case hk93 => intro u hSu; go_simp <;> with_reducible rfl
           try simp only [nbs, Act.put]
           refine tkB (i := 9) (v := ?vk94) rfl ?hk94 ?rk94
           case hk94 => intro u hSu; go_simp <;> with_reducible rfl
           try simp only [nbs, Act.put]
           refine tkB (i := 10) (v := ?vk95) rfl ?hk95 ?rk95
           case hk95 => intro u hSu; go_simp <;> with_reducible rfl
           try simp only [nbs, Act.put]
           refine tkC (i := 11) rfl ?_
           try simp only [nbs, Act.put]
           refine tkC (i := 12) rfl ?_
           try simp only [nbs, Act.put]
           refine tkC (i := 13) rfl ?_
           try simp only [nbs, Act.put]
           refine tkC (i := 14) rfl ?_
           try simp only [nbs, Act.put]
           refine tkC (i := 15) rfl ?_
           try simp only [nbs, Act.put]
           refine tkC (i := 16) rfl ?_
           try simp only [nbs, Act.put]
           refine tkC (i := 17) rfl ?_
           try simp only [nbs, Act.put]
           refine tkC (i := 18) rfl ?_
           try simp only [nbs, Act.put]
           refine tkC (i := 19) rfl ?_
           try simp only [nbs, Act.put]
           refine tkC (i := 20) rfl ?_
           try simp only [nbs, Act.put]
           refine tkB (i := 21) (v := ?vk96) rfl ?hk96 ?rk96
           case hk96 => intro u hSu; go_simp <;> with_reducible rfl
           try simp only [nbs, Act.put]
           refine wpAnyH_done (by kernel_rfl) ?_ _
           go_wp2_with fail
           go_ret2
           exact ⟨by rw [(HAT.out (by rw [HNP.out, ← HC89.out, t92])).2, (HAT.out (by rw [HNP.out, ← HC89.out, t92])).1] <;> rfl, HS.out.bel⟩
          ·
           have t92 : decide (c89 < 0) = false := decide_eq_false t92p
           have T92 := Lib.hid t92p
           clear t92p
           refine tkB (i := 8) (v := ?vk97) rfl ?hk97 ?rk97
           case hk97 => intro u hSu; go_simp <;> with_reducible rfl
           try simp only [nbs, Act.put]
           refine tkB (i := 9) (v := ?vk98) rfl ?hk98 ?rk98
           case hk98 => intro u hSu; go_simp <;> with_reducible rfl
           try simp only [nbs, Act.put]
           refine tkB (i := 10) (v := ?vk99) rfl ?hk99 ?rk99
           case hk99 => intro u hSu; go_simp <;> with_reducible rfl
           try simp only [nbs, Act.put]
           refine tkB (i := 11) (v := ?vk100) rfl ?hk100 ?rk100
           case hk100 => intro u hSu; go_simp <;> with_reducible rfl
           try simp only [nbs, Act.put]
           refine tkB (i := 12) (v := ?vk101) rfl ?hk101 ?rk101
           case hk101 => intro u hSu; go_simp <;> with_reducible rfl
           try simp only [nbs, Act.put]
           refine tkB (i := 13) (v := ?vk102) rfl ?hk102 ?rk102
           case hk102 => intro u hSu; go_simp <;> with_reducible rfl
           try simp only [nbs, Act.put]
           refine tkC (i := 14) rfl ?_
           try simp only [nbs, Act.put]
           refine tkC (i := 15) rfl ?_
           try simp only [nbs, Act.put]
           refine tkC (i := 16) rfl ?_
           try simp only [nbs, Act.put]
           refine tkC (i := 17) rfl ?_
           try simp only [nbs, Act.put]
           refine tkC (i := 18) rfl ?_
           try simp only [nbs, Act.put]
           refine tkC (i := 19) rfl ?_
           try simp only [nbs, Act.put]
           refine tkB (i := 20) (v := ?vk103) rfl ?hk103 ?rk103
           case hk103 => intro u hSu; go_simp <;> with_reducible rfl
           try simp only [nbs, Act.put]
           refine tkB (i := 21) (v := ?vk104) rfl ?hk104 ?rk104
           case hk104 => intro u hSu; go_simp <;> with_reducible rfl
           try simp only [nbs, Act.put]
           refine wpAnyH_done (by kernel_rfl) ?_ _
           go_wp2_with fail
           have hk := HK.out
           subst hk
           exact ⟨⟨i + 1, by have := HLT.out; omega, by go_num, by omega, Lib.hid (HUP.out (by rw [HNP.out, ← HC89.out, t92])), Lib.hid (((((HS.out).erase 0).erase 0).erase 0).erase 0)⟩, meas_up HLT.out⟩
       ·
        obtain rfl : n1 = i := by omega
        obtain ⟨k, hk⟩ : ∃ k, k = n1 + 1 := ⟨_, rfl⟩
        have hn1 := HN1.out
        have hnl := HL32.out
        have hw2 : IntKind.i64.wrap ((n1 : Int) + 1) = (k : Int) := (IntWalk.i64_in _ (by omega)).trans (by omega)
        have tk : decide ((k : Int) < l.length) = false := decide_eq_false (by omega)
        have tkb : decide (k < l.length) = false := decide_eq_false (by omega)
        have HEND := Lib.hid (st_end HPE.out HM.out HTO.out hn1)
        clear hn1 hk
        go_wp2_with fail
        go_ret2
        exact ⟨by rw [HEND.out.2, HEND.out.1] <;> rfl, HS.out.bel⟩
     | false =>
      refine (within_any m 0 1073741824 _).mono ?_
      rw [t16]
      rintro e w105 ⟨rfl, hb105⟩
      replace HS := Lib.hid (HS.out.below hb105)
      clear hb105
      go_wp2_with fail
      go_ret2
      exact ⟨by rw [(stErr_m HPE.out (inB_not t16)).2, (stErr_m HPE.out (inB_not t16)).1] <;> rfl, HS.out.bel⟩
  | false =>
   refine (isRight_any l _ _ (HP.out.below HS.out.bel) (by omega)).mono ?_
   rw [t1]
   rintro e w106 ⟨rfl, hb106⟩
   replace HS := Lib.hid (HS.out.below hb106)
   clear hb106
   go_wp2_with fail
   go_ret2
   exact ⟨by rw [(stErr_path (m := m) (pathErr_r HL2.out HL32.out t1) (show (1 : Int) ≠ 0 by decide)).2, (stErr_path (m := m) (pathErr_r HL2.out HL32.out t1) (show (1 : Int) ≠ 0 by decide)).1] <;> rfl, HS.out.bel⟩
end Go.Proofs.Ytgmpekhiohbakaa

namespace Go.Proofs.Ytgmpekhiohbakaa
open Go.RowKit

set_option maxRecDepth 100000 in
theorem neq_pt (a b c d : Int) (w : World) : (binOp .neq 27 (.agg #[.int .i64 a, .int .i64 b]) (.agg #[.int .i64 c, .int .i64 d])).run Try.prog w = .ok (.bool (!(a == c && b == d))) w := by
 rw [run_neq_struct, run_equalIn_struct w 9999 27 _ _ (by kernel_rfl) (by kernel_rfl), pt_fields]
 have n0 : ("X" ≠ "_") := by decide
 have n1 : ("Y" ≠ "_") := by decide
 unfold Op.eqFields
 rw [if_pos n0]
 simp only [Sem.run_bind, (part2 _ _ _).1, eqInt, Result.andThen_ok, Sem.run_ite]
 cases a == c with
 | false => simp
 | true =>
  unfold Op.eqFields
  rw [if_pos n1]
  simp only [Sem.run_bind, (part2 _ _ _).2, eqInt, Result.andThen_ok, Sem.run_ite]
  unfold Op.eqFields
  by_cases h : b = d <;> simp [h]
theorem crossI_rot (a b c : Pt) : crossI c a b = crossI a b c := by unfold crossI; grind
theorem crossI_swap (a b c : Pt) : crossI b a c = - crossI a b c := by unfold crossI; grind
theorem dotI_sym (a b : Pt) : dotI a b b = dotI b a a := by unfold dotI; grind
theorem radQ_rot (a b c : Pt) : radQ c a b = radQ a b c := by
 unfold radQ
 rw [crossI_rot]
 by_cases h : crossI a b c = 0
 ·
  rw [if_pos h, if_pos h]
 ·
  rw [if_neg h, if_neg h]
  congr 1
  grind
theorem radQ_swap (a b c : Pt) : radQ b a c = radQ a b c := by
 unfold radQ
 rw [crossI_swap]
 by_cases h : crossI a b c = 0
 ·
  rw [if_pos h, if_pos (by omega)]
 ·
  rw [if_neg h, if_neg (by omega), Rat.intCast_neg, dotI_sym b a, dotI_sym a c, dotI_sym c b]
  congr 1
  ·
   grind
  ·
   grind
theorem radE_rot (a b c : Pt) : radE c a b = radE a b c := by unfold radE; rw [crossI_rot]
theorem radE_swap (a b c : Pt) : radE b a c = radE a b c := by
 unfold radE
 rw [crossI_swap]
 by_cases h : crossI a b c = 0
 ·
  rw [if_pos h, if_pos (by omega)]
 ·
  rw [if_neg h, if_neg (by omega)]
def scPt (k : Int) (d a : Pt) : Pt := (k * a.1 + d.1, k * a.2 + d.2)
theorem crossI_sc (k : Int) (d a b c : Pt) : crossI (scPt k d a) (scPt k d b) (scPt k d c) = (k * k) * crossI a b c := by unfold crossI scPt; grind
theorem dotI_sc (k : Int) (d a b c : Pt) : dotI (scPt k d a) (scPt k d b) (scPt k d c) = (k * k) * dotI a b c := by unfold dotI scPt; grind
theorem cross_sc0 {k : Int} (hk : k ≠ 0) (d a b c : Pt) : crossI (scPt k d a) (scPt k d b) (scPt k d c) = 0 ↔ crossI a b c = 0 := by
 rw [crossI_sc]
 have h1 : k * k ≠ 0 := Int.mul_ne_zero hk hk
 constructor
 ·
  intro h; exact (Int.mul_eq_zero.1 h).resolve_left h1
 ·
  intro h; rw [h, Int.mul_zero]
theorem radE_sc {k : Int} (hk : k ≠ 0) (d a b c : Pt) : radE (scPt k d a) (scPt k d b) (scPt k d c) = radE a b c := by
 unfold radE
 by_cases h : crossI a b c = 0
 ·
  rw [if_pos h, if_pos ((cross_sc0 hk d a b c).2 h)]
 ·
  rw [if_neg h, if_neg (fun g => h ((cross_sc0 hk d a b c).1 g))]
theorem radQ_sc {k : Int} (hk : k ≠ 0) (d a b c : Pt) : radQ (scPt k d a) (scPt k d b) (scPt k d c) = radQ a b c * ((k * k : Int) : Rat) := by
 unfold radQ
 by_cases h : crossI a b c = 0
 ·
  rw [if_pos h, if_pos ((cross_sc0 hk d a b c).2 h), Rat.zero_mul]
 ·
  rw [if_neg h, if_neg (fun g => h ((cross_sc0 hk d a b c).1 g)), crossI_sc, dotI_sc, dotI_sc, dotI_sc]
  have hkk : ((k * k : Int) : Rat) ≠ 0 := by
   intro e
   have : (k * k : Int) = 0 := by exact_mod_cast e
   exact Int.mul_ne_zero hk hk this
  have hc : ((crossI a b c : Int) : Rat) ≠ 0 := by
   intro e
   exact h (by exact_mod_cast e)
  rw [Rat.intCast_mul (k * k) (crossI a b c), Rat.intCast_mul (k * k) (dotI a b b), Rat.intCast_mul (k * k) (dotI b c c), Rat.intCast_mul (k * k) (dotI c a a)]
  generalize ((k * k : Int) : Rat) = s at *
  generalize ((crossI a b c : Int) : Rat) = x at *
  generalize ((dotI a b b : Int) : Rat) = p at *
  generalize ((dotI b c c : Int) : Rat) = q at *
  generalize ((dotI c a a : Int) : Rat) = r at *
  have h4 : ((4 : Int) : Rat) ≠ 0 := by decide
  generalize ((4 : Int) : Rat) = f at *
  have e1 : f * (s * x) * (s * x) ≠ 0 := by
   intro e
   rcases Rat.mul_eq_zero.1 e with e | e
   ·
    rcases Rat.mul_eq_zero.1 e with e | e
    ·
     exact h4 e
    ·
     rcases Rat.mul_eq_zero.1 e with e | e
     ·
      exact hkk e
     ·
      exact hc e
   ·
    rcases Rat.mul_eq_zero.1 e with e | e
    ·
     exact hkk e
    ·
     exact hc e
  grind
theorem narB_mono {m n : Int} (h0 : 0 ≤ m) (h : m ≤ n) {a b c : Pt} (hb : narB m a b c = true) : narB n a b c = true := by
 unfold narB at *
 by_cases hc : crossI a b c = 0
 ·
  rw [if_pos hc] at *; exact hb
 ·
  rw [if_neg hc] at *
  have h1 := of_decide_eq_true hb
  have h2 : m * m ≤ n * n := Int.mul_le_mul h h h0 (by omega)
  have h3 : ((m * m : Int) : Rat) ≤ ((n * n : Int) : Rat) := by exact_mod_cast h2
  exact decide_eq_true (by grind)
theorem narP_mono {l : List Pt} {m n : Int} (h0 : 0 ≤ m) (h : m ≤ n) {i : Nat} (hb : narP l m i = true) : narP l n i = true := by
 unfold narP at *
 simp only [Bool.and_eq_true] at *
 exact ⟨hb.1, hb.2.1, narB_mono h0 h hb.2.2⟩
theorem anyTo_ex {p : Nat → Bool} : ∀ {n : Nat}, anyTo p n = true → ∃ i, i < n ∧ p i = true ∧ anyTo p i = false
 | 0, h => by cases h
 | n + 1, h => by
  cases e : anyTo p n with
  | true => obtain ⟨i, hi, h1, h2⟩ := anyTo_ex e; exact ⟨i, by omega, h1, h2⟩
  | false =>
   have h : (anyTo p n || p n) = true := h
   rw [e] at h
   exact ⟨n, Nat.lt_succ_self n, h, e⟩
theorem first_mono {p q : Nat → Bool} (h : ∀ i, p i = true → q i = true) (n : Nat) : firstTo p n = -1 ∨ (0 ≤ firstTo q n ∧ firstTo q n ≤ firstTo p n) := by
 cases e : anyTo p n with
 | false => exact .inl (firstTo_none e)
 | true =>
  obtain ⟨i, hi, h1, h2⟩ := anyTo_ex e
  obtain ⟨j, hj, g1, g2⟩ := anyTo_ex (anyTo_at hi (h i h1))
  have hji : j ≤ i := by
   rcases Nat.lt_or_ge i j with h3 | h3
   ·
    rw [anyTo_at h3 (h i h1)] at g2; cases g2
   ·
    exact h3
  rw [firstTo_at h2 h1 hi, firstTo_at g2 g1 hj]
  exact .inr ⟨by omega, by omega⟩
def wayTo (ps : List Pt) : Nat → List Pt
 | 0 => []
 | i + 1 => if (wayTo ps i).length = 0 ∨ (wayTo ps i).getD ((wayTo ps i).length - 1) (0, 0) ≠ ps.getD i (0, 0) then wayTo ps i ++ [ps.getD i (0, 0)] else wayTo ps i
theorem wayTo_len (ps : List Pt) : ∀ i, (wayTo ps i).length ≤ i
 | 0 => Nat.le_refl _
 | i + 1 => by
  have := wayTo_len ps i
  unfold wayTo
  split
  ·
   rw [List.length_append]; simp; omega
  ·
   omega
theorem wayTo_in (ps : List Pt) (P : Pt → Prop) (h : ∀ i, P (ps.getD i (0, 0))) : ∀ i p, p ∈ wayTo ps i → P p
 | 0, p, hp => by simp [wayTo] at hp
 | i + 1, p, hp => by
  unfold wayTo at hp
  split at hp
  ·
   rcases List.mem_append.1 hp with hp | hp
   ·
    exact wayTo_in ps P h i p hp
   ·
    simp at hp; rw [hp]; exact h i
  ·
   exact wayTo_in ps P h i p hp
theorem getD_app (l : List Pt) (x : Pt) (j : Nat) : (l ++ [x]).getD j (0, 0) = if j < l.length then l.getD j (0, 0) else if j = l.length then x else (0, 0) := by
 rw [List.getD_eq_getElem?_getD, List.getD_eq_getElem?_getD]
 by_cases h : j < l.length
 ·
  rw [if_pos h, List.getElem?_append_left h]
 ·
  rw [if_neg h, List.getElem?_append_right (by omega)]
  by_cases h2 : j = l.length
  ·
   rw [if_pos h2, h2]; simp
  ·
   rw [if_neg h2, List.getElem?_eq_none (by simp; omega)]; rfl
theorem wayTo_tw (ps : List Pt) : ∀ i j, j < (wayTo ps i).length → twB (wayTo ps i) j = false
 | 0, j, h => by simp [wayTo] at h
 | i + 1, j, h => by
  have ih := wayTo_tw ps i
  unfold wayTo at h ⊢
  split at h
  ·
   rename_i hc
   rw [if_pos hc]
   rw [List.length_append] at h
   simp only [List.length_cons, List.length_nil] at h
   generalize wayTo ps i = w at *
   unfold twB ptAt
   rw [getD_app, getD_app]
   by_cases hj : j < w.length
   ·
    have := ih j hj
    unfold twB ptAt at this
    rw [if_pos hj, if_pos (by omega)]
    exact this
   ·
    have hjl : j = w.length := by omega
    rw [if_neg hj, if_pos hjl]
    by_cases h0 : 0 < j
    ·
     rw [if_pos (by omega), hjl]
     rcases hc with hc | hc
     ·
      omega
     ·
      rw [decide_eq_true (by omega)]
      rw [Bool.true_and]
      cases e : decide ((ps.getD i (0, 0)).1 = (w.getD (w.length - 1) (0, 0)).1) && decide ((ps.getD i (0, 0)).2 = (w.getD (w.length - 1) (0, 0)).2) with
      | false => rfl
      | true =>
       simp only [Bool.and_eq_true, decide_eq_true_eq] at e
       exact absurd (Prod.ext e.1.symm e.2.symm) hc
    ·
     rw [decide_eq_false h0]; rfl
  ·
   rename_i hc
   rw [if_neg hc]
   exact ih j h
theorem anyTo_none {p : Nat → Bool} {n : Nat} (h : ∀ j, j < n → p j = false) : anyTo p n = false := by
 cases e : anyTo p n with
 | false => rfl
 | true => obtain ⟨i, hi, h1, _⟩ := anyTo_ex e; rw [h i hi] at h1; cases h1
theorem wayTo_path {ps : List Pt} (hok : ∀ i, ptOk (ps.getD i (0, 0)) = true) {n : Nat} (hn : n ≤ 32) (h2 : 2 ≤ (wayTo ps n).length) : pathErr (wayTo ps n) = 0 :=
 pathErr_0 h2 (Nat.le_trans (wayTo_len ps n) hn) (List.all_eq_true.2 (fun p hp => wayTo_in ps (fun p => ptOk p = true) hok n p hp)) (anyTo_none (wayTo_tw ps n))
end Go.Proofs.Ytgmpekhiohbakaa
