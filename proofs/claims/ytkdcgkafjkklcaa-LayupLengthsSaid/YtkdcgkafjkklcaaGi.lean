/- Part i of the lemmas and walks. -/
import Derived.Laws.BitsAllLaws
import Derived.Test.YtkdcgkafjkklcaaGh

/- LAYER 3: the walks of Same and of LayupLengths' closure. -/
namespace Go.Proofs.Ytkdcgkafjkklcaa
open Go.RowKit

theorem dn_inj {a b : Nat} (ha : 0 < a) (hb : 0 < b) (h : dn a = dn b) : a = b := by
  unfold dn at h
  split at h <;> split at h <;> omega
theorem cmpN_zero {a b : Nat} : cmpN a b = 0 ↔ a = b := by
  unfold cmpN
  split
  · constructor <;> intro h <;> omega
  · split
    · constructor <;> intro h <;> omega
    · constructor <;> intro h <;> omega
theorem same_true {x y : Rat} (h0 : decide (x.num < 0) = decide (y.num < 0)) (h1 : cmpN x.num.natAbs y.num.natAbs = 0) (h2 : cmpN (dn x.den) (dn y.den) = 0) : decide (x = y) = true := by
  have e1 := cmpN_zero.1 h1
  have e2 := dn_inj x.den_pos y.den_pos (cmpN_zero.1 h2)
  have e3 : (x.num < 0) ↔ (y.num < 0) := by simpa using h0
  refine decide_eq_true (Rat.ext (by omega) e2)
theorem same_false {x y : Rat} (h : decide (x.num < 0) ≠ decide (y.num < 0) ∨ cmpN x.num.natAbs y.num.natAbs ≠ 0 ∨ cmpN (dn x.den) (dn y.den) ≠ 0) : decide (x = y) = false := by
  refine decide_eq_false fun e => ?_
  subst e
  rcases h with h | h | h
  · exact h rfl
  · exact h (cmpN_zero.2 rfl)
  · exact h (cmpN_zero.2 rfl)

set_option maxRecDepth 100000 in
set_option maxHeartbeats 2000000 in
theorem same_any (x y : Rat) (vx vy : Value) (w : World) (hx : IsRat w vx x) (hy : IsRat w vy y) : Calls Try.prog 23 #[vx, vy] w (RetBool (decide (x = y)) w) := by
  obtain ⟨a1, c1, a2, c2, rfl, n1, n2⟩ := hx.opened
  obtain ⟨a3, c3, a4, c4, rfl, n3, n4⟩ := hy.opened
  have N1 := Lib.hid n1
  have N2 := Lib.hid n2
  have N3 := Lib.hid n3
  have N4 := Lib.hid n4
  have Ht := Lib.hid (@same_true x y)
  have Hf := Lib.hid (@same_false x y)
  clear hx hy n1 n2 n3 n4
  generalize hD : decide (x = y) = D at *
  clear hD
  generalize decide (x.num < 0) = sx at *
  generalize decide (y.num < 0) = sy at *
  by_cases h : sx = sy
  · subst h
    have hal : Below w.heap.size w ((w.alloc (.cells #[.bool sx, .slice a1 (dig b64 x.num.natAbs).length c1, .slice a2 (dig b64 (dn x.den)).length c2] 50)).alloc (.cells #[.bool sx, .slice a3 (dig b64 y.num.natAbs).length c3, .slice a4 (dig b64 (dn y.den)).length c4] 50)) :=
      ((Below.refl _ _).alloc (Nat.le_refl _) _).alloc (by simp) _
    have hB1 := (blk_keep (blk_new w #[.bool sx, .slice a1 (dig b64 x.num.natAbs).length c1, .slice a2 (dig b64 (dn x.den)).length c2] 50) ((Below.refl _ _).alloc (Nat.le_refl _) (.cells #[.bool sx, .slice a3 (dig b64 y.num.natAbs).length c3, .slice a4 (dig b64 (dn y.den)).length c4] 50)) (by simp))
    have hB2 := blk_new (w.alloc (.cells #[.bool sx, .slice a1 (dig b64 x.num.natAbs).length c1, .slice a2 (dig b64 (dn x.den)).length c2] 50)) #[.bool sx, .slice a3 (dig b64 y.num.natAbs).length c3, .slice a4 (dig b64 (dn y.den)).length c4] 50
    rw [World.size_alloc] at hB2
    have t1 : (sx == sx) = true := by simp
    go_enter Try.func23, Try.ntmps23
    go_wp2_with fail
    refine (cmp_any x.num.natAbs y.num.natAbs _ _ _ (N1.out.below hal) (N3.out.below hal)).mono ?_
    rintro e w1 ⟨rfl, hb1⟩
    generalize ((w.alloc (.cells #[.bool sx, .slice a1 (dig b64 x.num.natAbs).length c1, .slice a2 (dig b64 (dn x.den)).length c2] 50)).alloc (.cells #[.bool sx, .slice a3 (dig b64 y.num.natAbs).length c3, .slice a4 (dig b64 (dn y.den)).length c4] 50)) = W at *
    have p2 := blk_cell hB1 2 (.slice a2 (dig b64 (dn x.den)).length c2) rfl
    have r2 := blk_cell hB2 2 (.slice a4 (dig b64 (dn y.den)).length c4) rfl
    have hq1 := Quiet.below hb1
    have hx1 := ext_trans hal hq1
    have k2 := (hq1.cell (World.block_lt_of_cell? (h := p2))).trans p2
    have l2 := (hq1.cell (World.block_lt_of_cell? (h := r2))).trans r2
    by_cases h1 : cmpN x.num.natAbs y.num.natAbs = 0
    · have hs1 := Lib.hid h1
      rw [h1]
      clear h1
      go_wp2_with fail
      refine (cmp_any (dn x.den) (dn y.den) _ _ _ (N2.out.below hx1) (N4.out.below hx1)).mono ?_
      rintro e w2 ⟨rfl, hb2⟩
      have hx2 := ext_trans hx1 (Quiet.below hb2)
      by_cases h2 : cmpN (dn x.den) (dn y.den) = 0
      · have HF := Lib.hid (Ht.out (by simp) hs1.out h2)
        rw [h2]
        clear h2
        go_wp2_with fail
        go_ret
        exact ⟨by rw [HF.out]; rfl, hx2⟩
      · have HF := Lib.hid (Hf.out (.inr (.inr h2)))
        have t2 : (cmpN (dn x.den) (dn y.den) == 0) = false := by simpa using h2
        generalize cmpN (dn x.den) (dn y.den) = c at *
        clear h2
        go_wp2_with fail
        go_ret
        exact ⟨by rw [HF.out]; rfl, hx2⟩
    · have HF := Lib.hid (Hf.out (.inr (.inl h1)))
      have t2 : (cmpN x.num.natAbs y.num.natAbs == 0) = false := by simpa using h1
      generalize cmpN x.num.natAbs y.num.natAbs = c at *
      clear h1
      go_wp2_with fail
      go_ret
      exact ⟨by rw [HF.out]; rfl, hx1⟩
  · have HF := Lib.hid (Hf.out (.inl h))
    have hal : Below w.heap.size w ((w.alloc (.cells #[.bool sx, .slice a1 (dig b64 x.num.natAbs).length c1, .slice a2 (dig b64 (dn x.den)).length c2] 50)).alloc (.cells #[.bool sy, .slice a3 (dig b64 y.num.natAbs).length c3, .slice a4 (dig b64 (dn y.den)).length c4] 50)) :=
      ((Below.refl _ _).alloc (Nat.le_refl _) _).alloc (by simp) _
    have hB1 := (blk_keep (blk_new w #[.bool sx, .slice a1 (dig b64 x.num.natAbs).length c1, .slice a2 (dig b64 (dn x.den)).length c2] 50) ((Below.refl _ _).alloc (Nat.le_refl _) (.cells #[.bool sy, .slice a3 (dig b64 y.num.natAbs).length c3, .slice a4 (dig b64 (dn y.den)).length c4] 50)) (by simp))
    have hB2 := blk_new (w.alloc (.cells #[.bool sx, .slice a1 (dig b64 x.num.natAbs).length c1, .slice a2 (dig b64 (dn x.den)).length c2] 50)) #[.bool sy, .slice a3 (dig b64 y.num.natAbs).length c3, .slice a4 (dig b64 (dn y.den)).length c4] 50
    rw [World.size_alloc] at hB2
    have t1 : (sx == sy) = false := by simpa using h
    clear h
    go_enter Try.func23, Try.ntmps23
    go_wp2_with fail
    go_ret
    exact ⟨by rw [HF.out]; rfl, hal⟩

/-- Four cells of two boxes are held. -/
theorem keepQc {n : Nat} {W a b : World} {A0 A1 A2 A3 : Addr} {v0 v1 v2 v3 : Value} (hn : n ≤ W.heap.size) (hb : Below a.heap.size a b) (h : Below n W a ∧ a.cell? A0 = some v0 ∧ a.cell? A1 = some v1 ∧ a.cell? A2 = some v2 ∧ a.cell? A3 = some v3) :
    Below n W b ∧ b.cell? A0 = some v0 ∧ b.cell? A1 = some v1 ∧ b.cell? A2 = some v2 ∧ b.cell? A3 = some v3 := by
  obtain ⟨h0, h1, h2, h3, h4⟩ := h
  have e : ∀ A v, a.cell? A = some v → b.cell? A = some v := fun A v h => (hb.cell (World.block_lt_of_cell? (h := h))).trans h
  have := h0.size
  exact ⟨h0.trans (hb.mono (by omega)), e _ _ h1, e _ _ h2, e _ _ h3, e _ _ h4⟩
theorem keepQs {n : Nat} {W a : World} {N B1 B2 j0 j1 j2 j3 : Nat} {v0 v1 v2 v3 u0 u1 u2 : Value} (hn : n ≤ N) (h1 : B1 ≠ N) (h2 : B2 ≠ N) (h : Below n W a ∧ a.cell? ⟨B1, j0, none⟩ = some v0 ∧ a.cell? ⟨B1, j1, none⟩ = some v1 ∧ a.cell? ⟨B2, j2, none⟩ = some v2 ∧ a.cell? ⟨B2, j3, none⟩ = some v3) (b : World)
    (hb : b = ((a.setCell ⟨N, 0, none⟩ u0).setCell ⟨N, 1, none⟩ u1).setCell ⟨N, 2, none⟩ u2) : Below n W b ∧ b.cell? ⟨B1, j0, none⟩ = some v0 ∧ b.cell? ⟨B1, j1, none⟩ = some v1 ∧ b.cell? ⟨B2, j2, none⟩ = some v2 ∧ b.cell? ⟨B2, j3, none⟩ = some v3 := by
  subst hb
  have e : ∀ B j v, B ≠ N → a.cell? ⟨B, j, none⟩ = some v → (((a.setCell ⟨N, 0, none⟩ u0).setCell ⟨N, 1, none⟩ u1).setCell ⟨N, 2, none⟩ u2).cell? ⟨B, j, none⟩ = some v := fun B j v hne h => by
    rw [World.cell?_setCell_other, World.cell?_setCell_other, World.cell?_setCell_other, h]
    all_goals intro e; cases e; exact hne rfl
  obtain ⟨h0, k0, k1, k2, k3⟩ := h
  exact ⟨below_store3 h0 hn, e _ _ _ h1 k0, e _ _ _ h1 k1, e _ _ _ h2 k2, e _ _ _ h2 k3⟩
theorem keepQa {n : Nat} {W a : World} {o o' : Obj} {B1 B2 j0 j1 j2 j3 : Nat} {v0 v1 v2 v3 : Value} (hn : n ≤ a.heap.size) (h1 : B1 < a.heap.size) (h2 : B2 < a.heap.size) (h : Below n W (a.alloc o) ∧ (a.alloc o).cell? ⟨B1, j0, none⟩ = some v0 ∧ (a.alloc o).cell? ⟨B1, j1, none⟩ = some v1 ∧ (a.alloc o).cell? ⟨B2, j2, none⟩ = some v2 ∧ (a.alloc o).cell? ⟨B2, j3, none⟩ = some v3) :
    Below n W (a.alloc o') ∧ (a.alloc o').cell? ⟨B1, j0, none⟩ = some v0 ∧ (a.alloc o').cell? ⟨B1, j1, none⟩ = some v1 ∧ (a.alloc o').cell? ⟨B2, j2, none⟩ = some v2 ∧ (a.alloc o').cell? ⟨B2, j3, none⟩ = some v3 := by
  have e : ∀ B j v, B < a.heap.size → (a.alloc o).cell? ⟨B, j, none⟩ = some v → (a.alloc o').cell? ⟨B, j, none⟩ = some v := fun B j v hB h => by
    rw [← h]
    exact World.cell?_of_block (a := ⟨B, j, none⟩) ((heap_alloc_old a o' hB).trans (heap_alloc_old a o hB).symm)
  obtain ⟨h0, k0, k1, k2, k3⟩ := h
  exact ⟨⟨h0.os, h0.tape, h0.output, by have := h0.size; simp at this ⊢; exact this, fun k hk => ((heap_alloc_old a o' (by omega)).trans (heap_alloc_old a o (by omega)).symm).trans (h0.block k hk)⟩, e _ _ _ h1 k0, e _ _ _ h1 k1, e _ _ _ h2 k2, e _ _ _ h2 k3⟩

theorem keepZ {w w' : World} {B T : Nat} {cs : Array Value} (h : w.heap[B]? = some (.cells cs T (0, 0))) (hb : Below w.heap.size w w') : w'.heap[B]? = some (.cells cs T (0, 0)) := blk_keep h hb (blk_lt h)
theorem keepZal {w w' : World} {B T : Nat} {cs : Array Value} {o : Obj} (h : w.heap[B]? = some (.cells cs T (0, 0))) (hb : Below (w.alloc o).heap.size (w.alloc o) w') : w'.heap[B]? = some (.cells cs T (0, 0)) := blk_keep (blk_keep h ((Below.refl _ _).alloc (Nat.le_refl _) o) (blk_lt h)) hb (by have := blk_lt h; simp; omega)
theorem blk_new2 (w : World) (cs ds : Array Value) (T : Nat) : ((w.alloc (.cells cs T)).alloc (.cells ds T)).heap[w.heap.size + 1]? = some (.cells ds T (0, 0)) := by
  have := blk_new (w.alloc (.cells cs T)) ds T
  rw [World.size_alloc] at this
  exact this
theorem boxkeep2 {W w' : World} {cs ds : Array Value} {T : TypeId} (hb : Below ((W.alloc (.cells cs T)).alloc (.cells ds T)).heap.size ((W.alloc (.cells cs T)).alloc (.cells ds T)) w') : w'.heap[W.heap.size]? = some (.cells cs T (0, 0)) ∧ w'.heap[W.heap.size + 1]? = some (.cells ds T (0, 0)) :=
  ⟨blk_keep (blk_keep (blk_new W cs T) ((Below.refl _ _).alloc (Nat.le_refl _) _) (by simp)) hb (by simp; omega), blk_keep (blk_new2 W cs ds T) hb (by simp)⟩
theorem boxkeep2D {W w' : World} {cs ds : Array Value} {T : TypeId} (hb : Below ((W.alloc (.cells cs T)).alloc (.cells ds T)).drew.heap.size ((W.alloc (.cells cs T)).alloc (.cells ds T)).drew w') : w'.heap[W.heap.size]? = some (.cells cs T (0, 0)) ∧ w'.heap[W.heap.size + 1]? = some (.cells ds T (0, 0)) :=
  boxkeep2 (W := W) (cs := cs) (ds := ds) (T := T) (w' := w') ⟨hb.os, hb.tape, hb.output, hb.size, hb.block⟩
theorem zf {w : World} {B T : Nat} {x y z : Value} (h : w.heap[B]? = some (.cells #[x, y, z] T (0, 0))) : w.cell? ⟨B, 0, none⟩ = some x ∧ w.cell? ⟨B, 1, none⟩ = some y ∧ w.cell? ⟨B, 2, none⟩ = some z ∧ w.frozen? ⟨B, 0, none⟩ = false ∧ w.frozen? ⟨B, 1, none⟩ = false ∧ w.frozen? ⟨B, 2, none⟩ = false :=
  ⟨blk_cell h 0 _ rfl, blk_cell h 1 _ rfl, blk_cell h 2 _ rfl, blk_frozen h 0, blk_frozen h 1, blk_frozen h 2⟩

theorem blk_set3 {w : World} {N T : Nat} {x y z u v t : Value} (h : w.heap[N]? = some (.cells #[x, y, z] T (0, 0))) : (((w.setCell ⟨N, 0, none⟩ u).setCell ⟨N, 1, none⟩ v).setCell ⟨N, 2, none⟩ t).heap[N]? = some (.cells #[u, v, t] T (0, 0)) := blk_set (blk_set (blk_set h 0 _) 1 _) 2 _
theorem blk_oth3 {w : World} {N M : Nat} {o : Option Obj} {u v t : Value} (h : w.heap[N]? = o) (hne : N ≠ M) : (((w.setCell ⟨M, 0, none⟩ u).setCell ⟨M, 1, none⟩ v).setCell ⟨M, 2, none⟩ t).heap[N]? = o := by
  rw [heap_setCell_other _ ⟨M, 2, none⟩ N _ hne, heap_setCell_other _ ⟨M, 1, none⟩ N _ hne, heap_setCell_other _ ⟨M, 0, none⟩ N _ hne]
  exact h
theorem blk_al {w : World} {N : Nat} {o p : Obj} (h : w.heap[N]? = some o) : (w.alloc p).heap[N]? = some o := (heap_alloc_old w p (blk_lt h)).trans h
theorem IsRat.al {w : World} {v : Value} {q : Rat} {p : Obj} (h : IsRat w v q) : IsRat (w.alloc p) v q := h.below ((Below.refl _ _).alloc (Nat.le_refl _) _)
theorem IsRat.set3 {w : World} {v : Value} {q : Rat} {N T : Nat} {b0 : Bool} {x0 y0 : Option Addr} {i0 j0 k0 l0 i1 j1 k1 l1 : Nat} {neg : Bool} {x1 y1 : Option Addr} (h : IsRat w v q) (hB : w.heap[N]? = some (.cells #[.bool b0, .slice x0 i0 j0, .slice y0 k0 l0] T (0, 0))) : IsRat (((w.setCell ⟨N, 0, none⟩ (.bool neg)).setCell ⟨N, 1, none⟩ (.slice x1 i1 j1)).setCell ⟨N, 2, none⟩ (.slice y1 k1 l1)) v q := by
  obtain ⟨vn, vd, rfl, h1, h2⟩ := h
  exact ⟨_, _, rfl, store3 hB h1, store3 hB h2⟩

theorem keepQw {n : Nat} {W b : World} {B1 B2 j0 j1 j2 j3 : Nat} {v0 v1 v2 v3 : Value} (h1 : B1 < n) (h2 : B2 < n) (k0 : W.cell? ⟨B1, j0, none⟩ = some v0) (k1 : W.cell? ⟨B1, j1, none⟩ = some v1) (k2 : W.cell? ⟨B2, j2, none⟩ = some v2) (k3 : W.cell? ⟨B2, j3, none⟩ = some v3) (h : Below n W b) :
    Below n W b ∧ b.cell? ⟨B1, j0, none⟩ = some v0 ∧ b.cell? ⟨B1, j1, none⟩ = some v1 ∧ b.cell? ⟨B2, j2, none⟩ = some v2 ∧ b.cell? ⟨B2, j3, none⟩ = some v3 :=
  ⟨h, (h.cell h1).trans k0, (h.cell h1).trans k1, (h.cell h2).trans k2, (h.cell h2).trans k3⟩
theorem keepT {W a b : World} (h : Below W.heap.size W a) (hb : Below a.heap.size a b) : Below W.heap.size W b := h.trans (hb.mono h.size)
theorem keepTa {W a : World} {o : Obj} (h : Below W.heap.size W a) : Below W.heap.size W (a.alloc o) := h.alloc h.size _
theorem blk_newS {w : World} {cs : Array Value} {T : Nat} {a b c : Addr} {u v t : Value} : ((((w.setCell a u).setCell b v).setCell c t).alloc (.cells cs T)).heap[w.heap.size]? = some (.cells cs T (0, 0)) := by
  have := blk_new (((w.setCell a u).setCell b v).setCell c t) cs T
  simpa [World.setCell] using this

/-- s and t point at boxes of their own that hold the fractions p and q. -/
def SumBox2 (W0 : World) (p q : Rat) (s t : Value) (wx : World) : Prop :=
  ∃ (N : Nat) (b : Bool) (x : Option Addr) (i j : Nat) (y : Option Addr) (k l : Nat) (M : Nat) (b2 : Bool) (x2 : Option Addr) (i2 j2 : Nat) (y2 : Option Addr) (k2 l2 : Nat) (T T2 : TypeId),
    s = .pointer (some ⟨N, 0, none⟩) ∧ t = .pointer (some ⟨M, 0, none⟩) ∧ W0.heap.size ≤ N ∧ W0.heap.size ≤ M ∧ Below W0.heap.size W0 wx ∧
    wx.heap[N]? = some (.cells #[.bool b, .slice x i j, .slice y k l] T (0, 0)) ∧ IsRat wx (.agg #[.bool b, .slice x i j, .slice y k l]) p ∧
    wx.heap[M]? = some (.cells #[.bool b2, .slice x2 i2 j2, .slice y2 k2 l2] T2 (0, 0)) ∧ IsRat wx (.agg #[.bool b2, .slice x2 i2 j2, .slice y2 k2 l2]) q

def apartI (a b : Pt) : Int := (a.1 - b.1) * (a.1 - b.1) + (a.2 - b.2) * (a.2 - b.2)
end Go.Proofs.Ytkdcgkafjkklcaa

/- LAYER 3: the walk of LayupLengths' closure. -/
namespace Go.Proofs.Ytkdcgkafjkklcaa
open Go.RowKit

set_option maxRecDepth 100000 in
set_option maxHeartbeats 40000000 in
theorem apart_any (a b : Pt) (w : World) (ha : ptOk a = true) (hb : ptOk b = true) : Calls Try.prog 20 #[.agg #[.int .i64 a.1, .int .i64 a.2], .agg #[.int .i64 b.1, .int .i64 b.2]] w (RetRat ((apartI a b : Int) : Rat) w) := by
  have ra := ptOk_range ha
  have rb := ptOk_range hb
  obtain ⟨e1, r1, s1⟩ := sub_far ra.1 rb.1
  obtain ⟨d1, hd1⟩ : ∃ d, d = a.1 - b.1 := ⟨_, rfl⟩
  rw [← hd1] at r1 s1
  replace e1 : IntKind.i64.wrap (a.1 - b.1) = d1 := by rw [hd1]; exact e1
  obtain ⟨e2, r2, s2⟩ := sub_far ra.2 rb.2
  obtain ⟨d2, hd2⟩ : ∃ d, d = a.2 - b.2 := ⟨_, rfl⟩
  rw [← hd2] at r2 s2
  replace e2 : IntKind.i64.wrap (a.2 - b.2) = d2 := by rw [hd2]; exact e2
  have Hs1 := Lib.hid (prod_szR s1 s1)
  have Hs2 := Lib.hid (prod_szR s2 s2)
  have Hm1 : Hid ((((d1 : Int) : Rat)) * (((d1 : Int) : Rat)) = ((d1 * d1 : Int) : Rat)) := (Rat.intCast_mul d1 d1).symm
  have Hm2 : Hid ((((d2 : Int) : Rat)) * (((d2 : Int) : Rat)) = ((d2 * d2 : Int) : Rat)) := (Rat.intCast_mul d2 d2).symm
  have Hz1 := Lib.hid (i64_szR d1 r1.1 r1.2 68719476736 (by omega))
  have Hz2 := Lib.hid (i64_szR d2 r2.1 r2.2 68719476736 (by omega))
  have He : Hid ((((d1 * d1 : Int) : Rat)) + (((d2 * d2 : Int) : Rat)) = ((apartI a b : Int) : Rat)) := by
    show _ = _
    rw [← Rat.intCast_add, hd1, hd2]
    rfl
  have HN1 : Hid (∀ W, Calls Try.prog 17 #[.int .i64 d1] W (RetRat (((d1 : Int) : Rat)) W)) := fun W => num03_any d1 W r1.1 r1.2
  have HN2 : Hid (∀ W, Calls Try.prog 17 #[.int .i64 d2] W (RetRat (((d2 : Int) : Rat)) W)) := fun W => num03_any d2 W r2.1 r2.2
  generalize hI : ((apartI a b : Int) : Rat) = Q at *
  clear ha hb ra rb r1 s1 hd1 r2 s2 hd2 hI
  generalize ((d1 * d1 : Int) : Rat) = p1 at *
  generalize ((d2 * d2 : Int) : Rat) = p2 at *
  generalize ((d1 : Int) : Rat) = q1 at *
  generalize ((d2 : Int) : Rat) = q2 at *
  generalize a.1 = ax at *
  generalize a.2 = ay at *
  generalize b.1 = bx at *
  generalize b.2 = by' at *
  go_enter Try.func20, Try.ntmps20
  go_wp2_with fail
  have hB1 := blk_new w #[.int .i64 ax, .int .i64 ay] 55
  have hA1 := (Below.refl w.heap.size w).alloc (Nat.le_refl _) (.cells #[.int .i64 ax, .int .i64 ay] 55)
  have hB2 := blk_new (w.alloc (.cells #[.int .i64 ax, .int .i64 ay] 55)) #[.int .i64 bx, .int .i64 by'] 55
  rw [World.size_alloc] at hB2
  have hB12 := blk_keep hB1 ((Below.refl _ _).alloc (Nat.le_refl _) (.cells #[.int .i64 bx, .int .i64 by'] 55)) (blk_lt hB1)
  have hA2 := hA1.alloc hA1.size (.cells #[.int .i64 bx, .int .i64 by'] 55)
  have hB3 := blk_new ((w.alloc (.cells #[.int .i64 ax, .int .i64 ay] 55)).alloc (.cells #[.int .i64 bx, .int .i64 by'] 55)) #[.bool false, .slice none 0 0, .slice none 0 0] 50
  rw [World.size_alloc, World.size_alloc] at hB3
  have hB13 := blk_keep hB12 ((Below.refl _ _).alloc (Nat.le_refl _) (.cells #[.bool false, .slice none 0 0, .slice none 0 0] 50)) (blk_lt hB12)
  have hB23 := blk_keep hB2 ((Below.refl _ _).alloc (Nat.le_refl _) (.cells #[.bool false, .slice none 0 0, .slice none 0 0] 50)) (blk_lt hB2)
  have hA3 := hA2.alloc hA2.size (.cells #[.bool false, .slice none 0 0, .slice none 0 0] 50)
  generalize ((w.alloc (.cells #[.int .i64 ax, .int .i64 ay] 55)).alloc (.cells #[.int .i64 bx, .int .i64 by'] 55)).alloc (.cells #[.bool false, .slice none 0 0, .slice none 0 0] 50) = W at *
  have HB : Hid (RB W (w.heap.size + 2)) := ⟨false, none, 0, 0, none, 0, 0, _, hB3⟩
  have hl1 := blk_lt hB13
  have hl2 := blk_lt hB23
  have hl3 := blk_lt hB3
  clear hB1 hB2 hA1 hA2 hB12 hB3
  go_cut [5, 6] from 5 to 18 (fun s t wx => SumBox2 W q1 q2 s t wx)
  case first =>
    clear HB Hs1 Hs2 Hm1 Hm2 Hz1 Hz2 He hA3 hl3
    have hWz : Below W.heap.size W W := Below.refl _ _
    have w0 := blk_cell hB13 0 (.int .i64 ax) rfl
    have w1 := blk_cell hB13 1 (.int .i64 ay) rfl
    have w2 := blk_cell hB23 0 (.int .i64 bx) rfl
    have w3 := blk_cell hB23 1 (.int .i64 by') rfl
    clear hB13 hB23
    go_region_held3 (fun w' => Below W.heap.size W w' ∧ w'.cell? ⟨w.heap.size, 0, none⟩ = some (.int .i64 ax) ∧ w'.cell? ⟨w.heap.size, 1, none⟩ = some (.int .i64 ay) ∧ w'.cell? ⟨w.heap.size + 1, 0, none⟩ = some (.int .i64 bx) ∧ w'.cell? ⟨w.heap.size + 1, 1, none⟩ = some (.int .i64 by'))
      (first | exact keepQw hl1 hl2 w0 w1 w2 w3 (by repeat (first | (with_reducible refine keepTa ?_) | (with_reducible refine Below.drew ?_) | (with_reducible refine below_store3 ?_ (by omega)) | (with_reducible exact hWz) | (with_reducible refine keepT ?_ hbB) | (with_reducible refine keepT ?_ hbA))))
      (first
        | (go_at_call_of 17 (Value.int .i64 d1); refine (HN1.out _).mono ?_; rintro e wA ⟨vA, rfl, hvA, hbA⟩; obtain ⟨a7, k7, a8, k8, rfl, _, _⟩ := hvA.opened; have HVA := Lib.hid hvA; clear hvA; (first | (with_reducible have PA := boxkeep2D hbA; have QA := Lib.hid PA.1; have QB := Lib.hid PA.2; clear PA) | (with_reducible have PA := boxkeepD hbA; have QA := Lib.hid PA; clear PA) | skip))
        | (go_at_call_of 17 (Value.int .i64 d2); refine (HN2.out _).mono ?_; rintro e wB ⟨vB, rfl, hvB, hbB⟩; obtain ⟨a9, k9, a10, k10, rfl, _, _⟩ := hvB.opened; have HVB := Lib.hid hvB; clear hvB; (have sA := hbA.size; have sB := hbB.size; simp at sA sB); (try have NQ := Nat.ne_of_lt (blk_lt QA.out)); (try have NR := Nat.ne_of_gt (blk_lt QA.out)); (try have NP := Nat.ne_of_lt (blk_lt QB.out)); (first | (with_reducible have QC := Lib.hid (keepZ QA.out hbB)) | (with_reducible have QC := Lib.hid (keepZal QA.out hbB)) | skip); (first | (with_reducible have QD := Lib.hid (keepZ QB.out hbB)) | skip); (first | (with_reducible have PB := boxkeep2 hbB; have QE := Lib.hid PB.1; have QF := Lib.hid PB.2; clear PB) | (with_reducible have PB := boxkeep hbB; have QE := Lib.hid PB; clear PB) | skip); (first | (have L1 := blk_lt QC.out; have L2 := blk_lt QD.out; (obtain ⟨fa0, fa1, fa2, fa3, fa4, fa5⟩ := zf QC.out); (obtain ⟨fb0, fb1, fb2, fb3, fb4, fb5⟩ := zf QD.out)) | (have L1 := blk_lt QE.out; have L2 := blk_lt QF.out; (obtain ⟨fa0, fa1, fa2, fa3, fa4, fa5⟩ := zf QE.out); (obtain ⟨fb0, fb1, fb2, fb3, fb4, fb5⟩ := zf QF.out)) | (have L1 := blk_lt QC.out; have L2 := blk_lt QE.out; (obtain ⟨fa0, fa1, fa2, fa3, fa4, fa5⟩ := zf QC.out); (obtain ⟨fb0, fb1, fb2, fb3, fb4, fb5⟩ := zf QE.out)) | (have L1 := blk_lt QC.out; have L3 := Nat.ne_of_lt L1; have L4 := Nat.ne_of_gt L1; (obtain ⟨fa0, fa1, fa2, fa3, fa4, fa5⟩ := zf QC.out); (obtain ⟨fb0, fb1, fb2, fb3, fb4, fb5⟩ := zf (blk_al (p := (.cells #[.bool false, .slice none 0 0, .slice none 0 0] 50)) QC.out)); (obtain ⟨na0, na1, na2, na3, na4, na5⟩ := zf (blk_new wB #[.bool false, .slice none 0 0, .slice none 0 0] 50))) | (have L1 := blk_lt QE.out; have L3 := Nat.ne_of_lt L1; have L4 := Nat.ne_of_gt L1; (obtain ⟨fa0, fa1, fa2, fa3, fa4, fa5⟩ := zf QE.out); (obtain ⟨fb0, fb1, fb2, fb3, fb4, fb5⟩ := zf (blk_al (p := (.cells #[.bool false, .slice none 0 0, .slice none 0 0] 50)) QE.out)); (obtain ⟨na0, na1, na2, na3, na4, na5⟩ := zf (blk_new wB #[.bool false, .slice none 0 0, .slice none 0 0] 50))) | (obtain ⟨nb0, nb1, nb2, nb3, nb4, nb5⟩ := zf (blk_al (p := (.cells #[.bool false, .slice none 0 0, .slice none 0 0] 50)) (blk_new wB #[.bool false, .slice none 0 0, .slice none 0 0] 50)); obtain ⟨nc0, nc1, nc2, nc3, nc4, nc5⟩ := zf (blk_new2 wB #[.bool false, .slice none 0 0, .slice none 0 0] #[.bool false, .slice none 0 0, .slice none 0 0] 50)))))
    all_goals
      rename_i hS
      have hbS := hS.1
      clear hS
      go_wp2_with fail
      go_meet
      refine ⟨_, decide (q1.num < 0), a7, (dig b64 q1.num.natAbs).length, k7, a8, (dig b64 (dn q1.den)).length, k8, _, decide (q2.num < 0), a9, (dig b64 q2.num.natAbs).length, k9, a10, (dig b64 (dn q2.den)).length, k10, 50, 50, rfl, rfl, by first | omega | (simp; omega), by first | omega | (simp; omega), hbS, ?_, ?_, ?_, ?_⟩
      · repeat (first | (with_reducible exact QC.out) | (with_reducible exact QD.out) | (with_reducible exact QE.out) | (with_reducible exact QF.out) | (with_reducible exact blk_new _ _ _) | (with_reducible exact blk_new2 _ _ _ _) | (with_reducible exact blk_newS) | (with_reducible refine blk_set3 (x := .bool false) (y := .slice none 0 0) (z := .slice none 0 0) ?_) | (with_reducible refine blk_oth3 ?_ (by first | omega | (simp; omega))) | (with_reducible refine blk_al ?_))
      · repeat (first | (with_reducible refine IsRat.al ?_) | (with_reducible refine IsRat.set3 (T := 50) (b0 := false) (x0 := none) (y0 := none) (i0 := 0) (j0 := 0) (k0 := 0) (l0 := 0) ?_ ?_) | (with_reducible exact HVB.out) | (with_reducible exact HVA.out) | (with_reducible refine IsRat.below ?_ hbB) | (with_reducible exact QC.out) | (with_reducible exact QD.out) | (with_reducible exact QE.out) | (with_reducible exact QF.out) | (with_reducible exact blk_new _ _ _) | (with_reducible exact blk_new2 _ _ _ _) | (with_reducible exact blk_newS) | (with_reducible refine blk_set3 (x := .bool false) (y := .slice none 0 0) (z := .slice none 0 0) ?_) | (with_reducible refine blk_oth3 ?_ (by first | omega | (simp; omega))) | (with_reducible refine blk_al ?_))
      · repeat (first | (with_reducible exact QC.out) | (with_reducible exact QD.out) | (with_reducible exact QE.out) | (with_reducible exact QF.out) | (with_reducible exact blk_new _ _ _) | (with_reducible exact blk_new2 _ _ _ _) | (with_reducible exact blk_newS) | (with_reducible refine blk_set3 (x := .bool false) (y := .slice none 0 0) (z := .slice none 0 0) ?_) | (with_reducible refine blk_oth3 ?_ (by first | omega | (simp; omega))) | (with_reducible refine blk_al ?_))
      · repeat (first | (with_reducible refine IsRat.al ?_) | (with_reducible refine IsRat.set3 (T := 50) (b0 := false) (x0 := none) (y0 := none) (i0 := 0) (j0 := 0) (k0 := 0) (l0 := 0) ?_ ?_) | (with_reducible exact HVB.out) | (with_reducible exact HVA.out) | (with_reducible refine IsRat.below ?_ hbB) | (with_reducible exact QC.out) | (with_reducible exact QD.out) | (with_reducible exact QE.out) | (with_reducible exact QF.out) | (with_reducible exact blk_new _ _ _) | (with_reducible exact blk_new2 _ _ _ _) | (with_reducible exact blk_newS) | (with_reducible refine blk_set3 (x := .bool false) (y := .slice none 0 0) (z := .slice none 0 0) ?_) | (with_reducible refine blk_oth3 ?_ (by first | omega | (simp; omega))) | (with_reducible refine blk_al ?_))
  case rest =>
    obtain ⟨N, b5, x5, i5, j5, y5, k5, l5, M, b6, x6, i6, j6, y6, k6, l6, T5, T6, rfl, rfl, hN, hM, hbc, hNB, hvN, hMB, hvM⟩ := hcut
    have n0 := blk_cell hNB 0 _ rfl
    have n1 := blk_cell hNB 1 _ rfl
    have n2 := blk_cell hNB 2 _ rfl
    have m0 := blk_cell hMB 0 _ rfl
    have m1 := blk_cell hMB 1 _ rfl
    have m2 := blk_cell hMB 2 _ rfl
    have hRB := HB.out.keep hbc hl3
    have hHB := Lib.hid hRB
    have hxc := ext_trans hA3 hbc
    have hW := hxc.drew
    have HVN := Lib.hid hvN
    have HVM := Lib.hid hvM
    have hlx := hRB.lt
    have hne1 : N ≠ w.heap.size + 2 := by omega
    have hne2 : M ≠ w.heap.size + 2 := by omega
    clear hNB hMB hvN hvM hbc HB hRB
    go_wp2_with fail
    go_region_held3 (fun w' => Below w.heap.size w w' ∧ RB w' (w.heap.size + 2) ∧ w'.cell? ⟨N, 0, none⟩ = some (.bool b5) ∧ w'.cell? ⟨N, 1, none⟩ = some (.slice x5 i5 j5) ∧ w'.cell? ⟨N, 2, none⟩ = some (.slice y5 k5 l5) ∧ w'.cell? ⟨M, 0, none⟩ = some (.bool b6) ∧ w'.cell? ⟨M, 1, none⟩ = some (.slice x6 i6 j6) ∧ w'.cell? ⟨M, 2, none⟩ = some (.slice y6 k6 l6) ∧ w'.cell? ⟨w.heap.size + 2, 0, none⟩ = some (cellOf w' ⟨w.heap.size + 2, 0, none⟩) ∧ w'.cell? ⟨w.heap.size + 2, 1, none⟩ = some (cellOf w' ⟨w.heap.size + 2, 1, none⟩) ∧ w'.cell? ⟨w.heap.size + 2, 2, none⟩ = some (cellOf w' ⟨w.heap.size + 2, 2, none⟩) ∧ w'.frozen? ⟨w.heap.size + 2, 0, none⟩ = false ∧ w'.frozen? ⟨w.heap.size + 2, 1, none⟩ = false ∧ w'.frozen? ⟨w.heap.size + 2, 2, none⟩ = false)
      (first | exact hold6 hW n0 n1 n2 m0 m1 m2 hHB.out | exact hold6_call (Nat.le_refl _) hbC (by assumption) | exact hold6_call (Nat.le_refl _) hbB (by assumption) | exact hold6_call (Nat.le_refl _) hbA (by assumption) | exact hold6_store _ _ _ _ _ _ _ (by omega) hne1 hne2 (by assumption) _ rfl)
      (first
        | (go_at_call_of 21 (Value.agg #[Value.bool b5, Value.slice x5 i5 j5, Value.slice y5 k5 l5]); refine (mulRat_any _ _ _ _ _ (HVN.out.below (Below.refl _ _).drew) (HVN.out.below (Below.refl _ _).drew) Hz1.out Hz1.out).mono ?_; rw [Hm1.out]; rintro e wA ⟨vA, rfl, hvA, hbA⟩)
        | (go_at_call_of 21 (Value.agg #[Value.bool b6, Value.slice x6 i6 j6, Value.slice y6 k6 l6]); refine (mulRat_any _ _ _ _ _ ((HVM.out.below (Below.refl _ _).drew).below hbA) ((HVM.out.below (Below.refl _ _).drew).below hbA) Hz2.out Hz2.out).mono ?_; rw [Hm2.out]; rintro e wB ⟨vB, rfl, hvB, hbB⟩)
        | (go_at_call 22; refine (addRat_any _ _ _ _ _ (hvA.below hbB) hvB Hs1.out Hs2.out).mono ?_; rw [He.out]; rintro e wC ⟨vC, rfl, hvC, hbC⟩; obtain ⟨a5, c5, a6, c6, rfl, n5, n6⟩ := IsRat.opened hvC))
    have hE := ext_trans (ext_trans hbA hbB) hbC
    have hRB3 := RB.keep (a := wc.drew) hHB.out hE hlx
    have hx := hW.trans (hE.mono hW.size)
    obtain ⟨g0, g1, g2, f0', f1', f2'⟩ := hRB3.cell
    have hBl := hRB3.lt
    go_wp2_with fail
    refine bodyPost_ret (v := .agg #[.bool (decide (Q.num < 0)), .slice a5 (dig b64 Q.num.natAbs).length _, .slice a6 (dig b64 (dn Q.den)).length _]) (by simp [results, Try.results20, go_sem, g0, g1, g2]; first | done | exact ⟨rfl, rfl⟩ | rfl) rfl ⟨_, rfl, ?_, below_store3 hx (by omega)⟩
    exact IsRat.stored hRB3 n5 n6 rfl rfl

end Go.Proofs.Ytkdcgkafjkklcaa

/- LAYER 3: round (the polygons of the laws): the plain law and the walk. -/
namespace Go.Proofs.Ytkdcgkafjkklcaa
open Go.RowKit

def P8 : List Pt := [(3, 0), (5, 1), (6, 3), (5, 6), (3, 7), (1, 6), (0, 3), (1, 1)]
def bitN (s i : Nat) : Bool := decide (s / 2 ^ i % 2 = 1)
def pickB (s len i : Nat) : Bool := bitN s i || decide (len + 8 ≤ 3 + i)
def picks (s : Nat) : Nat → List Pt
  | 0 => []
  | i + 1 => if pickB s (picks s i).length i then picks s i ++ [ptAt P8 i] else picks s i
def scP (n : Int) (c p : Pt) : Pt := (p.1 * n + c.1, p.2 * n + c.2)
def roundTo (s : Nat) (n : Int) (c : Pt) (i : Nat) : List Pt := (picks s i).map (scP n c)
def roundL (s : Nat) (n : Int) (c : Pt) : List Pt := roundTo s n c 8
def goodShape (s : Nat) : Bool :=
  decide (3 ≤ (picks s 8).length) && decide ((picks s 8).length ≤ 8) &&
    (List.range (picks s 8).length).all (fun k => (List.range k).all fun j => (List.range j).all fun i => decide (0 < crossI (ptAt (picks s 8) i) (ptAt (picks s 8) j) (ptAt (picks s 8) k))) &&
    (List.range (picks s 8).length).all (fun i => decide (0 ≤ (ptAt (picks s 8) i).1) && decide ((ptAt (picks s 8) i).1 ≤ 7) && decide (0 ≤ (ptAt (picks s 8) i).2) && decide ((ptAt (picks s 8) i).2 ≤ 7))
set_option maxRecDepth 100000 in
theorem shapes_good : (List.range 256).all goodShape = true := by decide +kernel
theorem shape_good (s : Nat) (hs : s < 256) : (3 ≤ (picks s 8).length ∧ (picks s 8).length ≤ 8) ∧ Round3 (picks s 8) ∧ ∀ i, i < (picks s 8).length → (0 ≤ (ptAt (picks s 8) i).1 ∧ (ptAt (picks s 8) i).1 ≤ 7) ∧ 0 ≤ (ptAt (picks s 8) i).2 ∧ (ptAt (picks s 8) i).2 ≤ 7 := by
  have h := List.all_eq_true.1 shapes_good s (List.mem_range.2 hs)
  unfold goodShape at h
  simp only [Bool.and_eq_true, decide_eq_true_eq, List.all_eq_true, List.mem_range] at h
  exact ⟨h.1.1, fun k hk j hj i hi => h.1.2 k hk j hj i hi, fun i hi => ⟨⟨(h.2 i hi).1.1.1, (h.2 i hi).1.1.2⟩, (h.2 i hi).1.2, (h.2 i hi).2⟩⟩
theorem picks_length (s i : Nat) : (picks s i).length ≤ i := by
  induction i with
  | zero => simp [picks]
  | succ i ih =>
    unfold picks
    split
    · rw [List.length_append, List.length_singleton]; omega
    · omega
theorem crossI_sc (n : Int) (c p q r : Pt) : crossI (scP n c p) (scP n c q) (scP n c r) = n * n * crossI p q r := by
  unfold crossI scP
  grind
theorem roundL_length (s : Nat) (n : Int) (c : Pt) : (roundL s n c).length = (picks s 8).length := by unfold roundL roundTo; simp
theorem roundL_at (s : Nat) (n : Int) (c : Pt) (i : Nat) (hi : i < (picks s 8).length) : ptAt (roundL s n c) i = scP n c (ptAt (picks s 8) i) := by
  unfold roundL roundTo
  exact ptAt_map _ _ _ hi
theorem roundL_range (s : Nat) (hs : s < 256) (n : Int) (hn : 1 ≤ n ∧ n ≤ 20) (c : Pt) (h1 : -128 ≤ c.1 ∧ c.1 ≤ 127) (h2 : -128 ≤ c.2 ∧ c.2 ≤ 127) (i : Nat) (hi : i < (roundL s n c).length) :
    (-268 ≤ (ptAt (roundL s n c) i).1 ∧ (ptAt (roundL s n c) i).1 ≤ 268) ∧ -268 ≤ (ptAt (roundL s n c) i).2 ∧ (ptAt (roundL s n c) i).2 ≤ 268 := by
  rw [roundL_length] at hi
  have h := (shape_good s hs).2.2 i hi
  rw [roundL_at s n c i hi]
  generalize ptAt (picks s 8) i = p at *
  unfold scP
  have m1 := mul_absI (a := p.1) (A := 7) (b := n) (B := 20) (by omega) (by omega)
  have m2 := mul_absI (a := p.2) (A := 7) (b := n) (B := 20) (by omega) (by omega)
  dsimp only
  omega
theorem roundL_round (s : Nat) (hs : s < 256) (n : Int) (hn : 1 ≤ n ∧ n ≤ 20) (c : Pt) : Round3 (roundL s n c) := by
  intro k hk j hj i hi
  rw [roundL_length] at hk
  rw [roundL_at _ _ _ _ hk, roundL_at _ _ _ _ (by omega), roundL_at _ _ _ _ (by omega), crossI_sc]
  exact Int.mul_pos (Int.mul_pos (by omega) (by omega)) ((shape_good s hs).2.1 k hk j hj i hi)
theorem ptsOk_of_range {l : List Pt} {A : Int} (hA : A ≤ far) (h : ∀ i, i < l.length → (-A ≤ (ptAt l i).1 ∧ (ptAt l i).1 ≤ A) ∧ -A ≤ (ptAt l i).2 ∧ (ptAt l i).2 ≤ A) : ptsOk l = true := by
  unfold ptsOk
  rw [List.all_eq_true]
  intro x hx
  obtain ⟨i, hi, rfl⟩ := List.getElem_of_mem hx
  have := h i hi
  have e : ptAt l i = l[i] := by unfold ptAt; simp [hi]
  rw [e] at this
  unfold ptOk inB
  simp only [Bool.and_eq_true, decide_eq_true_eq]
  omega
theorem roundL_ok (s : Nat) (hs : s < 256) (n : Int) (hn : 1 ≤ n ∧ n ≤ 20) (c : Pt) (h1 : -128 ≤ c.1 ∧ c.1 ≤ 127) (h2 : -128 ≤ c.2 ∧ c.2 ≤ 127) : outErr (roundL s n c) = 0 := by
  have hl := (shape_good s hs).1
  exact outErr_ok _ (by rw [roundL_length]; omega) (ptsOk_of_range (A := 268) (by unfold far; omega) (roundL_range s hs n hn c h1 h2)) (roundL_round s hs n hn c)
theorem turn_range {d p : Pt} {A B : Int} (hd : (-A ≤ d.1 ∧ d.1 ≤ A) ∧ -A ≤ d.2 ∧ d.2 ≤ A) (hp : (-B ≤ p.1 ∧ p.1 ≤ B) ∧ -B ≤ p.2 ∧ p.2 ≤ B) : (-(2 * (A * B)) ≤ (turnI d p).1 ∧ (turnI d p).1 ≤ 2 * (A * B)) ∧ -(2 * (A * B)) ≤ (turnI d p).2 ∧ (turnI d p).2 ≤ 2 * (A * B) := by
  have m1 := mul_absI hd.1 hp.1
  have m2 := mul_absI hd.2 hp.2
  have m3 := mul_absI hd.1 hp.2
  have m4 := mul_absI hd.2 hp.1
  unfold turnI
  dsimp only
  omega
theorem sq_pos {p q : Int} (h : p ≠ 0 ∨ q ≠ 0) : 0 < p * p + q * q := by
  have h1 : 0 ≤ p * p := by rw [← Int.natAbs_mul_self' p]; exact Int.mul_nonneg (Int.natCast_nonneg _) (Int.natCast_nonneg _)
  have h2 : 0 ≤ q * q := by rw [← Int.natAbs_mul_self' q]; exact Int.mul_nonneg (Int.natCast_nonneg _) (Int.natCast_nonneg _)
  rcases h with h | h
  · have : p * p ≠ 0 := Int.mul_ne_zero h h
    omega
  · have : q * q ≠ 0 := Int.mul_ne_zero h h
    omega
theorem turned_round {d : Pt} {l : List Pt} (h0 : d.1 ≠ 0 ∨ d.2 ≠ 0) (h : Round3 l) : Round3 (l.map (turnI d)) := by
  intro k hk j hj i hi
  rw [List.length_map] at hk
  rw [ptAt_map _ _ _ hk, ptAt_map _ _ _ (by omega), ptAt_map _ _ _ (by omega), crossI_turn]
  exact Int.mul_pos (sq_pos h0) (h k hk j hj i hi)

def ptsC : List Pt → List Value
  | [] => []
  | r :: l => .int .i64 r.1 :: .int .i64 r.2 :: ptsC l
theorem ptsC_append (a b : List Pt) : ptsC (a ++ b) = ptsC a ++ ptsC b := by
  induction a with
  | nil => rfl
  | cons r a ih => simp [ptsC, ih]
theorem ptsC_get (ls : List Pt) : ∀ i, i < ls.length → (ptsC ls)[i * 2]? = some (.int .i64 (ls.getD i (0, 0)).1) ∧ (ptsC ls)[i * 2 + 1]? = some (.int .i64 (ls.getD i (0, 0)).2) := by
  induction ls with
  | nil => intro i hi; simp at hi
  | cons r ls ih =>
    intro i hi
    cases i with
    | zero => simp [ptsC]
    | succ i =>
      have := ih i (by simpa using hi)
      simpa [ptsC, Nat.succ_mul] using this
theorem PairsOf.ofPts {w : World} {base : Nat} {e : TypeId} {v : Value} {ls : List Pt} (h : LRow w base e 2 v ls.length (ptsC ls)) : PairsOf w v ls := by
  rcases Nat.eq_zero_or_pos ls.length with h0 | hp
  · rcases h.1.2 with ⟨rfl, _⟩ | ⟨g, cap, cur, rfl, _⟩
    · exact ⟨none, 0, by rw [h0], fun h => absurd h (by omega)⟩
    · exact ⟨_, _, rfl, fun h => absurd h (by omega)⟩
  · obtain ⟨g, cap, rfl⟩ := ownsRow_some h.1 hp
    have hc : ∀ j u, (ptsC ls)[j]? = some u → w.cell? ((⟨g, 0, none⟩ : Addr).add j) = some u := h.1.cells (g := g) rfl
    have hlt : g < w.heap.size := (h.lt rfl).1
    refine ⟨_, _, rfl, fun _ => ⟨g, 0, rfl, hlt, fun i hi => ?_⟩⟩
    obtain ⟨h0, h1⟩ := ptsC_get ls i hi
    have ea : ∀ j, (⟨g, 0, none⟩ : Addr).add j = ⟨g, 0 + j, none⟩ := fun j => by unfold Addr.add; split <;> simp_all
    refine ⟨?_, ?_⟩
    · rw [← ea]; exact hc _ _ h0
    · rw [show 0 + i * 2 + 1 = 0 + (i * 2 + 1) by omega, ← ea]; exact hc _ _ h1
theorem zdP : ∀ u ∈ (Value.agg #[.int .i64 0, .int .i64 0]).cells.toList, noDig u := by
  intro u hu
  simp [Value.cells] at hu
  rw [hu]
  exact noDig_i64 _
theorem ndP (a b : Int) : ∀ u ∈ [Value.int .i64 a, Value.int .i64 b], noDig u := by
  intro u hu
  simp at hu
  rcases hu with rfl | rfl <;> exact noDig_i64 _
theorem oneP (a b : Int) : ∀ u ∈ [Value.int .i64 a, Value.int .i64 b], u.oneCell' = true := by simp [Value.oneCell']
theorem info_point : (Try.prog.info? 55).map (fun i => (i.zero, i.size, i.bytes)) = some (some (.agg #[.int .i64 0, .int .i64 0]), 2, 16) := by kernel_rfl
theorem cell_newP (w : World) (a b : Value) (t : TypeId) : ∀ j u, [a, b][j]? = some u → (w.alloc (.cells #[a, b] t)).cell? ((⟨w.heap.size, 0, none⟩ : Addr).add j) = some u := by
  intro j u hj
  match j, hj with
  | 0, hj => simp at hj; subst hj; simp [Addr.add]
  | 1, hj => simp at hj; subst hj; simp [Addr.add]
  | j + 2, hj => simp at hj
theorem pts_new8 (w : World) (t : TypeId) : PairsOf (w.alloc (.cells #[.int .i64 3, .int .i64 0, .int .i64 5, .int .i64 1, .int .i64 6, .int .i64 3, .int .i64 5, .int .i64 6, .int .i64 3, .int .i64 7, .int .i64 1, .int .i64 6, .int .i64 0, .int .i64 3, .int .i64 1, .int .i64 1] t)) (.slice (some ⟨w.heap.size, 0, none⟩) 8 8) P8 := by
  have hB := blk_new w #[.int .i64 3, .int .i64 0, .int .i64 5, .int .i64 1, .int .i64 6, .int .i64 3, .int .i64 5, .int .i64 6, .int .i64 3, .int .i64 7, .int .i64 1, .int .i64 6, .int .i64 0, .int .i64 3, .int .i64 1, .int .i64 1] t
  refine ⟨_, 8, rfl, fun _ => ⟨w.heap.size, 0, rfl, blk_lt hB, fun i hi => ?_⟩⟩
  match i, hi with
  | 0, _ => exact ⟨blk_cell hB 0 _ rfl, blk_cell hB 1 _ rfl⟩
  | 1, _ => exact ⟨blk_cell hB 2 _ rfl, blk_cell hB 3 _ rfl⟩
  | 2, _ => exact ⟨blk_cell hB 4 _ rfl, blk_cell hB 5 _ rfl⟩
  | 3, _ => exact ⟨blk_cell hB 6 _ rfl, blk_cell hB 7 _ rfl⟩
  | 4, _ => exact ⟨blk_cell hB 8 _ rfl, blk_cell hB 9 _ rfl⟩
  | 5, _ => exact ⟨blk_cell hB 10 _ rfl, blk_cell hB 11 _ rfl⟩
  | 6, _ => exact ⟨blk_cell hB 12 _ rfl, blk_cell hB 13 _ rfl⟩
  | 7, _ => exact ⟨blk_cell hB 14 _ rfl, blk_cell hB 15 _ rfl⟩
  | i + 8, hi => simp [P8] at hi; omega

def RetPts (l : List Pt) (w : World) (e : Ending) (w' : World) : Prop := ∃ v, e = .returned v ∧ PairsOf w' v l ∧ Below w.heap.size w w'
theorem P8_length : P8.length = 8 := rfl
theorem P8_range (i : Nat) (hi : i < 8) : (0 ≤ (ptAt P8 i).1 ∧ (ptAt P8 i).1 ≤ 7) ∧ 0 ≤ (ptAt P8 i).2 ∧ (ptAt P8 i).2 ≤ 7 := by
  have : ∀ i : Fin 8, (0 ≤ (ptAt P8 i).1 ∧ (ptAt P8 i).1 ≤ 7) ∧ 0 ≤ (ptAt P8 i).2 ∧ (ptAt P8 i).2 ≤ 7 := by decide
  exact this ⟨i, hi⟩
theorem roundTo_length (s : Nat) (n : Int) (c : Pt) (i : Nat) : (roundTo s n c i).length = (picks s i).length := by unfold roundTo; simp
theorem roundTo_pick {s : Nat} {n : Int} {c : Pt} {i : Nat} (h : pickB s (roundTo s n c i).length i = true) : roundTo s n c (i + 1) = roundTo s n c i ++ [scP n c (ptAt P8 i)] := by
  rw [roundTo_length] at h
  unfold roundTo
  rw [picks, if_pos h, List.map_append]
  rfl
theorem roundTo_skip {s : Nat} {n : Int} {c : Pt} {i : Nat} (h : pickB s (roundTo s n c i).length i = false) : roundTo s n c (i + 1) = roundTo s n c i := by
  rw [roundTo_length] at h
  unfold roundTo
  rw [picks, if_neg (by rw [h]; simp)]

set_option maxRecDepth 100000 in
set_option maxHeartbeats 4000000 in
theorem round_any (s z : Nat) (a0 a1 : Int) (w : World) (hs : s < 256) (hz : z < 256) (h0 : -128 ≤ a0 ∧ a0 ≤ 127) (h1 : -128 ≤ a1 ∧ a1 ≤ 127) :
    Calls Try.prog 18 #[.int .u8 (s : Int), .int .u8 (z : Int), .agg #[.int .i8 a0, .int .i8 a1]] w (RetPts (roundL s (1 + (z : Int) % 20) (a0, a1)) w) := by
  obtain ⟨m, hm⟩ : ∃ m, m = z % 20 := ⟨_, rfl⟩
  have hm20 : m < 20 := by omega
  have y1 : ((z : Int)).tmod 20 = (m : Int) := by rw [hm]; exact Int.tmod_eq_emod_of_nonneg (by omega)
  have y2 : ((z : Int)) % 20 = (m : Int) := by omega
  have y3 : IntKind.u8.wrap (m : Int) = (m : Int) := by unfold IntKind.wrap; simp [IntKind.bits]; omega
  have y4 : IntKind.i64.wrap (m : Int) = (m : Int) := IntWalk.i64_in _ (by omega)
  have y5 : IntKind.i64.wrap (1 + (m : Int)) = 1 + (m : Int) := IntWalk.i64_in _ (by omega)
  have y6 : IntKind.i64.wrap a0 = a0 := IntWalk.i64_in _ (by omega)
  have y7 : IntKind.i64.wrap a1 = a1 := IntWalk.i64_in _ (by omega)
  rw [y2]
  obtain ⟨i0, hi0, hz0, hz1, hz2⟩ := info_parts info_point
  have hzd := zdP
  have hB1 := blk_new w #[.int .i8 a0, .int .i8 a1] 44
  have hA1 := (Below.refl w.heap.size w).alloc (Nat.le_refl _) (.cells #[.int .i8 a0, .int .i8 a1] 44)
  have hP := pts_new8 (w.alloc (.cells #[.int .i8 a0, .int .i8 a1] 44)) 55
  rw [World.size_alloc] at hP
  have hB12 := blk_keep hB1 ((Below.refl _ _).alloc (Nat.le_refl _) (.cells #[.int .i64 3, .int .i64 0, .int .i64 5, .int .i64 1, .int .i64 6, .int .i64 3, .int .i64 5, .int .i64 6, .int .i64 3, .int .i64 7, .int .i64 1, .int .i64 6, .int .i64 0, .int .i64 3, .int .i64 1, .int .i64 1] 55)) (blk_lt hB1)
  have hA2 := hA1.alloc hA1.size (.cells #[.int .i64 3, .int .i64 0, .int .i64 5, .int .i64 1, .int .i64 6, .int .i64 3, .int .i64 5, .int .i64 6, .int .i64 3, .int .i64 7, .int .i64 1, .int .i64 6, .int .i64 0, .int .i64 3, .int .i64 1, .int .i64 1] 55)
  have HS := Lib.hid hs
  have HM := Lib.hid hm
  clear hB1 hA1 hs hz hm y2
  go_enter Try.func18, Try.ntmps18
  go_wp2_with fail
  have HP := Lib.hid hP
  generalize (w.alloc (.cells #[.int .i8 a0, .int .i8 a1] 44)).alloc (.cells #[.int .i64 3, .int .i64 0, .int .i64 5, .int .i64 1, .int .i64 6, .int .i64 3, .int .i64 5, .int .i64 6, .int .i64 3, .int .i64 7, .int .i64 1, .int .i64 6, .int .i64 0, .int .i64 3, .int .i64 1, .int .i64 1] 55) = W at *
  have hl1 := blk_lt hB12
  have p0 := blk_cell hB12 0 (.int .i8 a0) rfl
  have p1 := blk_cell hB12 1 (.int .i8 a1) rfl
  clear hP hB12
  go_loopw [9, 27] (fun mv iv wr => ∃ (i : Nat), i ≤ 8 ∧ iv = .int .i64 i ∧ LRow wr W.heap.size 55 2 mv (roundTo s (1 + (m : Int)) (a0, a1) i).length (ptsC (roundTo s (1 + (m : Int)) (a0, a1) i)) ∧ Below W.heap.size W wr)
    (fun _ iv _ => 8 - (intOf iv).toNat)
  case atStart => exact ⟨0, Nat.zero_le _, rfl, LRow.nil _ _ _ _, Below.refl _ _⟩
  case round =>
    obtain ⟨i, hi, rfl, hL, hbel⟩ := hrel
    obtain ⟨mo, mcap, rfl, _⟩ := hL.form
    have hlen8 : (roundTo s (1 + (m : Int)) (a0, a1) i).length ≤ i := by rw [roundTo_length]; exact picks_length s i
    by_cases hlt : i < 8
    · obtain ⟨ao, cap, hag, hE⟩ := HP.out
      simp only [Value.slice.injEq] at hag
      obtain ⟨rfl, -, -⟩ := hag
      obtain ⟨b, off, hbo, hbl, hLL⟩ := hE (by rw [P8_length]; omega)
      simp only [Option.some.injEq, Addr.mk.injEq] at hbo
      obtain ⟨rfl, rfl, -⟩ := hbo
      obtain ⟨g0, g1⟩ := (hLL i (by rw [P8_length]; omega)).below hbel hbl
      have hpr := P8_range i hlt
      have hlt' : (i : Int) < 8 := by omega
      have hge' : (0 : Int) ≤ i := by omega
      have Hsc : Hid (scP (1 + (m : Int)) (a0, a1) (ptAt P8 i) = ((ptAt P8 i).1 * (1 + (m : Int)) + a0, (ptAt P8 i).2 * (1 + (m : Int)) + a1)) := rfl
      have Hpk := Lib.hid (@roundTo_pick s (1 + (m : Int)) (a0, a1) i)
      have Hsk := Lib.hid (@roundTo_skip s (1 + (m : Int)) (a0, a1) i)
      have Hbe : Hid (pickB s (roundTo s (1 + (m : Int)) (a0, a1) i).length i = (bitN s i || decide ((roundTo s (1 + (m : Int)) (a0, a1) i).length + 8 ≤ 3 + i))) := rfl
      have e1 := mul_absI (a := (ptAt P8 i).1) (A := 7) (b := 1 + (m : Int)) (B := 20) (by omega) (by omega)
      have e2 := mul_absI (a := (ptAt P8 i).2) (A := 7) (b := 1 + (m : Int)) (B := 20) (by omega) (by omega)
      have q0 := (hbel.cell (p := ⟨w.heap.size, 0, none⟩) hl1).trans p0
      have q1 := (hbel.cell (p := ⟨w.heap.size, 1, none⟩) hl1).trans p1
      have e : ptAt P8 i = P8.getD i (0, 0) := rfl
      rw [← e] at g0 g1
      simp only [Nat.zero_add] at g0 g1
      clear hLL hE e
      generalize (ptAt P8 i).1 = px at *
      generalize (ptAt P8 i).2 = py at *
      obtain ⟨X, hX⟩ : ∃ X, X = px * (1 + (m : Int)) + a0 := ⟨_, rfl⟩
      obtain ⟨Y, hY⟩ : ∃ Y, Y = py * (1 + (m : Int)) + a1 := ⟨_, rfl⟩
      rw [← hX, ← hY] at Hsc
      have u1 : IntKind.i64.wrap (px * (1 + (m : Int))) = px * (1 + (m : Int)) := IntWalk.i64_in _ (by omega)
      have u2 : IntKind.i64.wrap (py * (1 + (m : Int))) = py * (1 + (m : Int)) := IntWalk.i64_in _ (by omega)
      have u3 : IntKind.i64.wrap (px * (1 + (m : Int)) + a0) = X := by rw [hX]; exact IntWalk.i64_in _ (by omega)
      have u4 : IntKind.i64.wrap (py * (1 + (m : Int)) + a1) = Y := by rw [hY]; exact IntWalk.i64_in _ (by omega)
      have hi8 : (i : Int) ≤ 8 := by omega
      obtain ⟨t, ht⟩ : ∃ t, t = s / 2 ^ i := ⟨_, rfl⟩
      have ht8 : t < 256 := by rw [ht]; exact Nat.lt_of_le_of_lt (Nat.div_le_self _ _) HS.out
      have v1 : (s : Int) / 2 ^ i = (t : Int) := by rw [ht]; simp
      have v2 : bits .and .u8 (t : Int) 1 = ((t % 2 : Nat) : Int) := by
        have := u8_and_nat t 1 ht8 (by omega)
        rw [Nat.and_one_is_mod] at this
        exact this
      have Hbit : Hid (bitN s i = decide (t % 2 = 1)) := by show _ = _; unfold bitN; rw [ht]
      generalize hnl : (roundTo s (1 + (m : Int)) (a0, a1) i).length = n at *
      have v3 : IntKind.i64.wrap ((n : Int) + 8) = (n : Int) + 8 := IntWalk.i64_in _ (by omega)
      have v4 : IntKind.i64.wrap ((n : Int) + 8 - i) = (n : Int) + 8 - i := IntWalk.i64_in _ (by omega)
      have hx1 := (Below.refl wr.heap.size wr).alloc (Nat.le_refl _) (.cells #[.int .i64 px, .int .i64 py] 55)
      have q0' := (hx1.cell (p := ⟨w.heap.size, 0, none⟩) (Nat.lt_of_lt_of_le hl1 hbel.size)).trans q0
      have q1' := (hx1.cell (p := ⟨w.heap.size, 1, none⟩) (Nat.lt_of_lt_of_le hl1 hbel.size)).trans q1
      clear hX hY ht e1 e2 hpr
      generalize t % 2 = t2 at *
      by_cases c1 : t2 = 1
      · have k1 : (((t2 : Nat) : Int) == 1) = true := by rw [c1]; rfl
        have Hp : Hid (roundTo s (1 + (m : Int)) (a0, a1) (i + 1) = roundTo s (1 + (m : Int)) (a0, a1) i ++ [(X, Y)]) := by
          show _ = _
          rw [← Hsc.out]
          exact Hpk.out (by rw [Hbe.out, Hbit.out, decide_eq_true c1]; rfl)
        clear c1 Hpk Hsk Hbe Hbit Hsc
        have hx2 := hx1.alloc hx1.size (.cells #[.int .i64 X, .int .i64 Y] 55)
        have hcn := cell_newP (wr.alloc (.cells #[.int .i64 px, .int .i64 py] 55)) (.int .i64 X) (.int .i64 Y) 55
        rw [World.size_alloc] at hcn
        have HCN := Lib.hid hcn
        have HL2 := Lib.hid (hL.below hx2)
        clear hcn hL hx1
        go_wp2_with (at_builtin; refine wpList_append_lrow _ rfl (.tmp 47) (.tmp 65) 52 rfl W.heap.size 55 i0 _ 2 16 Try.underlying52 hi0 hz0 hz1 hz2 rfl (by decide) hzd _ _ _ rfl HL2.out ⟨wr.heap.size + 1, 0, none⟩ 1 1 [.int .i64 X, .int .i64 Y] rfl rfl HCN.out (oneP _ _) (ndP _ _) (by omega) (by unfold maxLen; omega) (by omega) (by simp; have := hbel.size; omega) ?_)
        intro g cap' w3 hL3 hgr hat
        have hx3 : Below W.heap.size W w3 := (hbel.trans (hx2.mono hbel.size)).grown hgr (by simp; have := hbel.size; omega) (ownBlock_low HL2.out.1)
        go_wp2_with fail
        exact ⟨⟨i + 1, by omega, by go_num, by rw [Hp.out, List.length_append, ptsC_append, hnl]; exact hL3, hx3⟩, by simp [intOf]; omega⟩
      · have k1 : (((t2 : Nat) : Int) == 1) = false := by simp; omega
        by_cases c2 : n + 8 ≤ 3 + i
        · have k2 : decide ((n : Int) + 8 - i ≤ 3) = true := decide_eq_true (by omega)
          have Hp : Hid (roundTo s (1 + (m : Int)) (a0, a1) (i + 1) = roundTo s (1 + (m : Int)) (a0, a1) i ++ [(X, Y)]) := by
            show _ = _
            rw [← Hsc.out]
            exact Hpk.out (by rw [Hbe.out, decide_eq_true c2]; simp)
          clear c1 c2 Hpk Hsk Hbe Hbit Hsc
          have hx2 := hx1.alloc hx1.size (.cells #[.int .i64 X, .int .i64 Y] 55)
          have hcn := cell_newP (wr.alloc (.cells #[.int .i64 px, .int .i64 py] 55)) (.int .i64 X) (.int .i64 Y) 55
          rw [World.size_alloc] at hcn
          have HCN := Lib.hid hcn
          have HL2 := Lib.hid (hL.below hx2)
          clear hcn hL hx1
          go_wp2_with (at_builtin; refine wpList_append_lrow _ rfl (.tmp 47) (.tmp 65) 52 rfl W.heap.size 55 i0 _ 2 16 Try.underlying52 hi0 hz0 hz1 hz2 rfl (by decide) hzd _ _ _ rfl HL2.out ⟨wr.heap.size + 1, 0, none⟩ 1 1 [.int .i64 X, .int .i64 Y] rfl rfl HCN.out (oneP _ _) (ndP _ _) (by omega) (by unfold maxLen; omega) (by omega) (by simp; have := hbel.size; omega) ?_)
          intro g cap' w3 hL3 hgr hat
          have hx3 : Below W.heap.size W w3 := (hbel.trans (hx2.mono hbel.size)).grown hgr (by simp; have := hbel.size; omega) (ownBlock_low HL2.out.1)
          go_wp2_with fail
          exact ⟨⟨i + 1, by omega, by go_num, by rw [Hp.out, List.length_append, ptsC_append, hnl]; exact hL3, hx3⟩, by simp [intOf]; omega⟩
        · have k2 : decide ((n : Int) + 8 - i ≤ 3) = false := decide_eq_false (by omega)
          have Hp : Hid (roundTo s (1 + (m : Int)) (a0, a1) (i + 1) = roundTo s (1 + (m : Int)) (a0, a1) i) := Hsk.out (by rw [Hbe.out, Hbit.out, decide_eq_false c1, decide_eq_false c2]; rfl)
          clear c1 c2 Hpk Hsk Hbe Hbit Hsc
          have HL1 := Lib.hid (hL.below hx1)
          clear hL
          go_wp2_with fail
          exact ⟨⟨i + 1, by omega, by go_num, by rw [Hp.out, hnl]; exact HL1.out, hbel.trans (hx1.mono hbel.size)⟩, by simp [intOf]; omega⟩
    · obtain rfl : i = 8 := by omega
      have hP := Lib.hid (PairsOf.ofPts hL)
      clear hL
      go_wp2_with fail
      go_ret
      exact ⟨_, rfl, hP.out, ext_trans hA2 hbel⟩

end Go.Proofs.Ytkdcgkafjkklcaa

/- LAYER 3: LayupLengths. -/
namespace Go.Proofs.Ytkdcgkafjkklcaa
open Go.RowKit

theorem areaQ_turn (d : Pt) (l : List Pt) : areaQ (l.map (turnI d)) = areaQ l * ((d.1 * d.1 + d.2 * d.2 : Int) : Rat) := by
  unfold areaQ
  rw [areaI_turn, Rat.intCast_mul, Rat.div_def, Rat.div_def]
  grind
theorem apartI_turn (d a b : Pt) : ((apartI (turnI d a) (turnI d b) : Int) : Rat) = ((apartI a b : Int) : Rat) * ((d.1 * d.1 + d.2 * d.2 : Int) : Rat) := by
  rw [← Rat.intCast_mul]
  congr 1
  exact turn_apart d a b
theorem apartI_range {a b : Pt} {A : Int} (ha : (-A ≤ a.1 ∧ a.1 ≤ A) ∧ -A ≤ a.2 ∧ a.2 ≤ A) (hb : (-A ≤ b.1 ∧ b.1 ≤ A) ∧ -A ≤ b.2 ∧ b.2 ≤ A) : -(2 * (2 * A * (2 * A))) ≤ apartI a b ∧ apartI a b ≤ 2 * (2 * A * (2 * A)) := by
  have m1 := mul_absI (a := a.1 - b.1) (A := 2 * A) (b := a.1 - b.1) (B := 2 * A) (by omega) (by omega)
  have m2 := mul_absI (a := a.2 - b.2) (A := 2 * A) (b := a.2 - b.2) (B := 2 * A) (by omega) (by omega)
  unfold apartI
  omega
theorem areaQ_szR {l : List Pt} (hl : l.length ≤ 8) (h : ∀ i, i < l.length → (-268 ≤ (ptAt l i).1 ∧ (ptAt l i).1 ≤ 268) ∧ -268 ≤ (ptAt l i).2 ∧ (ptAt l i).2 ≤ 268) : szR (areaQ l) 68719476736 := by
  have := areaTo_range h l.length (Nat.le_refl _)
  have hm : (l.length : Int) * (2 * (268 * 268)) ≤ 8 * (2 * (268 * 268)) := by omega
  unfold areaQ areaI
  refine szR_mono (szR_div (i64_szR _ (by omega) (by omega) 1 (by omega)) (i64_szR 2 (by omega) (by omega) 1 (by omega)) (by simp)) (by omega)
theorem map_take_succ (f : Pt → Pt) (l : List Pt) (i : Nat) (hi : i < l.length) : (l.map f).take (i + 1) = (l.map f).take i ++ [f (ptAt l i)] := by
  rw [List.take_add_one]
  unfold ptAt
  simp [hi]

theorem keepC11c {n : Nat} {W a b : World} {A0 A1 A2 A3 A4 A5 A6 A7 A8 A9 A10 : Addr} {v0 v1 v2 v3 v4 v5 v6 v7 v8 v9 v10 : Value} (hn : n ≤ W.heap.size) (hb : Below a.heap.size a b) (h : Below n W a ∧ a.cell? A0 = some v0 ∧ a.cell? A1 = some v1 ∧ a.cell? A2 = some v2 ∧ a.cell? A3 = some v3 ∧ a.cell? A4 = some v4 ∧ a.cell? A5 = some v5 ∧ a.cell? A6 = some v6 ∧ a.cell? A7 = some v7 ∧ a.cell? A8 = some v8 ∧ a.cell? A9 = some v9 ∧ a.cell? A10 = some v10) :
    Below n W b ∧ b.cell? A0 = some v0 ∧ b.cell? A1 = some v1 ∧ b.cell? A2 = some v2 ∧ b.cell? A3 = some v3 ∧ b.cell? A4 = some v4 ∧ b.cell? A5 = some v5 ∧ b.cell? A6 = some v6 ∧ b.cell? A7 = some v7 ∧ b.cell? A8 = some v8 ∧ b.cell? A9 = some v9 ∧ b.cell? A10 = some v10 := by
  obtain ⟨h0, k0, k1, k2, k3, k4, k5, k6, k7, k8, k9, k10⟩ := h
  have e : ∀ A v, a.cell? A = some v → b.cell? A = some v := fun A v h => (hb.cell (World.block_lt_of_cell? (h := h))).trans h
  have := h0.size
  exact ⟨h0.trans (hb.mono (by omega)), e _ _ k0, e _ _ k1, e _ _ k2, e _ _ k3, e _ _ k4, e _ _ k5, e _ _ k6, e _ _ k7, e _ _ k8, e _ _ k9, e _ _ k10⟩
theorem keepC9c {n : Nat} {W a b : World} {A0 A1 A2 A3 A4 A5 A6 A7 A8 : Addr} {v0 v1 v2 v3 v4 v5 v6 v7 v8 : Value} (hn : n ≤ W.heap.size) (hb : Below a.heap.size a b) (h : Below n W a ∧ a.cell? A0 = some v0 ∧ a.cell? A1 = some v1 ∧ a.cell? A2 = some v2 ∧ a.cell? A3 = some v3 ∧ a.cell? A4 = some v4 ∧ a.cell? A5 = some v5 ∧ a.cell? A6 = some v6 ∧ a.cell? A7 = some v7 ∧ a.cell? A8 = some v8) :
    Below n W b ∧ b.cell? A0 = some v0 ∧ b.cell? A1 = some v1 ∧ b.cell? A2 = some v2 ∧ b.cell? A3 = some v3 ∧ b.cell? A4 = some v4 ∧ b.cell? A5 = some v5 ∧ b.cell? A6 = some v6 ∧ b.cell? A7 = some v7 ∧ b.cell? A8 = some v8 := by
  obtain ⟨h0, k0, k1, k2, k3, k4, k5, k6, k7, k8⟩ := h
  have e : ∀ A v, a.cell? A = some v → b.cell? A = some v := fun A v h => (hb.cell (World.block_lt_of_cell? (h := h))).trans h
  have := h0.size
  exact ⟨h0.trans (hb.mono (by omega)), e _ _ k0, e _ _ k1, e _ _ k2, e _ _ k3, e _ _ k4, e _ _ k5, e _ _ k6, e _ _ k7, e _ _ k8⟩
set_option maxRecDepth 100000 in
set_option maxHeartbeats 4000000 in
theorem layupLengths_any (p q : Int) (s z : Nat) (a0 a1 : Int) (w : World) (hp : -128 ≤ p ∧ p ≤ 127) (hq : -128 ≤ q ∧ q ≤ 127) (hs : s < 256) (hz : z < 256) (h0 : -128 ≤ a0 ∧ a0 ≤ 127) (h1 : -128 ≤ a1 ∧ a1 ≤ 127) :
    Calls Try.prog 4 #[.int .i8 p, .int .i8 q, .int .u8 (s : Int), .int .u8 (z : Int), .agg #[.int .i8 a0, .int .i8 a1]] w (RetBool true w) := by
  by_cases hz0 : p = 0 ∧ q = 0
  · obtain ⟨rfl, rfl⟩ := hz0
    have hA1 := (Below.refl w.heap.size w).alloc (Nat.le_refl _) (.cells #[.int .i8 a0, .int .i8 a1] 44)
    go_enter Try.func4, Try.ntmps4
    go_wp2_with fail
    refine (awake03_any _).mono ?_
    rintro e w1 ⟨rfl, hb1⟩
    go_wp2_with fail
    refine (awake03_any _).mono ?_
    rintro e w2 ⟨rfl, hb2⟩
    go_wp2_with fail
    go_ret
    exact ⟨rfl, ext_trans (ext_trans hA1 hb1) hb2⟩
  · have hd0 : p ≠ 0 ∨ q ≠ 0 := by omega
    clear hz0
    have hd : (-128 ≤ ((p, q) : Pt).1 ∧ ((p, q) : Pt).1 ≤ 128) ∧ -128 ≤ ((p, q) : Pt).2 ∧ ((p, q) : Pt).2 ≤ 128 := ⟨⟨hp.1, by show p ≤ 128; omega⟩, hq.1, by show q ≤ 128; omega⟩
    obtain ⟨n, hn⟩ : ∃ n, n = 1 + (z : Int) % 20 := ⟨_, rfl⟩
    have hn20 : 1 ≤ n ∧ n ≤ 20 := by omega
    have hR : Hid (∀ W, Calls Try.prog 18 #[.int .u8 (s : Int), .int .u8 (z : Int), .agg #[.int .i8 a0, .int .i8 a1]] W (RetPts (roundL s n (a0, a1)) W)) := fun W => by
      rw [hn]; exact round_any s z a0 a1 W hs hz h0 h1
    have hrg := roundL_range s hs n hn20 (a0, a1) h0 h1
    have hok := roundL_ok s hs n hn20 (a0, a1) h0 h1
    have hrd := roundL_round s hs n hn20 (a0, a1)
    have hlen : 3 ≤ (roundL s n (a0, a1)).length ∧ (roundL s n (a0, a1)).length ≤ 8 := by rw [roundL_length]; exact (shape_good s hs).1
    clear hs hz h0 h1 hn hn20
    generalize roundL s n (a0, a1) = l at *
    have htr : ∀ i, i < (l.map (turnI (p, q))).length → (-68608 ≤ (ptAt (l.map (turnI (p, q))) i).1 ∧ (ptAt (l.map (turnI (p, q))) i).1 ≤ 68608) ∧ -68608 ≤ (ptAt (l.map (turnI (p, q))) i).2 ∧ (ptAt (l.map (turnI (p, q))) i).2 ≤ 68608 := fun i hi => by
      rw [List.length_map] at hi
      rw [ptAt_map _ _ _ hi]
      exact turn_range (A := 128) (B := 268) hd (hrg i hi)
    have htk : outErr (l.map (turnI (p, q))) = 0 := outErr_ok _ (by rw [List.length_map]; omega) (ptsOk_of_range (A := 68608) (by unfold far; omega) htr) (turned_round hd0 hrd)
    have Htn : Hid (∀ i, i < l.length → ∀ W, Calls Try.prog 19 #[.agg #[.int .i64 p, .int .i64 q], .agg #[.int .i64 (ptAt l i).1, .int .i64 (ptAt l i).2]] W (RetPt (turnI (p, q) (ptAt l i)) W)) := fun i hi W => by
      have r := hrg i hi
      exact turned_ok (p, q) (ptAt l i) W hd0 (by simp [inB]; omega) (by simp [inB]; omega) (by simp [inB]; omega) (by simp [inB]; omega)
    have HA1 : Hid (∀ W v, PairsOf W v l → Calls Try.prog 24 #[v] W (RetRatE (areaQ l) 0 W)) := fun W v h => layupArea_ok l v W h hok
    have HA2 : Hid (∀ W v, PairsOf W v (l.map (turnI (p, q))) → Calls Try.prog 24 #[v] W (RetRatE (areaQ (l.map (turnI (p, q)))) 0 W)) := fun W v h => layupArea_ok _ v W h htk
    obtain ⟨k, hk⟩ : ∃ k, k = p * p + q * q := ⟨_, rfl⟩
    have mp := mul_absI (a := p) (A := 128) (b := p) (B := 128) (by omega) (by omega)
    have mq := mul_absI (a := q) (A := 128) (b := q) (B := 128) (by omega) (by omega)
    have e1 : IntKind.i64.wrap p = p := IntWalk.i64_in _ (by omega)
    have e2 : IntKind.i64.wrap q = q := IntWalk.i64_in _ (by omega)
    have e3 : IntKind.i64.wrap (p * p) = p * p := IntWalk.i64_in _ (by omega)
    have e4 : IntKind.i64.wrap (q * q) = q * q := IntWalk.i64_in _ (by omega)
    have e5 : IntKind.i64.wrap (p * p + q * q) = k := by rw [hk]; exact IntWalk.i64_in _ (by omega)
    have hkr : -32768 ≤ k ∧ k ≤ 32768 := by omega
    have HKS := Lib.hid (i64_szR k (by omega) (by omega) 68719476736 (by omega))
    have HAQ : Hid (decide (areaQ (l.map (turnI (p, q))) = areaQ l * ((k : Int) : Rat)) = true) := decide_eq_true (by rw [areaQ_turn, hk])
    have HAS := Lib.hid (areaQ_szR hlen.2 hrg)
    have HAP1 : Hid (∀ i, i < l.length → ∀ W, Calls Try.prog 20 #[.agg #[.int .i64 (turnI (p, q) (ptAt l i)).1, .int .i64 (turnI (p, q) (ptAt l i)).2], .agg #[.int .i64 (turnI (p, q) (ptAt l 0)).1, .int .i64 (turnI (p, q) (ptAt l 0)).2]] W (RetRat (((apartI (ptAt l i) (ptAt l 0) : Int) : Rat) * ((k : Int) : Rat)) W)) := fun i hi W => by
      have r1 := turn_range (A := 128) (B := 268) hd (hrg i hi)
      have r2 := turn_range (A := 128) (B := 268) hd (hrg 0 (by omega))
      have := apart_any (turnI (p, q) (ptAt l i)) (turnI (p, q) (ptAt l 0)) W (by unfold ptOk inB far; simp only [Bool.and_eq_true, decide_eq_true_eq]; omega) (by unfold ptOk inB far; simp only [Bool.and_eq_true, decide_eq_true_eq]; omega)
      rw [apartI_turn] at this
      rw [hk]
      exact this
    have HAP2 : Hid (∀ i, i < l.length → ∀ W, Calls Try.prog 20 #[.agg #[.int .i64 (ptAt l i).1, .int .i64 (ptAt l i).2], .agg #[.int .i64 (ptAt l 0).1, .int .i64 (ptAt l 0).2]] W (RetRat ((apartI (ptAt l i) (ptAt l 0) : Int) : Rat) W)) := fun i hi W => by
      have r1 := hrg i hi
      have r2 := hrg 0 (by omega)
      exact apart_any _ _ W (by unfold ptOk inB far; simp only [Bool.and_eq_true, decide_eq_true_eq]; omega) (by unfold ptOk inB far; simp only [Bool.and_eq_true, decide_eq_true_eq]; omega)
    have HAPS : Hid (∀ i, i < l.length → szR ((apartI (ptAt l i) (ptAt l 0) : Int) : Rat) 68719476736) := fun i hi => by
      have := apartI_range (hrg i hi) (hrg 0 (by omega))
      exact i64_szR _ (by omega) (by omega) _ (by omega)
    have HTA : Hid (∀ i, i < l.length → ptAt (l.map (turnI (p, q))) i = turnI (p, q) (ptAt l i)) := fun i hi => ptAt_map _ _ _ hi
    have HMT : Hid (∀ i, i < l.length → (l.map (turnI (p, q))).take (i + 1) = (l.map (turnI (p, q))).take i ++ [turnI (p, q) (ptAt l i)]) := fun i hi => map_take_succ _ l i hi
    have hg1 : Hid (p = 0 → (q == 0) = false) := fun h => by simp; omega
    have Hlm : Hid ((l.map (turnI (p, q))).length = l.length) := List.length_map _
    clear hp hq hd hrg hok hrd htr htk mp mq hk
    generalize l.map (turnI (p, q)) = L at *
    obtain ⟨i0, hi0, hz0, hz1, hz2⟩ := info_parts info_point
    have hzd := zdP
    have hA1 := (Below.refl w.heap.size w).alloc (Nat.le_refl _) (.cells #[.int .i8 a0, .int .i8 a1] 44)
    have hB1 := blk_new w #[.int .i8 a0, .int .i8 a1] 44
    by_cases hp0 : p = 0
    · have t1 : (p == 0) = true := by simpa using hp0
      have t2 := hg1.out hp0
      clear hp0
      go_enter Try.func4, Try.ntmps4
      go_wp2_with fail
      refine (awake03_any _).mono ?_
      rintro e w1 ⟨rfl, hb1⟩
      have b1 := blk_keep hB1 hb1 (blk_lt hB1)
      have hx1 := ext_trans hA1 hb1
      have hD2 := blk_new w1 #[.int .i64 p, .int .i64 q] 46
      have hal2 := (Below.refl w1.heap.size w1).alloc (Nat.le_refl _) (.cells #[.int .i64 p, .int .i64 q] 46)
      have b2 := blk_keep b1 hal2 (blk_lt b1)
      have hx2 := ext_trans hx1 hal2
      clear hB1 hA1 hb1 b1 hx1 hal2
      go_wp2_with fail
      refine (num03_any k _ (by omega) (by omega)).mono ?_
      rintro e w3 ⟨vk, rfl, hvk, hb3⟩
      obtain ⟨k1, m1, k2, m2, rfl, _, _⟩ := hvk.opened
      have hD3 := blk_keep hD2 hb3 (blk_lt hD2)
      have b3 := blk_keep b2 hb3 (blk_lt b2)
      have hx3 := ext_trans hx2 hb3
      have HVK := Lib.hid hvk
      clear hvk hD2 b2 hx2 hb3
      generalize hkq : ((k : Int) : Rat) = kq at *
      clear hkq
      have hK4 := blk_new w3 #[.bool (decide ((kq).num < 0)), .slice k1 (dig b64 (kq).num.natAbs).length m1, .slice k2 (dig b64 (dn (kq).den)).length m2] 50
      have hal4 := (Below.refl w3.heap.size w3).alloc (Nat.le_refl _) (.cells #[.bool (decide ((kq).num < 0)), .slice k1 (dig b64 (kq).num.natAbs).length m1, .slice k2 (dig b64 (dn (kq).den)).length m2] 50)
      have hD4 := blk_keep hD3 hal4 (blk_lt hD3)
      have b4 := blk_keep b3 hal4 (blk_lt b3)
      have hx4 := ext_trans hx3 hal4
      have HVK4 := Lib.hid (HVK.out.below hal4)
      have bc0 := blk_cell b4 0 (.int .i8 a0) rfl
      have bc1 := blk_cell b4 1 (.int .i8 a1) rfl
      clear hD3 b3 b4 hx3 HVK hal4
      go_wp2_with fail
      refine (hR.out _).mono ?_
      rintro e w5 ⟨vl, rfl, hvl, hb5⟩
      have hK5 := blk_keep hK4 hb5 (blk_lt hK4)
      have hD5 := blk_keep hD4 hb5 (blk_lt hD4)
      have hx5 := ext_trans hx4 hb5
      have HVK5 := Lib.hid (HVK4.out.below hb5)
      have HL5 := Lib.hid hvl
      obtain ⟨lo, lcap, rfl, hEl⟩ := hvl
      obtain ⟨lb, loff, rfl, hlb, hLL⟩ := hEl (by omega)
      clear hEl hK4 hD4 hx4 HVK4 bc0 bc1 hb5
      go_wp2_with fail
      go_loopw [14, 59] (fun mv iv wr => ∃ (i : Nat), i ≤ l.length ∧ iv = .int .i64 i ∧ LRow wr w5.heap.size 55 2 mv i (ptsC (L.take i)) ∧ Below w5.heap.size w5 wr)
        (fun _ iv _ => l.length - (intOf iv).toNat)
      case atStart => exact ⟨0, Nat.zero_le _, rfl, LRow.nil _ _ _ _, Below.refl _ _⟩
      case round =>
        obtain ⟨i, hi, rfl, hL, hbel⟩ := hrel
        obtain ⟨mo, mcap, rfl, _⟩ := hL.form
        have hD6 := blk_keep hD5 hbel (blk_lt hD5)
        by_cases hlt : i < l.length
        · obtain ⟨g0, g1⟩ := (hLL i hlt).below hbel hlb
          have hlt' : (i : Int) < l.length := by omega
          have hge' : (0 : Int) ≤ i := by omega
          have Hmt : Hid (L.take (i + 1) = L.take i ++ [turnI (p, q) (ptAt l i)]) := HMT.out i hlt
          have Hti : Hid (∀ W, Calls Try.prog 19 #[.agg #[.int .i64 p, .int .i64 q], .agg #[.int .i64 (ptAt l i).1, .int .i64 (ptAt l i).2]] W (RetPt (turnI (p, q) (ptAt l i)) W)) := Htn.out i hlt
          have e : ptAt l i = l.getD i (0, 0) := rfl
          rw [← e] at g0 g1
          clear hLL e
          generalize turnI (p, q) (ptAt l i) = tp at *
          obtain ⟨tx, ty⟩ := tp
          generalize (ptAt l i).1 = px at *
          generalize (ptAt l i).2 = py at *
          have hx6 := (Below.refl wr.heap.size wr).alloc (Nat.le_refl _) (.cells #[.int .i64 px, .int .i64 py] 55)
          have hD7 := blk_keep hD6 hx6 (blk_lt hD6)
          have d0 := blk_cell hD7 0 (.int .i64 p) rfl
          have d1 := blk_cell hD7 1 (.int .i64 q) rfl
          have HL7 := Lib.hid (hL.below hx6)
          have hx7 : Below w5.heap.size w5 (wr.alloc (.cells #[.int .i64 px, .int .i64 py] 55)) := hbel.alloc hbel.size _
          clear hL hD6 hD7 hx6 hbel
          go_wp2_with fail
          refine (Hti.out _).mono ?_
          rintro e w8 ⟨rfl, hb8⟩
          have hx8 := hx7.trans (hb8.mono hx7.size)
          have HL8 := Lib.hid (HL7.out.below hb8)
          have hx9 := (Below.refl w8.heap.size w8).alloc (Nat.le_refl _) (.cells #[.int .i64 tx, .int .i64 ty] 55)
          have hx10 := hx9.alloc hx9.size (.cells #[.int .i64 tx, .int .i64 ty] 55)
          have hcn := cell_newP (w8.alloc (.cells #[.int .i64 tx, .int .i64 ty] 55)) (.int .i64 tx) (.int .i64 ty) 55
          rw [World.size_alloc] at hcn
          have HCN := Lib.hid hcn
          have HL2 := Lib.hid (HL8.out.below hx10)
          clear hcn HL8 HL7 hx9 hb8 hx7 g0 g1 d0 d1
          go_wp2_with (at_builtin; refine wpList_append_lrow _ rfl (.tmp 71) (.tmp 73) 52 rfl w5.heap.size 55 i0 _ 2 16 Try.underlying52 hi0 hz0 hz1 hz2 rfl (by decide) hzd _ _ _ rfl HL2.out ⟨w8.heap.size + 1, 0, none⟩ 1 1 [.int .i64 tx, .int .i64 ty] rfl rfl HCN.out (oneP _ _) (ndP _ _) (by omega) (by unfold maxLen; omega) (by omega) (by simp; have := hx8.size; omega) ?_)
          intro g cap' w11 hL11 hgr hat
          have hx11 : Below w5.heap.size w5 w11 := (hx8.trans (hx10.mono hx8.size)).grown hgr (by simp; have := hx8.size; omega) (ownBlock_low HL2.out.1)
          go_wp2_with fail
          exact ⟨⟨i + 1, by omega, by go_num, by rw [Hmt.out, ptsC_append]; exact hL11, hx11⟩, by simp [intOf]; omega⟩
        · obtain rfl : i = l.length := by omega
          have eL : L.take l.length = L := by rw [← Hlm.out, List.take_length]
          rw [eL, ← Hlm.out] at hL
          have hPL := PairsOf.ofPts hL
          rw [Hlm.out] at hPL
          have hLT := Lib.hid hPL
          obtain ⟨tt, tcap, htq, hEt⟩ := hPL
          obtain ⟨tb, toff, hto, htb, hTT⟩ := hEt (by rw [Hlm.out]; omega)
          simp only [Value.slice.injEq] at htq
          obtain ⟨rfl, -, rfl⟩ := htq
          subst hto
          have hK6 := blk_keep hK5 hbel (blk_lt hK5)
          have HVK6 := Lib.hid (HVK5.out.below hbel)
          have HL6 := Lib.hid (HL5.out.below hbel)
          have hLL6 : ∀ i, i < l.length → PairAt wr lb (loff + i * 2) (l.getD i (0, 0)) := fun i hi => (hLL i hi).below hbel hlb
          have hlb6 : lb < wr.heap.size := Nat.lt_of_lt_of_le hlb hbel.size
          have hx6 := ext_trans hx5 hbel
          have HLL6 := Lib.hid hLL6
          have HTT := Lib.hid hTT
          clear hL hLL hlb hbel hK5 HVK5 HL5 hx5 hD5 hD6 hEt hLL6 hTT eL
          go_wp2_with fail
          obtain ⟨wo, rfl⟩ : ∃ wo, wo = wr := ⟨_, rfl⟩
          go_loopw [78] (fun iv wr => ∃ (i : Nat), i ≤ l.length ∧ iv = .int .i64 i ∧ Below wo.heap.size wo wr)
            (fun iv _ => l.length - (intOf iv).toNat)
          case atStart => exact ⟨0, Nat.zero_le _, rfl, Below.refl _ _⟩
          case round =>
            obtain ⟨i, hi, rfl, hb2⟩ := hrel
            have hK7 := blk_keep hK6 hb2 (blk_lt hK6)
            by_cases hlt : i < l.length
            · obtain ⟨g0, g1⟩ := (HLL6.out i hlt).below hb2 hlb6
              obtain ⟨g2, g3⟩ := (HLL6.out 0 (by omega)).below hb2 hlb6
              obtain ⟨g4, g5⟩ := (HTT.out i (by rw [Hlm.out]; exact hlt)).below hb2 htb
              obtain ⟨g6, g7⟩ := (HTT.out 0 (by rw [Hlm.out]; omega)).below hb2 htb
              have ea : L.getD i (0, 0) = turnI (p, q) (ptAt l i) := HTA.out i hlt
              have eb : L.getD 0 (0, 0) = turnI (p, q) (ptAt l 0) := HTA.out 0 (by omega)
              rw [ea] at g4 g5
              rw [eb] at g6 g7
              have ec : l.getD i (0, 0) = ptAt l i := rfl
              have ed : l.getD 0 (0, 0) = ptAt l 0 := rfl
              rw [ec] at g0 g1
              rw [ed] at g2 g3
              simp only [Nat.zero_mul, Nat.add_zero] at g2 g3 g6 g7
              have g8 := blk_cell hK7 0 _ rfl
              have g9 := blk_cell hK7 1 _ rfl
              have g10 := blk_cell hK7 2 _ rfl
              have HP1 : Hid (∀ W, Calls Try.prog 20 #[.agg #[.int .i64 (turnI (p, q) (ptAt l i)).1, .int .i64 (turnI (p, q) (ptAt l i)).2], .agg #[.int .i64 (turnI (p, q) (ptAt l 0)).1, .int .i64 (turnI (p, q) (ptAt l 0)).2]] W (RetRat (((apartI (ptAt l i) (ptAt l 0) : Int) : Rat) * kq) W)) := HAP1.out i hlt
              have HP2 : Hid (∀ W, Calls Try.prog 20 #[.agg #[.int .i64 (ptAt l i).1, .int .i64 (ptAt l i).2], .agg #[.int .i64 (ptAt l 0).1, .int .i64 (ptAt l 0).2]] W (RetRat ((apartI (ptAt l i) (ptAt l 0) : Int) : Rat) W)) := HAP2.out i hlt
              have HSZ : Hid (szR ((apartI (ptAt l i) (ptAt l 0) : Int) : Rat) 68719476736) := HAPS.out i hlt
              have hlt' : (i : Int) < l.length := by omega
              have hge' : (0 : Int) ≤ i := by omega
              have hl0' : (0 : Int) < l.length := by omega
              have hl0n : 0 < l.length := by omega
              have hl0d : decide (0 < l.length) = true := decide_eq_true hl0n
              have hlnil : l ≠ [] := by intro e; rw [e] at hlt; simp at hlt
              have hlnil' : (l = []) = False := by simp [hlnil]
              have HK9 := Lib.hid (HVK6.out.below hb2)
              clear ea eb ec ed hK7
              generalize ((apartI (ptAt l i) (ptAt l 0) : Int) : Rat) = qd at *
              generalize (turnI (p, q) (ptAt l i)).1 = ax at *
              generalize (turnI (p, q) (ptAt l i)).2 = ay at *
              generalize (turnI (p, q) (ptAt l 0)).1 = bx at *
              generalize (turnI (p, q) (ptAt l 0)).2 = by' at *
              generalize (ptAt l i).1 = px at *
              generalize (ptAt l i).2 = py at *
              generalize (ptAt l 0).1 = qx at *
              generalize (ptAt l 0).2 = qy at *
              have hb2d : Below wr.heap.size wr wr.drew := (Below.refl _ _).drew
              go_wp2_with fail
              go_region_held3 (fun w' => Below wr.heap.size wr w' ∧ w'.cell? ⟨lb, loff + i * 2, none⟩ = some (.int .i64 px) ∧ w'.cell? ⟨lb, loff + i * 2 + 1, none⟩ = some (.int .i64 py) ∧ w'.cell? ⟨lb, loff, none⟩ = some (.int .i64 qx) ∧ w'.cell? ⟨lb, loff + 1, none⟩ = some (.int .i64 qy) ∧ w'.cell? ⟨tb, toff + i * 2, none⟩ = some (.int .i64 ax) ∧ w'.cell? ⟨tb, toff + i * 2 + 1, none⟩ = some (.int .i64 ay) ∧ w'.cell? ⟨tb, toff, none⟩ = some (.int .i64 bx) ∧ w'.cell? ⟨tb, toff + 1, none⟩ = some (.int .i64 by') ∧ w'.cell? ⟨w3.heap.size, 0, none⟩ = some (.bool (decide (kq.num < 0))) ∧ w'.cell? ⟨w3.heap.size, 1, none⟩ = some (.slice k1 (dig b64 kq.num.natAbs).length m1) ∧ w'.cell? ⟨w3.heap.size, 2, none⟩ = some (.slice k2 (dig b64 (dn kq.den)).length m2))
                (first | exact ⟨hb2d, g0, g1, g2, g3, g4, g5, g6, g7, g8, g9, g10⟩ | (refine keepC11c (Nat.le_refl _) hbD ?_; assumption) | (refine keepC11c (Nat.le_refl _) hbC ?_; assumption) | (refine keepC11c (Nat.le_refl _) hbB ?_; assumption) | (refine keepC11c (Nat.le_refl _) hbA ?_; assumption))
                (first
                  | (go_at_call_of 20 (Value.agg #[Value.int .i64 ax, Value.int .i64 ay]); refine (HP1.out _).mono ?_; rintro e wA ⟨vA, rfl, hvA, hbA⟩)
                  | (go_at_call_of 20 (Value.agg #[Value.int .i64 px, Value.int .i64 py]); refine (HP2.out _).mono ?_; rintro e wB ⟨vB, rfl, hvB, hbB⟩)
                  | (go_at_call 21; refine (mulRat_any _ _ _ _ _ hvB (HK9.out.below (And.left (by assumption))) HSZ.out HKS.out).mono ?_; rintro e wC ⟨vC, rfl, hvC, hbC⟩)
                  | (go_at_call 23; refine (same_any _ _ _ _ _ ((hvA.below hbB).below hbC) hvC).mono ?_; rw [show decide (qd * kq = qd * kq) = true from decide_eq_true rfl]; rintro e wD ⟨rfl, hbD⟩))
              rename_i hS
              have hb3 := hS.1
              clear hS
              go_wp2_with fail
              exact ⟨⟨i + 1, by omega, by go_num, hb2.trans (hb3.mono hb2.size)⟩, meas_up hlt⟩
            · obtain rfl : i = l.length := by omega
              have HL9 := Lib.hid (HL6.out.below hb2)
              have HT9 := Lib.hid (hLT.out.below hb2)
              have HK9 := Lib.hid (HVK6.out.below hb2)
              have hx9 := ext_trans hx6 hb2
              clear HL6 hLT HVK6 hx6 hb2 hK6 HLL6 HTT
              go_wp2_with fail
              refine (HA1.out _ _ HL9.out).mono ?_
              rintro e w10 ⟨va, rfl, hva, hb10⟩
              obtain ⟨a1, c1, a2, c2, rfl, _, _⟩ := hva.opened
              have hK10 := blk_keep hK7 hb10 (blk_lt hK7)
              have HT10 := Lib.hid (HT9.out.below hb10)
              have HK10 := Lib.hid (HK9.out.below hb10)
              have hx10 := ext_trans hx9 hb10
              have HVA := Lib.hid hva
              clear HL9 HT9 HK9 hx9 hva hK7 hb10
              generalize areaQ l = qa at *
              have hA11 := blk_new w10 #[.bool (decide (qa.num < 0)), .slice a1 (dig b64 qa.num.natAbs).length c1, .slice a2 (dig b64 (dn qa.den)).length c2] 50
              have hal := (Below.refl w10.heap.size w10).alloc (Nat.le_refl _) (.cells #[.bool (decide (qa.num < 0)), .slice a1 (dig b64 qa.num.natAbs).length c1, .slice a2 (dig b64 (dn qa.den)).length c2] 50)
              have hK11 := blk_keep hK10 hal (blk_lt hK10)
              have HT11 := Lib.hid (HT10.out.below hal)
              have HK11 := Lib.hid (HK10.out.below hal)
              have HVA11 := Lib.hid (HVA.out.below hal)
              have hx11 := ext_trans hx10 hal
              clear hK10 HT10 HK10 HVA hx10 hal
              go_wp2_with fail
              refine (HA2.out _ _ HT11.out).mono ?_
              rintro e w12 ⟨vb, rfl, hvb, hb12⟩
              obtain ⟨b1, d1, b2, d2, rfl, _, _⟩ := hvb.opened
              have hA12 := blk_keep hA11 hb12 (blk_lt hA11)
              have hK12 := blk_keep hK11 hb12 (blk_lt hK11)
              have HK12 := Lib.hid (HK11.out.below hb12)
              have HVA12 := Lib.hid (HVA11.out.below hb12)
              have hx12 := ext_trans hx11 hb12
              have HVB := Lib.hid hvb
              clear hA11 hK11 HT11 HK11 HVA11 hx11 hvb hb12
              generalize areaQ L = qb at *
              have hB13 := blk_new w12 #[.bool (decide (qb.num < 0)), .slice b1 (dig b64 qb.num.natAbs).length d1, .slice b2 (dig b64 (dn qb.den)).length d2] 50
              have hal := (Below.refl w12.heap.size w12).alloc (Nat.le_refl _) (.cells #[.bool (decide (qb.num < 0)), .slice b1 (dig b64 qb.num.natAbs).length d1, .slice b2 (dig b64 (dn qb.den)).length d2] 50)
              have hA13 := blk_keep hA12 hal (blk_lt hA12)
              have hK13 := blk_keep hK12 hal (blk_lt hK12)
              have HK13 := Lib.hid (HK12.out.below hal)
              have HVA13 := Lib.hid (HVA12.out.below hal)
              have HVB13 := Lib.hid (HVB.out.below hal)
              have hx13 := ext_trans hx12 hal
              have g0 := blk_cell hA13 0 _ rfl
              have g1 := blk_cell hA13 1 _ rfl
              have g2 := blk_cell hA13 2 _ rfl
              have g3 := blk_cell hB13 0 _ rfl
              have g4 := blk_cell hB13 1 _ rfl
              have g5 := blk_cell hB13 2 _ rfl
              have g6 := blk_cell hK13 0 _ rfl
              have g7 := blk_cell hK13 1 _ rfl
              have g8 := blk_cell hK13 2 _ rfl
              have hbd : Below (w12.alloc (.cells #[.bool (decide (qb.num < 0)), .slice b1 (dig b64 qb.num.natAbs).length d1, .slice b2 (dig b64 (dn qb.den)).length d2] 50)).heap.size (w12.alloc (.cells #[.bool (decide (qb.num < 0)), .slice b1 (dig b64 qb.num.natAbs).length d1, .slice b2 (dig b64 (dn qb.den)).length d2] 50)) (w12.alloc (.cells #[.bool (decide (qb.num < 0)), .slice b1 (dig b64 qb.num.natAbs).length d1, .slice b2 (dig b64 (dn qb.den)).length d2] 50)).drew := (Below.refl _ _).drew
              clear hA12 hK12 HK12 HVA12 HVB hx12 hA13 hB13 hK13 hal
              go_wp2_with fail
              go_region_held3 (fun w' => Below (w12.alloc (.cells #[.bool (decide (qb.num < 0)), .slice b1 (dig b64 qb.num.natAbs).length d1, .slice b2 (dig b64 (dn qb.den)).length d2] 50)).heap.size (w12.alloc (.cells #[.bool (decide (qb.num < 0)), .slice b1 (dig b64 qb.num.natAbs).length d1, .slice b2 (dig b64 (dn qb.den)).length d2] 50)) w' ∧ w'.cell? ⟨w10.heap.size, 0, none⟩ = some (.bool (decide (qa.num < 0))) ∧ w'.cell? ⟨w10.heap.size, 1, none⟩ = some (.slice a1 (dig b64 qa.num.natAbs).length c1) ∧ w'.cell? ⟨w10.heap.size, 2, none⟩ = some (.slice a2 (dig b64 (dn qa.den)).length c2) ∧ w'.cell? ⟨w12.heap.size, 0, none⟩ = some (.bool (decide (qb.num < 0))) ∧ w'.cell? ⟨w12.heap.size, 1, none⟩ = some (.slice b1 (dig b64 qb.num.natAbs).length d1) ∧ w'.cell? ⟨w12.heap.size, 2, none⟩ = some (.slice b2 (dig b64 (dn qb.den)).length d2) ∧ w'.cell? ⟨w3.heap.size, 0, none⟩ = some (.bool (decide (kq.num < 0))) ∧ w'.cell? ⟨w3.heap.size, 1, none⟩ = some (.slice k1 (dig b64 kq.num.natAbs).length m1) ∧ w'.cell? ⟨w3.heap.size, 2, none⟩ = some (.slice k2 (dig b64 (dn kq.den)).length m2))
                (first | exact ⟨hbd, g0, g1, g2, g3, g4, g5, g6, g7, g8⟩ | (refine keepC9c (Nat.le_refl _) hbB ?_; assumption) | (refine keepC9c (Nat.le_refl _) hbA ?_; assumption))
                (first
                  | (go_at_call 21; refine (mulRat_any _ _ _ _ _ (HVA13.out.below (And.left (by assumption))) (HK13.out.below (And.left (by assumption))) HAS.out HKS.out).mono ?_; rintro e wA ⟨vA, rfl, hvA, hbA⟩)
                  | (go_at_call 23; refine (same_any _ _ _ _ _ (HVB13.out.below (And.left (by assumption))) hvA).mono ?_; rw [HAQ.out]; rintro e wB ⟨rfl, hbB⟩))
              rename_i hS
              have hb14 := hS.1
              clear hS
              go_wp2_with fail
              go_ret
              exact ⟨rfl, hx13.trans (hb14.mono hx13.size)⟩
    · have t1 : (p == 0) = false := by simpa using hp0
      clear hp0
      go_enter Try.func4, Try.ntmps4
      go_wp2_with fail
      refine (awake03_any _).mono ?_
      rintro e w1 ⟨rfl, hb1⟩
      have b1 := blk_keep hB1 hb1 (blk_lt hB1)
      have hx1 := ext_trans hA1 hb1
      have hD2 := blk_new w1 #[.int .i64 p, .int .i64 q] 46
      have hal2 := (Below.refl w1.heap.size w1).alloc (Nat.le_refl _) (.cells #[.int .i64 p, .int .i64 q] 46)
      have b2 := blk_keep b1 hal2 (blk_lt b1)
      have hx2 := ext_trans hx1 hal2
      clear hB1 hA1 hb1 b1 hx1 hal2
      go_wp2_with fail
      refine (num03_any k _ (by omega) (by omega)).mono ?_
      rintro e w3 ⟨vk, rfl, hvk, hb3⟩
      obtain ⟨k1, m1, k2, m2, rfl, _, _⟩ := hvk.opened
      have hD3 := blk_keep hD2 hb3 (blk_lt hD2)
      have b3 := blk_keep b2 hb3 (blk_lt b2)
      have hx3 := ext_trans hx2 hb3
      have HVK := Lib.hid hvk
      clear hvk hD2 b2 hx2 hb3
      generalize hkq : ((k : Int) : Rat) = kq at *
      clear hkq
      have hK4 := blk_new w3 #[.bool (decide ((kq).num < 0)), .slice k1 (dig b64 (kq).num.natAbs).length m1, .slice k2 (dig b64 (dn (kq).den)).length m2] 50
      have hal4 := (Below.refl w3.heap.size w3).alloc (Nat.le_refl _) (.cells #[.bool (decide ((kq).num < 0)), .slice k1 (dig b64 (kq).num.natAbs).length m1, .slice k2 (dig b64 (dn (kq).den)).length m2] 50)
      have hD4 := blk_keep hD3 hal4 (blk_lt hD3)
      have b4 := blk_keep b3 hal4 (blk_lt b3)
      have hx4 := ext_trans hx3 hal4
      have HVK4 := Lib.hid (HVK.out.below hal4)
      have bc0 := blk_cell b4 0 (.int .i8 a0) rfl
      have bc1 := blk_cell b4 1 (.int .i8 a1) rfl
      clear hD3 b3 b4 hx3 HVK hal4
      go_wp2_with fail
      refine (hR.out _).mono ?_
      rintro e w5 ⟨vl, rfl, hvl, hb5⟩
      have hK5 := blk_keep hK4 hb5 (blk_lt hK4)
      have hD5 := blk_keep hD4 hb5 (blk_lt hD4)
      have hx5 := ext_trans hx4 hb5
      have HVK5 := Lib.hid (HVK4.out.below hb5)
      have HL5 := Lib.hid hvl
      obtain ⟨lo, lcap, rfl, hEl⟩ := hvl
      obtain ⟨lb, loff, rfl, hlb, hLL⟩ := hEl (by omega)
      clear hEl hK4 hD4 hx4 HVK4 bc0 bc1 hb5
      go_wp2_with fail
      go_loopw [14, 59] (fun mv iv wr => ∃ (i : Nat), i ≤ l.length ∧ iv = .int .i64 i ∧ LRow wr w5.heap.size 55 2 mv i (ptsC (L.take i)) ∧ Below w5.heap.size w5 wr)
        (fun _ iv _ => l.length - (intOf iv).toNat)
      case atStart => exact ⟨0, Nat.zero_le _, rfl, LRow.nil _ _ _ _, Below.refl _ _⟩
      case round =>
        obtain ⟨i, hi, rfl, hL, hbel⟩ := hrel
        obtain ⟨mo, mcap, rfl, _⟩ := hL.form
        have hD6 := blk_keep hD5 hbel (blk_lt hD5)
        by_cases hlt : i < l.length
        · obtain ⟨g0, g1⟩ := (hLL i hlt).below hbel hlb
          have hlt' : (i : Int) < l.length := by omega
          have hge' : (0 : Int) ≤ i := by omega
          have Hmt : Hid (L.take (i + 1) = L.take i ++ [turnI (p, q) (ptAt l i)]) := HMT.out i hlt
          have Hti : Hid (∀ W, Calls Try.prog 19 #[.agg #[.int .i64 p, .int .i64 q], .agg #[.int .i64 (ptAt l i).1, .int .i64 (ptAt l i).2]] W (RetPt (turnI (p, q) (ptAt l i)) W)) := Htn.out i hlt
          have e : ptAt l i = l.getD i (0, 0) := rfl
          rw [← e] at g0 g1
          clear hLL e
          generalize turnI (p, q) (ptAt l i) = tp at *
          obtain ⟨tx, ty⟩ := tp
          generalize (ptAt l i).1 = px at *
          generalize (ptAt l i).2 = py at *
          have hx6 := (Below.refl wr.heap.size wr).alloc (Nat.le_refl _) (.cells #[.int .i64 px, .int .i64 py] 55)
          have hD7 := blk_keep hD6 hx6 (blk_lt hD6)
          have d0 := blk_cell hD7 0 (.int .i64 p) rfl
          have d1 := blk_cell hD7 1 (.int .i64 q) rfl
          have HL7 := Lib.hid (hL.below hx6)
          have hx7 : Below w5.heap.size w5 (wr.alloc (.cells #[.int .i64 px, .int .i64 py] 55)) := hbel.alloc hbel.size _
          clear hL hD6 hD7 hx6 hbel
          go_wp2_with fail
          refine (Hti.out _).mono ?_
          rintro e w8 ⟨rfl, hb8⟩
          have hx8 := hx7.trans (hb8.mono hx7.size)
          have HL8 := Lib.hid (HL7.out.below hb8)
          have hx9 := (Below.refl w8.heap.size w8).alloc (Nat.le_refl _) (.cells #[.int .i64 tx, .int .i64 ty] 55)
          have hx10 := hx9.alloc hx9.size (.cells #[.int .i64 tx, .int .i64 ty] 55)
          have hcn := cell_newP (w8.alloc (.cells #[.int .i64 tx, .int .i64 ty] 55)) (.int .i64 tx) (.int .i64 ty) 55
          rw [World.size_alloc] at hcn
          have HCN := Lib.hid hcn
          have HL2 := Lib.hid (HL8.out.below hx10)
          clear hcn HL8 HL7 hx9 hb8 hx7 g0 g1 d0 d1
          go_wp2_with (at_builtin; refine wpList_append_lrow _ rfl (.tmp 71) (.tmp 73) 52 rfl w5.heap.size 55 i0 _ 2 16 Try.underlying52 hi0 hz0 hz1 hz2 rfl (by decide) hzd _ _ _ rfl HL2.out ⟨w8.heap.size + 1, 0, none⟩ 1 1 [.int .i64 tx, .int .i64 ty] rfl rfl HCN.out (oneP _ _) (ndP _ _) (by omega) (by unfold maxLen; omega) (by omega) (by simp; have := hx8.size; omega) ?_)
          intro g cap' w11 hL11 hgr hat
          have hx11 : Below w5.heap.size w5 w11 := (hx8.trans (hx10.mono hx8.size)).grown hgr (by simp; have := hx8.size; omega) (ownBlock_low HL2.out.1)
          go_wp2_with fail
          exact ⟨⟨i + 1, by omega, by go_num, by rw [Hmt.out, ptsC_append]; exact hL11, hx11⟩, by simp [intOf]; omega⟩
        · obtain rfl : i = l.length := by omega
          have eL : L.take l.length = L := by rw [← Hlm.out, List.take_length]
          rw [eL, ← Hlm.out] at hL
          have hPL := PairsOf.ofPts hL
          rw [Hlm.out] at hPL
          have hLT := Lib.hid hPL
          obtain ⟨tt, tcap, htq, hEt⟩ := hPL
          obtain ⟨tb, toff, hto, htb, hTT⟩ := hEt (by rw [Hlm.out]; omega)
          simp only [Value.slice.injEq] at htq
          obtain ⟨rfl, -, rfl⟩ := htq
          subst hto
          have hK6 := blk_keep hK5 hbel (blk_lt hK5)
          have HVK6 := Lib.hid (HVK5.out.below hbel)
          have HL6 := Lib.hid (HL5.out.below hbel)
          have hLL6 : ∀ i, i < l.length → PairAt wr lb (loff + i * 2) (l.getD i (0, 0)) := fun i hi => (hLL i hi).below hbel hlb
          have hlb6 : lb < wr.heap.size := Nat.lt_of_lt_of_le hlb hbel.size
          have hx6 := ext_trans hx5 hbel
          have HLL6 := Lib.hid hLL6
          have HTT := Lib.hid hTT
          clear hL hLL hlb hbel hK5 HVK5 HL5 hx5 hD5 hD6 hEt hLL6 hTT eL
          go_wp2_with fail
          obtain ⟨wo, rfl⟩ : ∃ wo, wo = wr := ⟨_, rfl⟩
          go_loopw [78] (fun iv wr => ∃ (i : Nat), i ≤ l.length ∧ iv = .int .i64 i ∧ Below wo.heap.size wo wr)
            (fun iv _ => l.length - (intOf iv).toNat)
          case atStart => exact ⟨0, Nat.zero_le _, rfl, Below.refl _ _⟩
          case round =>
            obtain ⟨i, hi, rfl, hb2⟩ := hrel
            have hK7 := blk_keep hK6 hb2 (blk_lt hK6)
            by_cases hlt : i < l.length
            · obtain ⟨g0, g1⟩ := (HLL6.out i hlt).below hb2 hlb6
              obtain ⟨g2, g3⟩ := (HLL6.out 0 (by omega)).below hb2 hlb6
              obtain ⟨g4, g5⟩ := (HTT.out i (by rw [Hlm.out]; exact hlt)).below hb2 htb
              obtain ⟨g6, g7⟩ := (HTT.out 0 (by rw [Hlm.out]; omega)).below hb2 htb
              have ea : L.getD i (0, 0) = turnI (p, q) (ptAt l i) := HTA.out i hlt
              have eb : L.getD 0 (0, 0) = turnI (p, q) (ptAt l 0) := HTA.out 0 (by omega)
              rw [ea] at g4 g5
              rw [eb] at g6 g7
              have ec : l.getD i (0, 0) = ptAt l i := rfl
              have ed : l.getD 0 (0, 0) = ptAt l 0 := rfl
              rw [ec] at g0 g1
              rw [ed] at g2 g3
              simp only [Nat.zero_mul, Nat.add_zero] at g2 g3 g6 g7
              have g8 := blk_cell hK7 0 _ rfl
              have g9 := blk_cell hK7 1 _ rfl
              have g10 := blk_cell hK7 2 _ rfl
              have HP1 : Hid (∀ W, Calls Try.prog 20 #[.agg #[.int .i64 (turnI (p, q) (ptAt l i)).1, .int .i64 (turnI (p, q) (ptAt l i)).2], .agg #[.int .i64 (turnI (p, q) (ptAt l 0)).1, .int .i64 (turnI (p, q) (ptAt l 0)).2]] W (RetRat (((apartI (ptAt l i) (ptAt l 0) : Int) : Rat) * kq) W)) := HAP1.out i hlt
              have HP2 : Hid (∀ W, Calls Try.prog 20 #[.agg #[.int .i64 (ptAt l i).1, .int .i64 (ptAt l i).2], .agg #[.int .i64 (ptAt l 0).1, .int .i64 (ptAt l 0).2]] W (RetRat ((apartI (ptAt l i) (ptAt l 0) : Int) : Rat) W)) := HAP2.out i hlt
              have HSZ : Hid (szR ((apartI (ptAt l i) (ptAt l 0) : Int) : Rat) 68719476736) := HAPS.out i hlt
              have hlt' : (i : Int) < l.length := by omega
              have hge' : (0 : Int) ≤ i := by omega
              have hl0' : (0 : Int) < l.length := by omega
              have hl0n : 0 < l.length := by omega
              have hl0d : decide (0 < l.length) = true := decide_eq_true hl0n
              have hlnil : l ≠ [] := by intro e; rw [e] at hlt; simp at hlt
              have hlnil' : (l = []) = False := by simp [hlnil]
              have HK9 := Lib.hid (HVK6.out.below hb2)
              clear ea eb ec ed hK7
              generalize ((apartI (ptAt l i) (ptAt l 0) : Int) : Rat) = qd at *
              generalize (turnI (p, q) (ptAt l i)).1 = ax at *
              generalize (turnI (p, q) (ptAt l i)).2 = ay at *
              generalize (turnI (p, q) (ptAt l 0)).1 = bx at *
              generalize (turnI (p, q) (ptAt l 0)).2 = by' at *
              generalize (ptAt l i).1 = px at *
              generalize (ptAt l i).2 = py at *
              generalize (ptAt l 0).1 = qx at *
              generalize (ptAt l 0).2 = qy at *
              have hb2d : Below wr.heap.size wr wr.drew := (Below.refl _ _).drew
              go_wp2_with fail
              go_region_held3 (fun w' => Below wr.heap.size wr w' ∧ w'.cell? ⟨lb, loff + i * 2, none⟩ = some (.int .i64 px) ∧ w'.cell? ⟨lb, loff + i * 2 + 1, none⟩ = some (.int .i64 py) ∧ w'.cell? ⟨lb, loff, none⟩ = some (.int .i64 qx) ∧ w'.cell? ⟨lb, loff + 1, none⟩ = some (.int .i64 qy) ∧ w'.cell? ⟨tb, toff + i * 2, none⟩ = some (.int .i64 ax) ∧ w'.cell? ⟨tb, toff + i * 2 + 1, none⟩ = some (.int .i64 ay) ∧ w'.cell? ⟨tb, toff, none⟩ = some (.int .i64 bx) ∧ w'.cell? ⟨tb, toff + 1, none⟩ = some (.int .i64 by') ∧ w'.cell? ⟨w3.heap.size, 0, none⟩ = some (.bool (decide (kq.num < 0))) ∧ w'.cell? ⟨w3.heap.size, 1, none⟩ = some (.slice k1 (dig b64 kq.num.natAbs).length m1) ∧ w'.cell? ⟨w3.heap.size, 2, none⟩ = some (.slice k2 (dig b64 (dn kq.den)).length m2))
                (first | exact ⟨hb2d, g0, g1, g2, g3, g4, g5, g6, g7, g8, g9, g10⟩ | (refine keepC11c (Nat.le_refl _) hbD ?_; assumption) | (refine keepC11c (Nat.le_refl _) hbC ?_; assumption) | (refine keepC11c (Nat.le_refl _) hbB ?_; assumption) | (refine keepC11c (Nat.le_refl _) hbA ?_; assumption))
                (first
                  | (go_at_call_of 20 (Value.agg #[Value.int .i64 ax, Value.int .i64 ay]); refine (HP1.out _).mono ?_; rintro e wA ⟨vA, rfl, hvA, hbA⟩)
                  | (go_at_call_of 20 (Value.agg #[Value.int .i64 px, Value.int .i64 py]); refine (HP2.out _).mono ?_; rintro e wB ⟨vB, rfl, hvB, hbB⟩)
                  | (go_at_call 21; refine (mulRat_any _ _ _ _ _ hvB (HK9.out.below (And.left (by assumption))) HSZ.out HKS.out).mono ?_; rintro e wC ⟨vC, rfl, hvC, hbC⟩)
                  | (go_at_call 23; refine (same_any _ _ _ _ _ ((hvA.below hbB).below hbC) hvC).mono ?_; rw [show decide (qd * kq = qd * kq) = true from decide_eq_true rfl]; rintro e wD ⟨rfl, hbD⟩))
              rename_i hS
              have hb3 := hS.1
              clear hS
              go_wp2_with fail
              exact ⟨⟨i + 1, by omega, by go_num, hb2.trans (hb3.mono hb2.size)⟩, meas_up hlt⟩
            · obtain rfl : i = l.length := by omega
              have HL9 := Lib.hid (HL6.out.below hb2)
              have HT9 := Lib.hid (hLT.out.below hb2)
              have HK9 := Lib.hid (HVK6.out.below hb2)
              have hx9 := ext_trans hx6 hb2
              clear HL6 hLT HVK6 hx6 hb2 hK6 HLL6 HTT
              go_wp2_with fail
              refine (HA1.out _ _ HL9.out).mono ?_
              rintro e w10 ⟨va, rfl, hva, hb10⟩
              obtain ⟨a1, c1, a2, c2, rfl, _, _⟩ := hva.opened
              have hK10 := blk_keep hK7 hb10 (blk_lt hK7)
              have HT10 := Lib.hid (HT9.out.below hb10)
              have HK10 := Lib.hid (HK9.out.below hb10)
              have hx10 := ext_trans hx9 hb10
              have HVA := Lib.hid hva
              clear HL9 HT9 HK9 hx9 hva hK7 hb10
              generalize areaQ l = qa at *
              have hA11 := blk_new w10 #[.bool (decide (qa.num < 0)), .slice a1 (dig b64 qa.num.natAbs).length c1, .slice a2 (dig b64 (dn qa.den)).length c2] 50
              have hal := (Below.refl w10.heap.size w10).alloc (Nat.le_refl _) (.cells #[.bool (decide (qa.num < 0)), .slice a1 (dig b64 qa.num.natAbs).length c1, .slice a2 (dig b64 (dn qa.den)).length c2] 50)
              have hK11 := blk_keep hK10 hal (blk_lt hK10)
              have HT11 := Lib.hid (HT10.out.below hal)
              have HK11 := Lib.hid (HK10.out.below hal)
              have HVA11 := Lib.hid (HVA.out.below hal)
              have hx11 := ext_trans hx10 hal
              clear hK10 HT10 HK10 HVA hx10 hal
              go_wp2_with fail
              refine (HA2.out _ _ HT11.out).mono ?_
              rintro e w12 ⟨vb, rfl, hvb, hb12⟩
              obtain ⟨b1, d1, b2, d2, rfl, _, _⟩ := hvb.opened
              have hA12 := blk_keep hA11 hb12 (blk_lt hA11)
              have hK12 := blk_keep hK11 hb12 (blk_lt hK11)
              have HK12 := Lib.hid (HK11.out.below hb12)
              have HVA12 := Lib.hid (HVA11.out.below hb12)
              have hx12 := ext_trans hx11 hb12
              have HVB := Lib.hid hvb
              clear hA11 hK11 HT11 HK11 HVA11 hx11 hvb hb12
              generalize areaQ L = qb at *
              have hB13 := blk_new w12 #[.bool (decide (qb.num < 0)), .slice b1 (dig b64 qb.num.natAbs).length d1, .slice b2 (dig b64 (dn qb.den)).length d2] 50
              have hal := (Below.refl w12.heap.size w12).alloc (Nat.le_refl _) (.cells #[.bool (decide (qb.num < 0)), .slice b1 (dig b64 qb.num.natAbs).length d1, .slice b2 (dig b64 (dn qb.den)).length d2] 50)
              have hA13 := blk_keep hA12 hal (blk_lt hA12)
              have hK13 := blk_keep hK12 hal (blk_lt hK12)
              have HK13 := Lib.hid (HK12.out.below hal)
              have HVA13 := Lib.hid (HVA12.out.below hal)
              have HVB13 := Lib.hid (HVB.out.below hal)
              have hx13 := ext_trans hx12 hal
              have g0 := blk_cell hA13 0 _ rfl
              have g1 := blk_cell hA13 1 _ rfl
              have g2 := blk_cell hA13 2 _ rfl
              have g3 := blk_cell hB13 0 _ rfl
              have g4 := blk_cell hB13 1 _ rfl
              have g5 := blk_cell hB13 2 _ rfl
              have g6 := blk_cell hK13 0 _ rfl
              have g7 := blk_cell hK13 1 _ rfl
              have g8 := blk_cell hK13 2 _ rfl
              have hbd : Below (w12.alloc (.cells #[.bool (decide (qb.num < 0)), .slice b1 (dig b64 qb.num.natAbs).length d1, .slice b2 (dig b64 (dn qb.den)).length d2] 50)).heap.size (w12.alloc (.cells #[.bool (decide (qb.num < 0)), .slice b1 (dig b64 qb.num.natAbs).length d1, .slice b2 (dig b64 (dn qb.den)).length d2] 50)) (w12.alloc (.cells #[.bool (decide (qb.num < 0)), .slice b1 (dig b64 qb.num.natAbs).length d1, .slice b2 (dig b64 (dn qb.den)).length d2] 50)).drew := (Below.refl _ _).drew
              clear hA12 hK12 HK12 HVA12 HVB hx12 hA13 hB13 hK13 hal
              go_wp2_with fail
              go_region_held3 (fun w' => Below (w12.alloc (.cells #[.bool (decide (qb.num < 0)), .slice b1 (dig b64 qb.num.natAbs).length d1, .slice b2 (dig b64 (dn qb.den)).length d2] 50)).heap.size (w12.alloc (.cells #[.bool (decide (qb.num < 0)), .slice b1 (dig b64 qb.num.natAbs).length d1, .slice b2 (dig b64 (dn qb.den)).length d2] 50)) w' ∧ w'.cell? ⟨w10.heap.size, 0, none⟩ = some (.bool (decide (qa.num < 0))) ∧ w'.cell? ⟨w10.heap.size, 1, none⟩ = some (.slice a1 (dig b64 qa.num.natAbs).length c1) ∧ w'.cell? ⟨w10.heap.size, 2, none⟩ = some (.slice a2 (dig b64 (dn qa.den)).length c2) ∧ w'.cell? ⟨w12.heap.size, 0, none⟩ = some (.bool (decide (qb.num < 0))) ∧ w'.cell? ⟨w12.heap.size, 1, none⟩ = some (.slice b1 (dig b64 qb.num.natAbs).length d1) ∧ w'.cell? ⟨w12.heap.size, 2, none⟩ = some (.slice b2 (dig b64 (dn qb.den)).length d2) ∧ w'.cell? ⟨w3.heap.size, 0, none⟩ = some (.bool (decide (kq.num < 0))) ∧ w'.cell? ⟨w3.heap.size, 1, none⟩ = some (.slice k1 (dig b64 kq.num.natAbs).length m1) ∧ w'.cell? ⟨w3.heap.size, 2, none⟩ = some (.slice k2 (dig b64 (dn kq.den)).length m2))
                (first | exact ⟨hbd, g0, g1, g2, g3, g4, g5, g6, g7, g8⟩ | (refine keepC9c (Nat.le_refl _) hbB ?_; assumption) | (refine keepC9c (Nat.le_refl _) hbA ?_; assumption))
                (first
                  | (go_at_call 21; refine (mulRat_any _ _ _ _ _ (HVA13.out.below (And.left (by assumption))) (HK13.out.below (And.left (by assumption))) HAS.out HKS.out).mono ?_; rintro e wA ⟨vA, rfl, hvA, hbA⟩)
                  | (go_at_call 23; refine (same_any _ _ _ _ _ (HVB13.out.below (And.left (by assumption))) hvA).mono ?_; rw [HAQ.out]; rintro e wB ⟨rfl, hbB⟩))
              rename_i hS
              have hb14 := hS.1
              clear hS
              go_wp2_with fail
              go_ret
              exact ⟨rfl, hx13.trans (hb14.mono hx13.size)⟩

end Go.Proofs.Ytkdcgkafjkklcaa
