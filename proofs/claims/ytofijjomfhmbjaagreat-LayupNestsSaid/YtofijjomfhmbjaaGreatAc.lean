/- Part c of the lemmas and walks. -/
import Derived.Test.YtofijjomfhmbjaaGreatAb

namespace Go.Proofs.YtofijjomfhmbjaaGreat
open Go.RowKit

theorem neg_lt_num (q : Rat) : decide ((-q).num < 0) = (!decide (q.num < 0) && !decide (q.num.natAbs = 0)) := by
 have e : (-q).num = -q.num := rfl
 rw [e]
 by_cases h : q.num < 0
 ·
  have : ¬ 0 < q.num := by omega
  simp [h, this]
 ·
  by_cases h0 : q.num = 0
  ·
   simp [h0]
  ·
   have : 0 < q.num := by omega
   simp [h, h0, this]

def cellOf (w : World) (a : Addr) : Value := (w.cell? a).getD undef
def RB (w : World) (B : Nat) : Prop := ∃ b x i j y k l T, w.heap[B]? = some (.cells #[.bool b, .slice x i j, .slice y k l] T (0, 0))
theorem RB.lt {w : World} {B : Nat} (h : RB w B) : B < w.heap.size := by
 obtain ⟨b, x, i, j, y, k, l, T, h⟩ := h; exact blk_lt h
theorem RB.keep {a b : World} {B n : Nat} (h : RB a B) (hb : Below n a b) (hB : B < n) : RB b B := by
 obtain ⟨b, x, i, j, y, k, l, T, h⟩ := h
 exact ⟨b, x, i, j, y, k, l, T, blk_keep h hb hB⟩
theorem RB.store {w : World} {B : Nat} (h : RB w B) (neg : Bool) (x1 y1 : Option Addr) (i1 j1 k1 l1 : Nat) :
  RB (((w.setCell ⟨B, 0, none⟩ (.bool neg)).setCell ⟨B, 1, none⟩ (.slice x1 i1 j1)).setCell ⟨B, 2, none⟩ (.slice y1 k1 l1)) B := by
 obtain ⟨b, x, i, j, y, k, l, T, h⟩ := h
 exact ⟨neg, x1, i1, j1, y1, k1, l1, T, by exact blk_set (blk_set (blk_set h 0 (.bool neg)) 1 (.slice x1 i1 j1)) 2 (.slice y1 k1 l1)⟩
theorem RB.cell {w : World} {B : Nat} (h : RB w B) : w.cell? ⟨B, 0, none⟩ = some (cellOf w ⟨B, 0, none⟩) ∧ w.cell? ⟨B, 1, none⟩ = some (cellOf w ⟨B, 1, none⟩) ∧ w.cell? ⟨B, 2, none⟩ = some (cellOf w ⟨B, 2, none⟩) ∧
  w.frozen? ⟨B, 0, none⟩ = false ∧ w.frozen? ⟨B, 1, none⟩ = false ∧ w.frozen? ⟨B, 2, none⟩ = false := by
 obtain ⟨b, x, i, j, y, k, l, T, h⟩ := h
 have e : ∀ a v, w.cell? a = some v → w.cell? a = some (cellOf w a) := fun a v h => by unfold cellOf; rw [h]; rfl
 exact ⟨e _ _ (blk_cell h 0 (.bool b) rfl), e _ _ (blk_cell h 1 (.slice x i j) rfl), e _ _ (blk_cell h 2 (.slice y k l) rfl), blk_frozen h 0, blk_frozen h 1, blk_frozen h 2⟩

theorem hold3 {n : Nat} {w0 a : World} {B1 B : Nat} {v0 v1 v2 : Value} (h0 : Below n w0 a) (h1 : a.cell? ⟨B1, 0, none⟩ = some v0) (h2 : a.cell? ⟨B1, 1, none⟩ = some v1) (h3 : a.cell? ⟨B1, 2, none⟩ = some v2) (hB : RB a B) :
  Below n w0 a ∧ RB a B ∧ a.cell? ⟨B1, 0, none⟩ = some v0 ∧ a.cell? ⟨B1, 1, none⟩ = some v1 ∧ a.cell? ⟨B1, 2, none⟩ = some v2 ∧
   a.cell? ⟨B, 0, none⟩ = some (cellOf a ⟨B, 0, none⟩) ∧ a.cell? ⟨B, 1, none⟩ = some (cellOf a ⟨B, 1, none⟩) ∧ a.cell? ⟨B, 2, none⟩ = some (cellOf a ⟨B, 2, none⟩) ∧
   a.frozen? ⟨B, 0, none⟩ = false ∧ a.frozen? ⟨B, 1, none⟩ = false ∧ a.frozen? ⟨B, 2, none⟩ = false := ⟨h0, hB, h1, h2, h3, hB.cell⟩
theorem hold3_call {n : Nat} {w0 a b : World} {B1 B : Nat} {v0 v1 v2 : Value} {R : Prop} (hn : n ≤ w0.heap.size) (hb : Below a.heap.size a b)
  (h : Below n w0 a ∧ RB a B ∧ a.cell? ⟨B1, 0, none⟩ = some v0 ∧ a.cell? ⟨B1, 1, none⟩ = some v1 ∧ a.cell? ⟨B1, 2, none⟩ = some v2 ∧ R) :
  Below n w0 b ∧ RB b B ∧ b.cell? ⟨B1, 0, none⟩ = some v0 ∧ b.cell? ⟨B1, 1, none⟩ = some v1 ∧ b.cell? ⟨B1, 2, none⟩ = some v2 ∧
   b.cell? ⟨B, 0, none⟩ = some (cellOf b ⟨B, 0, none⟩) ∧ b.cell? ⟨B, 1, none⟩ = some (cellOf b ⟨B, 1, none⟩) ∧ b.cell? ⟨B, 2, none⟩ = some (cellOf b ⟨B, 2, none⟩) ∧
   b.frozen? ⟨B, 0, none⟩ = false ∧ b.frozen? ⟨B, 1, none⟩ = false ∧ b.frozen? ⟨B, 2, none⟩ = false := by
 obtain ⟨h0, hB, h1, h2, h3, _⟩ := h
 have hl := World.block_lt_of_cell? (h := h1)
 have e : ∀ j, b.cell? ⟨B1, j, none⟩ = a.cell? ⟨B1, j, none⟩ := fun j => hb.cell (p := ⟨B1, j, none⟩) hl
 have hs := h0.size
 exact hold3 (h0.trans (hb.mono (by omega))) ((e _).trans h1) ((e _).trans h2) ((e _).trans h3) (hB.keep hb hB.lt)
theorem hold3_store {n : Nat} {w0 a : World} {B1 B : Nat} {v0 v1 v2 : Value} {R : Prop} (neg : Bool) (x1 y1 : Option Addr) (i1 j1 k1 l1 : Nat) (hn : n ≤ B) (hne : B1 ≠ B)
  (h : Below n w0 a ∧ RB a B ∧ a.cell? ⟨B1, 0, none⟩ = some v0 ∧ a.cell? ⟨B1, 1, none⟩ = some v1 ∧ a.cell? ⟨B1, 2, none⟩ = some v2 ∧ R) (b : World)
  (hb : b = ((a.setCell ⟨B, 0, none⟩ (.bool neg)).setCell ⟨B, 1, none⟩ (.slice x1 i1 j1)).setCell ⟨B, 2, none⟩ (.slice y1 k1 l1)) :
  Below n w0 b ∧ RB b B ∧ b.cell? ⟨B1, 0, none⟩ = some v0 ∧ b.cell? ⟨B1, 1, none⟩ = some v1 ∧ b.cell? ⟨B1, 2, none⟩ = some v2 ∧
   b.cell? ⟨B, 0, none⟩ = some (cellOf b ⟨B, 0, none⟩) ∧ b.cell? ⟨B, 1, none⟩ = some (cellOf b ⟨B, 1, none⟩) ∧ b.cell? ⟨B, 2, none⟩ = some (cellOf b ⟨B, 2, none⟩) ∧
   b.frozen? ⟨B, 0, none⟩ = false ∧ b.frozen? ⟨B, 1, none⟩ = false ∧ b.frozen? ⟨B, 2, none⟩ = false := by
 obtain ⟨h0, hB, h1, h2, h3, _⟩ := h
 subst hb
 have e : ∀ j v, a.cell? ⟨B1, j, none⟩ = some v → (((a.setCell ⟨B, 0, none⟩ (.bool neg)).setCell ⟨B, 1, none⟩ (.slice x1 i1 j1)).setCell ⟨B, 2, none⟩ (.slice y1 k1 l1)).cell? ⟨B1, j, none⟩ = some v := fun j v h => by
  rw [World.cell?_setCell_other, World.cell?_setCell_other, World.cell?_setCell_other, h]
  all_goals intro e; cases e; exact hne rfl
 exact hold3 (below_store3 h0 hn) (e _ _ h1) (e _ _ h2) (e _ _ h3) (hB.store ..)

theorem natAbs_neg_num (q : Rat) : (-q).num.natAbs = q.num.natAbs := by show (-q.num).natAbs = _; exact Int.natAbs_neg _
theorem IsR.stored {w : World} {B : Nat} {neg : Bool} {x1 y1 : Option Addr} {i1 j1 k1 l1 n d' : Nat} {q : Rat}
  (hB : RB w B) (h1 : IsNat .u32 b32 w (.slice x1 i1 j1) n) (h2 : IsNat .u32 b32 w (.slice y1 k1 l1) d') (hd : IsDen d' q.den)
  (hn : decide (q.num < 0) = neg) (hm : q.num.natAbs = n) :
  IsR (((w.setCell ⟨B, 0, none⟩ (.bool neg)).setCell ⟨B, 1, none⟩ (.slice x1 i1 j1)).setCell ⟨B, 2, none⟩ (.slice y1 k1 l1)) (.agg #[.bool neg, .slice x1 i1 j1, .slice y1 k1 l1]) q := by
 subst hn hm
 obtain ⟨b, x, i, j, y, k, l, T, hB⟩ := hB
 exact ⟨_, _, d', rfl, store3 hB h1, store3 hB h2, hd⟩

set_option maxHeartbeats 2000000 in
theorem qneg_any (x : Rat) (vx : Value) (w : World) (hx : IsR w vx x) : Calls Tryz.prog 61 #[vx] w (RetR (-x) w) := by
 obtain ⟨d', a1, c1, a2, c2, rfl, n1, n2, hden⟩ := hx.opened
 have N1 := Lib.hid n1
 have N2 := Lib.hid n2
 have He := Lib.hid (neg_lt_num x)
 clear hx n1 n2
 go_enter Tryz.func61, Tryz.ntmps61
 go_wp2_with fail
 generalize hneg : decide (x.num < 0) = neg at *
 have hal : Below w.heap.size w ((w.alloc (.cells #[.bool neg, .slice a1 (dig b32 x.num.natAbs).length c1, .slice a2 (dig b32 d').length c2] 70)).alloc (.cells #[.bool false, .slice none 0 0, .slice none 0 0] 70)) :=
  ((Below.refl _ _).alloc (Nat.le_refl _) _).alloc (by simp) _
 have hB1 := (blk_keep (blk_new w #[.bool neg, .slice a1 (dig b32 x.num.natAbs).length c1, .slice a2 (dig b32 d').length c2] 70) ((Below.refl _ _).alloc (Nat.le_refl _) (.cells #[.bool false, .slice none 0 0, .slice none 0 0] 70)) (by simp))
 have hB2 := blk_new (w.alloc (.cells #[.bool neg, .slice a1 (dig b32 x.num.natAbs).length c1, .slice a2 (dig b32 d').length c2] 70)) #[.bool false, .slice none 0 0, .slice none 0 0] 70
 rw [World.size_alloc] at hB2
 generalize ((w.alloc (.cells #[.bool neg, .slice a1 (dig b32 x.num.natAbs).length c1, .slice a2 (dig b32 d').length c2] 70)).alloc (.cells #[.bool false, .slice none 0 0, .slice none 0 0] 70)) = W at *
 have p0 := blk_cell hB1 0 (.bool neg) rfl
 have p1 := blk_cell hB1 1 (.slice a1 (dig b32 x.num.natAbs).length c1) rfl
 have p2 := blk_cell hB1 2 (.slice a2 (dig b32 d').length c2) rfl
 have hl1 := blk_lt hB1
 have hl2 := blk_lt hB2
 have e0 := blk_cell hB2 0 (.bool false) rfl
 have e1 := blk_cell hB2 1 (.slice none 0 0) rfl
 have e2 := blk_cell hB2 2 (.slice none 0 0) rfl
 have f0 := blk_frozen hB2 0
 have f1 := blk_frozen hB2 1
 have f2 := blk_frozen hB2 2
 have HB : Hid (RB W (w.heap.size + 1)) := ⟨false, none, 0, 0, none, 0, 0, _, hB2⟩
 clear hB1 hB2
 have hW : Below w.heap.size w W.drew := hal.drew
 cases neg with
 | true =>
  go_region
  go_wp2_with fail
  refine bodyPost_ret (v := .agg #[.bool false, .slice a1 (dig b32 x.num.natAbs).length _, .slice a2 (dig b32 d').length _]) (by simp [results, Tryz.results61, go_sem, e0, e1, e2]; first | done | exact ⟨rfl, rfl⟩ | rfl) rfl ⟨_, rfl, ?_, below_store3 hW (by omega)⟩
  exact IsR.stored (w := W.drew) HB.out (N1.out.below hW) (N2.out.below hW) hden He.out (natAbs_neg_num x)
 | false =>
  by_cases h0 : x.num.natAbs = 0
  ·
   have t0 : Hid (decide (x.num.natAbs = 0) = true) := decide_eq_true h0
   clear h0
   go_region_held3 (fun w' => Below w.heap.size w w' ∧ RB w' (w.heap.size + 1) ∧ w'.cell? ⟨w.heap.size, 0, none⟩ = some (.bool false) ∧ w'.cell? ⟨w.heap.size, 1, none⟩ = some (.slice a1 (dig b32 x.num.natAbs).length c1) ∧ w'.cell? ⟨w.heap.size, 2, none⟩ = some (.slice a2 (dig b32 d').length c2) ∧
     w'.cell? ⟨w.heap.size + 1, 0, none⟩ = some (cellOf w' ⟨w.heap.size + 1, 0, none⟩) ∧ w'.cell? ⟨w.heap.size + 1, 1, none⟩ = some (cellOf w' ⟨w.heap.size + 1, 1, none⟩) ∧ w'.cell? ⟨w.heap.size + 1, 2, none⟩ = some (cellOf w' ⟨w.heap.size + 1, 2, none⟩) ∧
     w'.frozen? ⟨w.heap.size + 1, 0, none⟩ = false ∧ w'.frozen? ⟨w.heap.size + 1, 1, none⟩ = false ∧ w'.frozen? ⟨w.heap.size + 1, 2, none⟩ = false)
    (first | exact hold3 hW p0 p1 p2 HB.out | exact hold3_call (Nat.le_refl _) hb' (by assumption) | exact hold3_store _ _ _ _ _ _ _ (Nat.le_succ _) (Nat.ne_of_lt (Nat.lt_succ_self _)) (by assumption) _ rfl)
    (first | (go_at_call 40; refine (qzero_any _ _ x.num.natAbs _ _ _ _ _).mono ?_; rw [t0.out]; rintro e w' ⟨rfl, hb'⟩))
   have hRB := RB.keep (a := W.drew) HB.out hb' hl2
   obtain ⟨c0, c1, c2, f0', f1', f2'⟩ := hRB.cell
   have hx := hW.trans (hb'.mono hW.size)
   have hBl := hRB.lt
   go_wp2_with fail
   refine bodyPost_ret (v := .agg #[.bool false, .slice a1 (dig b32 x.num.natAbs).length _, .slice a2 (dig b32 d').length _]) (by simp [results, Tryz.results61, go_sem, c0, c1, c2]; first | done | exact ⟨rfl, rfl⟩ | rfl) rfl ⟨_, rfl, ?_, below_store3 hx (by omega)⟩
   exact IsR.stored hRB (N1.out.below hx) (N2.out.below hx) hden (by rw [He.out, t0.out]; rfl) (natAbs_neg_num x)
  ·
   have t0 : Hid (decide (x.num.natAbs = 0) = false) := decide_eq_false h0
   clear h0
   go_region_held3 (fun w' => Below w.heap.size w w' ∧ RB w' (w.heap.size + 1) ∧ w'.cell? ⟨w.heap.size, 0, none⟩ = some (.bool false) ∧ w'.cell? ⟨w.heap.size, 1, none⟩ = some (.slice a1 (dig b32 x.num.natAbs).length c1) ∧ w'.cell? ⟨w.heap.size, 2, none⟩ = some (.slice a2 (dig b32 d').length c2) ∧
     w'.cell? ⟨w.heap.size + 1, 0, none⟩ = some (cellOf w' ⟨w.heap.size + 1, 0, none⟩) ∧ w'.cell? ⟨w.heap.size + 1, 1, none⟩ = some (cellOf w' ⟨w.heap.size + 1, 1, none⟩) ∧ w'.cell? ⟨w.heap.size + 1, 2, none⟩ = some (cellOf w' ⟨w.heap.size + 1, 2, none⟩) ∧
     w'.frozen? ⟨w.heap.size + 1, 0, none⟩ = false ∧ w'.frozen? ⟨w.heap.size + 1, 1, none⟩ = false ∧ w'.frozen? ⟨w.heap.size + 1, 2, none⟩ = false)
    (first | exact hold3 hW p0 p1 p2 HB.out | exact hold3_call (Nat.le_refl _) hb' (by assumption) | exact hold3_store _ _ _ _ _ _ _ (Nat.le_succ _) (Nat.ne_of_lt (Nat.lt_succ_self _)) (by assumption) _ rfl)
    (first | (go_at_call 40; refine (qzero_any _ _ x.num.natAbs _ _ _ _ _).mono ?_; rw [t0.out]; rintro e w' ⟨rfl, hb'⟩))
   have hRB := RB.keep (a := W.drew) HB.out hb' hl2
   obtain ⟨c0, c1, c2, f0', f1', f2'⟩ := hRB.cell
   have hx := hW.trans (hb'.mono hW.size)
   have hBl := hRB.lt
   go_wp2_with fail
   refine bodyPost_ret (v := .agg #[.bool true, .slice a1 (dig b32 x.num.natAbs).length _, .slice a2 (dig b32 d').length _]) (by simp [results, Tryz.results61, go_sem, c0, c1, c2]; first | done | exact ⟨rfl, rfl⟩ | rfl) rfl ⟨_, rfl, ?_, below_store3 hx (by omega)⟩
   exact IsR.stored hRB (N1.out.below hx) (N2.out.below hx) hden (by rw [He.out, t0.out]; rfl) (natAbs_neg_num x)

end Go.Proofs.YtofijjomfhmbjaaGreat

namespace Go.Proofs.YtofijjomfhmbjaaGreat
open Go.RowKit

theorem hold6 {n : Nat} {w0 a : World} {B1 B2 B : Nat} {v0 v1 v2 v3 v4 v5 : Value} (h0 : Below n w0 a) (h1 : a.cell? ⟨B1, 0, none⟩ = some v0) (h2 : a.cell? ⟨B1, 1, none⟩ = some v1) (h3 : a.cell? ⟨B1, 2, none⟩ = some v2)
  (h4 : a.cell? ⟨B2, 0, none⟩ = some v3) (h5 : a.cell? ⟨B2, 1, none⟩ = some v4) (h6 : a.cell? ⟨B2, 2, none⟩ = some v5) (hB : RB a B) :
  Below n w0 a ∧ RB a B ∧ a.cell? ⟨B1, 0, none⟩ = some v0 ∧ a.cell? ⟨B1, 1, none⟩ = some v1 ∧ a.cell? ⟨B1, 2, none⟩ = some v2 ∧
   a.cell? ⟨B2, 0, none⟩ = some v3 ∧ a.cell? ⟨B2, 1, none⟩ = some v4 ∧ a.cell? ⟨B2, 2, none⟩ = some v5 ∧
   a.cell? ⟨B, 0, none⟩ = some (cellOf a ⟨B, 0, none⟩) ∧ a.cell? ⟨B, 1, none⟩ = some (cellOf a ⟨B, 1, none⟩) ∧ a.cell? ⟨B, 2, none⟩ = some (cellOf a ⟨B, 2, none⟩) ∧
   a.frozen? ⟨B, 0, none⟩ = false ∧ a.frozen? ⟨B, 1, none⟩ = false ∧ a.frozen? ⟨B, 2, none⟩ = false := ⟨h0, hB, h1, h2, h3, h4, h5, h6, hB.cell⟩
theorem hold6_call {n : Nat} {w0 a b : World} {B1 B2 B : Nat} {v0 v1 v2 v3 v4 v5 : Value} {R : Prop} (hn : n ≤ w0.heap.size) (hb : Below a.heap.size a b)
  (h : Below n w0 a ∧ RB a B ∧ a.cell? ⟨B1, 0, none⟩ = some v0 ∧ a.cell? ⟨B1, 1, none⟩ = some v1 ∧ a.cell? ⟨B1, 2, none⟩ = some v2 ∧
   a.cell? ⟨B2, 0, none⟩ = some v3 ∧ a.cell? ⟨B2, 1, none⟩ = some v4 ∧ a.cell? ⟨B2, 2, none⟩ = some v5 ∧ R) :
  Below n w0 b ∧ RB b B ∧ b.cell? ⟨B1, 0, none⟩ = some v0 ∧ b.cell? ⟨B1, 1, none⟩ = some v1 ∧ b.cell? ⟨B1, 2, none⟩ = some v2 ∧
   b.cell? ⟨B2, 0, none⟩ = some v3 ∧ b.cell? ⟨B2, 1, none⟩ = some v4 ∧ b.cell? ⟨B2, 2, none⟩ = some v5 ∧
   b.cell? ⟨B, 0, none⟩ = some (cellOf b ⟨B, 0, none⟩) ∧ b.cell? ⟨B, 1, none⟩ = some (cellOf b ⟨B, 1, none⟩) ∧ b.cell? ⟨B, 2, none⟩ = some (cellOf b ⟨B, 2, none⟩) ∧
   b.frozen? ⟨B, 0, none⟩ = false ∧ b.frozen? ⟨B, 1, none⟩ = false ∧ b.frozen? ⟨B, 2, none⟩ = false := by
 obtain ⟨h0, hB, h1, h2, h3, h4, h5, h6, _⟩ := h
 have e : ∀ B1 j v, a.cell? ⟨B1, j, none⟩ = some v → b.cell? ⟨B1, j, none⟩ = some v := fun B1 j v h => (hb.cell (p := ⟨B1, j, none⟩) (World.block_lt_of_cell? (h := h))).trans h
 have hs := h0.size
 exact hold6 (h0.trans (hb.mono (by omega))) (e _ _ _ h1) (e _ _ _ h2) (e _ _ _ h3) (e _ _ _ h4) (e _ _ _ h5) (e _ _ _ h6) (hB.keep hb hB.lt)
theorem hold6_store {n : Nat} {w0 a : World} {B1 B2 B : Nat} {v0 v1 v2 v3 v4 v5 : Value} {R : Prop} (neg : Bool) (x1 y1 : Option Addr) (i1 j1 k1 l1 : Nat) (hn : n ≤ B) (hne : B1 ≠ B) (hne2 : B2 ≠ B)
  (h : Below n w0 a ∧ RB a B ∧ a.cell? ⟨B1, 0, none⟩ = some v0 ∧ a.cell? ⟨B1, 1, none⟩ = some v1 ∧ a.cell? ⟨B1, 2, none⟩ = some v2 ∧
   a.cell? ⟨B2, 0, none⟩ = some v3 ∧ a.cell? ⟨B2, 1, none⟩ = some v4 ∧ a.cell? ⟨B2, 2, none⟩ = some v5 ∧ R) (b : World)
  (hb : b = ((a.setCell ⟨B, 0, none⟩ (.bool neg)).setCell ⟨B, 1, none⟩ (.slice x1 i1 j1)).setCell ⟨B, 2, none⟩ (.slice y1 k1 l1)) :
  Below n w0 b ∧ RB b B ∧ b.cell? ⟨B1, 0, none⟩ = some v0 ∧ b.cell? ⟨B1, 1, none⟩ = some v1 ∧ b.cell? ⟨B1, 2, none⟩ = some v2 ∧
   b.cell? ⟨B2, 0, none⟩ = some v3 ∧ b.cell? ⟨B2, 1, none⟩ = some v4 ∧ b.cell? ⟨B2, 2, none⟩ = some v5 ∧
   b.cell? ⟨B, 0, none⟩ = some (cellOf b ⟨B, 0, none⟩) ∧ b.cell? ⟨B, 1, none⟩ = some (cellOf b ⟨B, 1, none⟩) ∧ b.cell? ⟨B, 2, none⟩ = some (cellOf b ⟨B, 2, none⟩) ∧
   b.frozen? ⟨B, 0, none⟩ = false ∧ b.frozen? ⟨B, 1, none⟩ = false ∧ b.frozen? ⟨B, 2, none⟩ = false := by
 obtain ⟨h0, hB, h1, h2, h3, h4, h5, h6, _⟩ := h
 subst hb
 have e : ∀ B1 j v, B1 ≠ B → a.cell? ⟨B1, j, none⟩ = some v → (((a.setCell ⟨B, 0, none⟩ (.bool neg)).setCell ⟨B, 1, none⟩ (.slice x1 i1 j1)).setCell ⟨B, 2, none⟩ (.slice y1 k1 l1)).cell? ⟨B1, j, none⟩ = some v := fun B1 j v hne h => by
  rw [World.cell?_setCell_other, World.cell?_setCell_other, World.cell?_setCell_other, h]
  all_goals intro e; cases e; exact hne rfl
 exact hold6 (below_store3 h0 hn) (e _ _ _ hne h1) (e _ _ _ hne h2) (e _ _ _ hne h3) (e _ _ _ hne2 h4) (e _ _ _ hne2 h5) (e _ _ _ hne2 h6) (hB.store ..)

theorem boxes3 (w : World) (A1 A2 A3 : Array Value) (T : Nat) (W : World) (hW : W = ((w.alloc (.cells A1 T)).alloc (.cells A2 T)).alloc (.cells A3 T)) :
  Below w.heap.size w W ∧ W.heap[w.heap.size]? = some (.cells A1 T (0, 0)) ∧ W.heap[w.heap.size + 1]? = some (.cells A2 T (0, 0)) ∧ W.heap[w.heap.size + 2]? = some (.cells A3 T (0, 0)) := by
 subst hW
 refine ⟨(((Below.refl _ _).alloc (Nat.le_refl _) _).alloc (by simp) _).alloc (by simp; omega) _, ?_, ?_, ?_⟩
 ·
  rw [heap_alloc_old _ _ (by simp; omega), heap_alloc_old _ _ (by simp)]; exact blk_new w A1 T
 ·
  rw [heap_alloc_old _ _ (by simp)]; have := blk_new (w.alloc (.cells A1 T)) A2 T; rw [World.size_alloc] at this; exact this
 ·
  have := blk_new ((w.alloc (.cells A1 T)).alloc (.cells A2 T)) A3 T; rw [World.size_alloc, World.size_alloc] at this; exact this

def szQ (q : Rat) (k : Nat) : Prop := (dig b32 q.num.natAbs).length ≤ k ∧ (dig b32 q.den).length ≤ k

theorem sg_mul (a b : Bool) (m n : Nat) : sg (!(a == b)) (m * n) = sg a m * sg b n := by
 cases a <;> cases b <;> simp [sg, Int.neg_mul, Int.mul_neg]
theorem sg_self (q : Rat) : sg (decide (q.num < 0)) q.num.natAbs = q.num := by
 unfold sg
 by_cases h : q.num < 0 <;> simp [h] <;> omega
theorem mkQ_mul (x y : Rat) : mkQ (!(decide (x.num < 0) == decide (y.num < 0))) (x.num.natAbs * y.num.natAbs) (x.den * y.den) = x * y := by
 unfold mkQ
 rw [sg_mul, sg_self, sg_self, Rat.mul_def, Rat.normalize_eq_mkRat]

set_option maxHeartbeats 2000000 in
theorem qmul_any (x y : Rat) (vx vy : Value) (w : World) (hx : IsR w vx x) (hy : IsR w vy y) (hlx : szQ x 34359738368) (hly : szQ y 34359738368) : Calls Tryz.prog 41 #[vx, vy] w (RetR (x * y) w) := by
 obtain ⟨d1, a1, c1, a2, c2, rfl, n1, n2, den1⟩ := hx.opened
 obtain ⟨d2, a3, c3, a4, c4, rfl, n3, n4, den2⟩ := hy.opened
 have N1 := Lib.hid n1
 have N2 := Lib.hid n2
 have N3 := Lib.hid n3
 have N4 := Lib.hid n4
 have He := Lib.hid (mkQ_mul x y)
 have HLX := Lib.hid hlx
 have HLY := Lib.hid hly
 have D1 := Lib.hid den1
 have D2 := Lib.hid den2
 clear hx hy n1 n2 n3 n4 hlx hly den1 den2
 go_enter Tryz.func41, Tryz.ntmps41
 go_wp2_with fail
 generalize hsx : decide (x.num < 0) = sx at *
 generalize hsy : decide (y.num < 0) = sy at *
 clear hsx hsy
 generalize hW0 : ((w.alloc (.cells #[.bool sx, .slice a1 (dig b32 x.num.natAbs).length c1, .slice a2 (dig b32 d1).length c2] 70)).alloc (.cells #[.bool sy, .slice a3 (dig b32 y.num.natAbs).length c3, .slice a4 (dig b32 d2).length c4] 70)).alloc (.cells #[.bool false, .slice none 0 0, .slice none 0 0] 70) = W at *
 obtain ⟨hal, hB1, hB2, hB3⟩ := boxes3 w _ _ _ _ W hW0.symm
 clear hW0
 have hW : Below w.heap.size w W.drew := hal.drew
 have p0 := blk_cell hB1 0 (.bool sx) rfl
 have p1 := blk_cell hB1 1 (.slice a1 (dig b32 x.num.natAbs).length c1) rfl
 have p2 := blk_cell hB1 2 (.slice a2 (dig b32 d1).length c2) rfl
 have r0 := blk_cell hB2 0 (.bool sy) rfl
 have r1 := blk_cell hB2 1 (.slice a3 (dig b32 y.num.natAbs).length c3) rfl
 have r2 := blk_cell hB2 2 (.slice a4 (dig b32 d2).length c4) rfl
 have HB : Hid (RB W (w.heap.size + 2)) := ⟨false, none, 0, 0, none, 0, 0, _, hB3⟩
 have hl3 := blk_lt hB3
 clear hB1 hB2 hB3
 go_region_held3 (fun w' => Below w.heap.size w w' ∧ RB w' (w.heap.size + 2) ∧ w'.cell? ⟨w.heap.size, 0, none⟩ = some (.bool sx) ∧ w'.cell? ⟨w.heap.size, 1, none⟩ = some (.slice a1 (dig b32 x.num.natAbs).length c1) ∧ w'.cell? ⟨w.heap.size, 2, none⟩ = some (.slice a2 (dig b32 d1).length c2) ∧ w'.cell? ⟨w.heap.size + 1, 0, none⟩ = some (.bool sy) ∧ w'.cell? ⟨w.heap.size + 1, 1, none⟩ = some (.slice a3 (dig b32 y.num.natAbs).length c3) ∧ w'.cell? ⟨w.heap.size + 1, 2, none⟩ = some (.slice a4 (dig b32 d2).length c4) ∧ w'.cell? ⟨w.heap.size + 2, 0, none⟩ = some (cellOf w' ⟨w.heap.size + 2, 0, none⟩) ∧ w'.cell? ⟨w.heap.size + 2, 1, none⟩ = some (cellOf w' ⟨w.heap.size + 2, 1, none⟩) ∧ w'.cell? ⟨w.heap.size + 2, 2, none⟩ = some (cellOf w' ⟨w.heap.size + 2, 2, none⟩) ∧ w'.frozen? ⟨w.heap.size + 2, 0, none⟩ = false ∧ w'.frozen? ⟨w.heap.size + 2, 1, none⟩ = false ∧ w'.frozen? ⟨w.heap.size + 2, 2, none⟩ = false)
  (first | exact hold6 hW p0 p1 p2 r0 r1 r2 HB.out | exact hold6_call (Nat.le_refl _) hbE (by assumption) | exact hold6_call (Nat.le_refl _) hbD (by assumption) | exact hold6_call (Nat.le_refl _) hbC (by assumption) | exact hold6_call (Nat.le_refl _) hbB (by assumption) | exact hold6_call (Nat.le_refl _) hbA (by assumption) | exact hold6_store _ _ _ _ _ _ _ (by omega) (by omega) (by omega) (by assumption) _ rfl)
  (first
   | (go_at_call_of 58 (Value.slice a1 (dig b32 x.num.natAbs).length c1); refine (product_any x.num.natAbs y.num.natAbs _ _ _ (N1.out.below (And.left (by assumption))) (N3.out.below (And.left (by assumption))) (by have := HLX.out.1; have := HLY.out.1; omega)).mono ?_; rintro e wA ⟨vA, rfl, hvA, hbA⟩)
   | (go_at_call_of 59 (Value.slice a2 (dig b32 d1).length c2); refine (qunder_any d1 x.den _ _ _ _ _ _ _ (N2.out.below (And.left (by assumption))) D1.out x.den_nz).mono ?_; rintro e wB ⟨vB, rfl, hvB, hbB⟩)
   | (go_at_call_of 59 (Value.slice a4 (dig b32 d2).length c4); refine (qunder_any d2 y.den _ _ _ _ _ _ _ (N4.out.below (And.left (by assumption))) D2.out y.den_nz).mono ?_; rintro e wC ⟨vC, rfl, hvC, hbC⟩)
   | (go_at_call 58; refine (product_any x.den y.den _ _ _ (hvB.below hbC) hvC (by have := HLX.out.2; have := HLY.out.2; omega)).mono ?_; rintro e wD ⟨vD, rfl, hvD, hbD⟩)
   | (go_at_call 57; refine (made_any _ (x.num.natAbs * y.num.natAbs) (x.den * y.den) _ _ _ (hvA.below (ext_trans hbB (ext_trans hbC hbD))) hvD (Nat.mul_pos x.den_pos y.den_pos) (by have := dig_length_mul b32_two x.num.natAbs y.num.natAbs; have := HLX.out.1; have := HLY.out.1; omega) (by have := dig_length_mul b32_two x.den y.den; have := HLX.out.2; have := HLY.out.2; omega)).mono ?_; rintro e wE ⟨vE, rfl, hvE, hbE⟩; obtain ⟨d5, a5, c5, a6, c6, rfl, n5, n6, D5⟩ := IsR.opened hvE))
 have hE := ext_trans (ext_trans (ext_trans (ext_trans hbA hbB) hbC) hbD) hbE
 have hRB := RB.keep (a := W.drew) HB.out hE hl3
 obtain ⟨g0, g1, g2, f0', f1', f2'⟩ := hRB.cell
 have hx := hW.trans (hE.mono hW.size)
 have hBl := hRB.lt
 have He' := He.out
 generalize mkQ (!sx == sy) (x.num.natAbs * y.num.natAbs) (x.den * y.den) = q at *
 subst He'
 go_wp2_with fail
 refine bodyPost_ret (v := .agg #[.bool (decide ((x * y).num < 0)), .slice a5 (dig b32 (x * y).num.natAbs).length _, .slice a6 (dig b32 d5).length _]) (by simp [results, Tryz.results41, go_sem, g0, g1, g2]; first | done | exact ⟨rfl, rfl⟩ | rfl) rfl ⟨_, rfl, ?_, below_store3 hx (by omega)⟩
 exact IsR.stored hRB n5 n6 D5 rfl rfl

end Go.Proofs.YtofijjomfhmbjaaGreat

namespace Go.Proofs.YtofijjomfhmbjaaGreat
open Go.RowKit

theorem mkQ_add (x y : Rat) (s : Bool) (n : Nat) (h : sg s n = sg (decide (x.num < 0)) (x.num.natAbs * y.den) + sg (decide (y.num < 0)) (y.num.natAbs * x.den)) : mkQ s n (x.den * y.den) = x + y := by
 unfold mkQ
 rw [h, Rat.add_def, Rat.normalize_eq_mkRat]
 have e : ∀ (b : Bool) (m k : Nat), sg b (m * k) = sg b m * (k : Int) := fun b m k => by cases b <;> simp [sg, Int.neg_mul]
 rw [e, e, sg_self, sg_self]
theorem sg_add (s : Bool) (m n : Nat) : sg s (m + n) = sg s m + sg s n := by
 cases s <;> simp [sg] <;> omega
theorem sg_sub {s t : Bool} (h : (s == t) = false) {m n : Nat} (hle : n ≤ m) : sg s (m - n) = sg s m + sg t n := by
 cases s <;> cases t <;> simp [sg] at h ⊢ <;> omega

set_option maxRecDepth 100000 in
set_option maxHeartbeats 4000000 in
theorem qadd_any (x y : Rat) (vx vy : Value) (w : World) (hx : IsR w vx x) (hy : IsR w vy y) (hlx : szQ x 17179869184) (hly : szQ y 17179869184) : Calls Tryz.prog 60 #[vx, vy] w (RetR (x + y) w) := by
 obtain ⟨d1, a1, c1, a2, c2, rfl, n1, n2, den1⟩ := hx.opened
 obtain ⟨d2, a3, c3, a4, c4, rfl, n3, n4, den2⟩ := hy.opened
 have N1 := Lib.hid n1
 have N2 := Lib.hid n2
 have N3 := Lib.hid n3
 have N4 := Lib.hid n4
 have He := Lib.hid (mkQ_add x y)
 have D1 := Lib.hid den1
 have D2 := Lib.hid den2
 have hA := dig_length_mul b32_two x.num.natAbs y.den
 have hB := dig_length_mul b32_two y.num.natAbs x.den
 have hC := dig_length_mul b32_two x.den y.den
 have HA : Hid ((dig b32 (x.num.natAbs * y.den)).length ≤ 34359738368) := by have := hlx.1; have := hly.2; show _ ≤ _; omega
 have HBB : Hid ((dig b32 (y.num.natAbs * x.den)).length ≤ 34359738368) := by have := hlx.2; have := hly.1; show _ ≤ _; omega
 have HC : Hid ((dig b32 (x.den * y.den)).length ≤ 34359738368) := by have := hlx.2; have := hly.2; show _ ≤ _; omega
 have hS := dig_length_add b32_two (x.num.natAbs * y.den) (y.num.natAbs * x.den) 34359738368 HA.out HBB.out
 have HS := Lib.hid hS
 have HP := Lib.hid (Nat.mul_pos x.den_pos y.den_pos)
 have HLX := Lib.hid hlx
 have HLY := Lib.hid hly
 clear hx hy n1 n2 n3 n4 hlx hly den1 den2 hA hB hC hS
 go_enter Tryz.func60, Tryz.ntmps60
 go_wp2_with fail
 generalize hsx : decide (x.num < 0) = sx at *
 generalize hsy : decide (y.num < 0) = sy at *
 clear hsx hsy
 generalize hW0 : ((w.alloc (.cells #[.bool sx, .slice a1 (dig b32 x.num.natAbs).length c1, .slice a2 (dig b32 d1).length c2] 70)).alloc (.cells #[.bool sy, .slice a3 (dig b32 y.num.natAbs).length c3, .slice a4 (dig b32 d2).length c4] 70)).alloc (.cells #[.bool false, .slice none 0 0, .slice none 0 0] 70) = W at *
 obtain ⟨hal, hB1, hB2, hB3⟩ := boxes3 w _ _ _ _ W hW0.symm
 clear hW0
 have hW : Below w.heap.size w W.drew := hal.drew
 have p0 := blk_cell hB1 0 (.bool sx) rfl
 have p1 := blk_cell hB1 1 (.slice a1 (dig b32 x.num.natAbs).length c1) rfl
 have p2 := blk_cell hB1 2 (.slice a2 (dig b32 d1).length c2) rfl
 have r0 := blk_cell hB2 0 (.bool sy) rfl
 have r1 := blk_cell hB2 1 (.slice a3 (dig b32 y.num.natAbs).length c3) rfl
 have r2 := blk_cell hB2 2 (.slice a4 (dig b32 d2).length c4) rfl
 have HB : Hid (RB W (w.heap.size + 2)) := ⟨false, none, 0, 0, none, 0, 0, _, hB3⟩
 have hl3 := blk_lt hB3
 clear hB1 hB2 hB3
 go_region_held3 (fun w' => Below w.heap.size w w' ∧ RB w' (w.heap.size + 2) ∧ w'.cell? ⟨w.heap.size, 0, none⟩ = some (.bool sx) ∧ w'.cell? ⟨w.heap.size, 1, none⟩ = some (.slice a1 (dig b32 x.num.natAbs).length c1) ∧ w'.cell? ⟨w.heap.size, 2, none⟩ = some (.slice a2 (dig b32 d1).length c2) ∧ w'.cell? ⟨w.heap.size + 1, 0, none⟩ = some (.bool sy) ∧ w'.cell? ⟨w.heap.size + 1, 1, none⟩ = some (.slice a3 (dig b32 y.num.natAbs).length c3) ∧ w'.cell? ⟨w.heap.size + 1, 2, none⟩ = some (.slice a4 (dig b32 d2).length c4) ∧ w'.cell? ⟨w.heap.size + 2, 0, none⟩ = some (cellOf w' ⟨w.heap.size + 2, 0, none⟩) ∧ w'.cell? ⟨w.heap.size + 2, 1, none⟩ = some (cellOf w' ⟨w.heap.size + 2, 1, none⟩) ∧ w'.cell? ⟨w.heap.size + 2, 2, none⟩ = some (cellOf w' ⟨w.heap.size + 2, 2, none⟩) ∧ w'.frozen? ⟨w.heap.size + 2, 0, none⟩ = false ∧ w'.frozen? ⟨w.heap.size + 2, 1, none⟩ = false ∧ w'.frozen? ⟨w.heap.size + 2, 2, none⟩ = false)
  (first | exact hold6 hW p0 p1 p2 r0 r1 r2 HB.out | exact hold6_call (Nat.le_refl _) hbD (by assumption) | exact hold6_call (Nat.le_refl _) hbC (by assumption) | exact hold6_call (Nat.le_refl _) hbB (by assumption) | exact hold6_call (Nat.le_refl _) hbA (by assumption))
  (first
   | (go_at_call_of 59 (Value.slice a4 (dig b32 d2).length c4); refine (qunder_any d2 y.den _ _ _ _ _ _ _ (N4.out.below (And.left (by assumption))) D2.out y.den_nz).mono ?_; rintro e wA ⟨vA, rfl, hvA, hbA⟩)
   | (go_at_call_of 58 (Value.slice a1 (dig b32 x.num.natAbs).length c1); refine (product_any x.num.natAbs y.den _ _ _ (N1.out.below (And.left (by assumption))) hvA (by have := HLX.out.1; have := HLY.out.2; omega)).mono ?_; rintro e wB ⟨vB, rfl, hvB, hbB⟩)
   | (go_at_call_of 59 (Value.slice a2 (dig b32 d1).length c2); refine (qunder_any d1 x.den _ _ _ _ _ _ _ (N2.out.below (And.left (by assumption))) D1.out x.den_nz).mono ?_; rintro e wC ⟨vC, rfl, hvC, hbC⟩)
   | (go_at_call_of 58 (Value.slice a3 (dig b32 y.num.natAbs).length c3); refine (product_any y.num.natAbs x.den _ _ _ (N3.out.below (And.left (by assumption))) hvC (by have := HLX.out.2; have := HLY.out.1; omega)).mono ?_; rintro e wD ⟨vD, rfl, hvD, hbD⟩))
 rename_i hS1
 have hD := ext_trans (ext_trans (ext_trans hbA hbB) hbC) hbD
 have HB1 : Hid (RB wD (w.heap.size + 2)) := RB.keep (a := W.drew) HB.out hD hl3
 have hl31 := HB1.out.lt
 have hB1 := Lib.hid (hvB.below (ext_trans hbC hbD))
 have hD1 := Lib.hid hvD
 obtain ⟨hWD, -, p0', p1', p2', r0', r1', r2', -⟩ := hS1
 clear p0 p1 p2 r0 r1 r2 hbA hbB hbC hbD hvA hvB hvC hvD hD HB hW hal hl3
 replace p0 := p0'
 replace p1 := p1'
 replace p2 := p2'
 replace r0 := r0'
 replace r1 := r1'
 replace r2 := r2'
 have hW2 : Below w.heap.size w wD.drew := hWD.drew
 clear p0' p1' p2' r0' r1' r2'
 go_wp2_with fail
 go_region_held3 (fun w' => Below w.heap.size w w' ∧ RB w' (w.heap.size + 2) ∧ w'.cell? ⟨w.heap.size, 0, none⟩ = some (.bool sx) ∧ w'.cell? ⟨w.heap.size, 1, none⟩ = some (.slice a1 (dig b32 x.num.natAbs).length c1) ∧ w'.cell? ⟨w.heap.size, 2, none⟩ = some (.slice a2 (dig b32 d1).length c2) ∧ w'.cell? ⟨w.heap.size + 1, 0, none⟩ = some (.bool sy) ∧ w'.cell? ⟨w.heap.size + 1, 1, none⟩ = some (.slice a3 (dig b32 y.num.natAbs).length c3) ∧ w'.cell? ⟨w.heap.size + 1, 2, none⟩ = some (.slice a4 (dig b32 d2).length c4) ∧ w'.cell? ⟨w.heap.size + 2, 0, none⟩ = some (cellOf w' ⟨w.heap.size + 2, 0, none⟩) ∧ w'.cell? ⟨w.heap.size + 2, 1, none⟩ = some (cellOf w' ⟨w.heap.size + 2, 1, none⟩) ∧ w'.cell? ⟨w.heap.size + 2, 2, none⟩ = some (cellOf w' ⟨w.heap.size + 2, 2, none⟩) ∧ w'.frozen? ⟨w.heap.size + 2, 0, none⟩ = false ∧ w'.frozen? ⟨w.heap.size + 2, 1, none⟩ = false ∧ w'.frozen? ⟨w.heap.size + 2, 2, none⟩ = false)
  (first | exact hold6 hW2 p0 p1 p2 r0 r1 r2 HB1.out | exact hold6_call (Nat.le_refl _) hbC (by assumption) | exact hold6_call (Nat.le_refl _) hbB (by assumption) | exact hold6_call (Nat.le_refl _) hbA (by assumption))
  (first
   | (go_at_call_of 59 (Value.slice a2 (dig b32 d1).length c2); refine (qunder_any d1 x.den _ _ _ _ _ _ _ (N2.out.below (And.left (by assumption))) D1.out x.den_nz).mono ?_; rintro e wA ⟨vA, rfl, hvA, hbA⟩)
   | (go_at_call_of 59 (Value.slice a4 (dig b32 d2).length c4); refine (qunder_any d2 y.den _ _ _ _ _ _ _ (N4.out.below (And.left (by assumption))) D2.out y.den_nz).mono ?_; rintro e wB ⟨vB', rfl, hvB, hbB⟩)
   | (go_at_call 58; refine (product_any x.den y.den _ _ _ (hvA.below hbB) hvB (by have := HLX.out.2; have := HLY.out.2; omega)).mono ?_; rintro e wC ⟨vC', rfl, hvC, hbC⟩))
 rename_i hS1
 have hE : Below wD.heap.size wD wC := (ext_trans (Below.refl _ _).drew (ext_trans (ext_trans hbA hbB) hbC))
 have HB2 : Hid (RB wC (w.heap.size + 2)) := RB.keep HB1.out hE hl31
 have hl32 := HB2.out.lt
 have hB2 := Lib.hid (hB1.out.below hE)
 have hD2 := Lib.hid (hD1.out.below hE)
 have hC2 := Lib.hid hvC
 obtain ⟨hWC, -, p0', p1', p2', r0', r1', r2', -⟩ := hS1
 clear p0 p1 p2 r0 r1 r2 hbA hbB hbC hvA hvB hvC hE hB1 hD1 HB1 hW2 hWD hl31
 replace p0 := p0'
 replace p1 := p1'
 replace p2 := p2'
 replace r0 := r0'
 replace r1 := r1'
 replace r2 := r2'
 clear p0' p1' p2' r0' r1' r2'
 generalize x.num.natAbs * y.den = A at *
 generalize y.num.natAbs * x.den = B at *
 generalize x.den * y.den = C at *
 by_cases hs : (sx == sy) = true
 ·
  have Hs := Lib.hid hs
  go_wp2_with fail
  have hWe : Below w.heap.size w (wC).drew := hWC.drew
  go_region_held3 (fun w' => Below w.heap.size w w' ∧ RB w' (w.heap.size + 2) ∧ w'.cell? ⟨w.heap.size, 0, none⟩ = some (.bool sx) ∧ w'.cell? ⟨w.heap.size, 1, none⟩ = some (.slice a1 (dig b32 x.num.natAbs).length c1) ∧ w'.cell? ⟨w.heap.size, 2, none⟩ = some (.slice a2 (dig b32 d1).length c2) ∧ w'.cell? ⟨w.heap.size + 1, 0, none⟩ = some (.bool sy) ∧ w'.cell? ⟨w.heap.size + 1, 1, none⟩ = some (.slice a3 (dig b32 y.num.natAbs).length c3) ∧ w'.cell? ⟨w.heap.size + 1, 2, none⟩ = some (.slice a4 (dig b32 d2).length c4) ∧ w'.cell? ⟨w.heap.size + 2, 0, none⟩ = some (cellOf w' ⟨w.heap.size + 2, 0, none⟩) ∧ w'.cell? ⟨w.heap.size + 2, 1, none⟩ = some (cellOf w' ⟨w.heap.size + 2, 1, none⟩) ∧ w'.cell? ⟨w.heap.size + 2, 2, none⟩ = some (cellOf w' ⟨w.heap.size + 2, 2, none⟩) ∧ w'.frozen? ⟨w.heap.size + 2, 0, none⟩ = false ∧ w'.frozen? ⟨w.heap.size + 2, 1, none⟩ = false ∧ w'.frozen? ⟨w.heap.size + 2, 2, none⟩ = false)
   (first | exact hold6 hWe p0 p1 p2 r0 r1 r2 HB2.out | exact hold6_call (Nat.le_refl _) hbE (by assumption) | exact hold6_call (Nat.le_refl _) hbD (by assumption) | exact hold6_store _ _ _ _ _ _ _ (by omega) (by omega) (by omega) (by assumption) _ rfl)
   (first
    | (go_at_call 86; refine (sum_any A B _ _ _ (hB2.out.below (Below.refl _ _).drew) (hD2.out.below (Below.refl _ _).drew) (by have := HA.out; omega) (by have := HBB.out; omega)).mono ?_; rintro e wD' ⟨vE, rfl, hvE, hbD⟩)
    | (go_at_call 57; refine (made_any _ (A + B) C _ _ _ hvE (hC2.out.below (ext_trans (show Below (wC).heap.size wC (wC).drew from (Below.refl _ _).drew) hbD)) HP.out (by have := HA.out; have := HBB.out; have := HS.out; omega) (by have := HC.out; omega)).mono ?_; rintro e wE ⟨vF, rfl, hvF, hbE⟩; obtain ⟨d5, a5, c5, a6, c6, rfl, n5, n6, D5⟩ := IsR.opened hvF))
  have hE := ext_trans hbD hbE
  have hRB := RB.keep (a := (wC).drew) HB2.out hE hl32
  obtain ⟨g0, g1, g2, f0', f1', f2'⟩ := hRB.cell
  have hx := hWe.trans (hE.mono hWe.size)
  have hBl := hRB.lt
  have He' := He.out sx (A + B) (by have e : sx = sy := (by simpa using Hs.out); rw [← e]; exact sg_add sx A B)
  generalize mkQ sx (A + B) C = q at *
  subst He'
  go_wp2_with fail
  refine bodyPost_ret (v := .agg #[.bool (decide ((x + y).num < 0)), .slice a5 (dig b32 (x + y).num.natAbs).length _, .slice a6 (dig b32 d5).length _]) (by simp [results, Tryz.results60, go_sem, g0, g1, g2]; first | done | exact ⟨rfl, rfl⟩ | rfl) rfl ⟨_, rfl, ?_, below_store3 hx (by omega)⟩
  exact IsR.stored hRB n5 n6 D5 rfl rfl
 ·
  have hs' : (sx == sy) = false := by simpa using hs
  have Hs := Lib.hid hs'
  clear hs
  go_wp2_with fail
  refine (order_any A B _ _ wC hB2.out hD2.out).mono ?_
  rintro e w' ⟨rfl, nq, rfl⟩
  have hWn : Below w.heap.size w (wC.drewN nq) := below_dn hWC nq
  by_cases hge : B ≤ A
  ·
   have hc := cmpN_ge hge
   generalize cmpN A B = c at *
   have Hge := Lib.hid hge
   clear hge
   go_wp2_with fail
   have hWe : Below w.heap.size w (wC.drewN nq).drew := hWn.drew
   go_region_held3 (fun w' => Below w.heap.size w w' ∧ RB w' (w.heap.size + 2) ∧ w'.cell? ⟨w.heap.size, 0, none⟩ = some (.bool sx) ∧ w'.cell? ⟨w.heap.size, 1, none⟩ = some (.slice a1 (dig b32 x.num.natAbs).length c1) ∧ w'.cell? ⟨w.heap.size, 2, none⟩ = some (.slice a2 (dig b32 d1).length c2) ∧ w'.cell? ⟨w.heap.size + 1, 0, none⟩ = some (.bool sy) ∧ w'.cell? ⟨w.heap.size + 1, 1, none⟩ = some (.slice a3 (dig b32 y.num.natAbs).length c3) ∧ w'.cell? ⟨w.heap.size + 1, 2, none⟩ = some (.slice a4 (dig b32 d2).length c4) ∧ w'.cell? ⟨w.heap.size + 2, 0, none⟩ = some (cellOf w' ⟨w.heap.size + 2, 0, none⟩) ∧ w'.cell? ⟨w.heap.size + 2, 1, none⟩ = some (cellOf w' ⟨w.heap.size + 2, 1, none⟩) ∧ w'.cell? ⟨w.heap.size + 2, 2, none⟩ = some (cellOf w' ⟨w.heap.size + 2, 2, none⟩) ∧ w'.frozen? ⟨w.heap.size + 2, 0, none⟩ = false ∧ w'.frozen? ⟨w.heap.size + 2, 1, none⟩ = false ∧ w'.frozen? ⟨w.heap.size + 2, 2, none⟩ = false)
    (first | exact hold6 hWe p0 p1 p2 r0 r1 r2 HB2.out | exact hold6_call (Nat.le_refl _) hbE (by assumption) | exact hold6_call (Nat.le_refl _) hbD (by assumption) | exact hold6_store _ _ _ _ _ _ _ (by omega) (by omega) (by omega) (by assumption) _ rfl)
    (first
     | (go_at_call 87; refine (difference_any A B _ _ ((wC.drewN nq).drew) hB2.out hD2.out Hge.out (by have := HA.out; omega)).mono ?_; rintro e wD' ⟨vE, rfl, hvE, hbD⟩)
     | (go_at_call 57; refine (made_any _ (A - B) C _ _ _ hvE (hC2.out.below (ext_trans (show Below (wC).heap.size wC (wC.drewN nq).drew from (below_dn (Below.refl _ _) _).drew) hbD)) HP.out (by have := HA.out; have := HBB.out; have := HS.out; exact Nat.le_trans (dig_length_mono b32_two (Nat.sub_le _ _)) (by omega)) (by have := HC.out; omega)).mono ?_; rintro e wE ⟨vF, rfl, hvF, hbE⟩; obtain ⟨d5, a5, c5, a6, c6, rfl, n5, n6, D5⟩ := IsR.opened hvF))
   have hE := ext_trans hbD hbE
   have hRB := RB.keep (a := (wC.drewN nq).drew) HB2.out hE hl32
   obtain ⟨g0, g1, g2, f0', f1', f2'⟩ := hRB.cell
   have hx := hWe.trans (hE.mono hWe.size)
   have hBl := hRB.lt
   have He' := He.out sx (A - B) (sg_sub Hs.out Hge.out)
   generalize mkQ sx (A - B) C = q at *
   subst He'
   go_wp2_with fail
   refine bodyPost_ret (v := .agg #[.bool (decide ((x + y).num < 0)), .slice a5 (dig b32 (x + y).num.natAbs).length _, .slice a6 (dig b32 d5).length _]) (by simp [results, Tryz.results60, go_sem, g0, g1, g2]; first | done | exact ⟨rfl, rfl⟩ | rfl) rfl ⟨_, rfl, ?_, below_store3 hx (by omega)⟩
   exact IsR.stored hRB n5 n6 D5 rfl rfl
  ·
   have hc := cmpN_nge hge
   generalize cmpN A B = c at *
   have Hge : Hid (A ≤ B) := Nat.le_of_lt (Nat.lt_of_not_le hge)
   clear hge
   go_wp2_with fail
   have hWe : Below w.heap.size w (wC.drewN nq).drew := hWn.drew
   go_region_held3 (fun w' => Below w.heap.size w w' ∧ RB w' (w.heap.size + 2) ∧ w'.cell? ⟨w.heap.size, 0, none⟩ = some (.bool sx) ∧ w'.cell? ⟨w.heap.size, 1, none⟩ = some (.slice a1 (dig b32 x.num.natAbs).length c1) ∧ w'.cell? ⟨w.heap.size, 2, none⟩ = some (.slice a2 (dig b32 d1).length c2) ∧ w'.cell? ⟨w.heap.size + 1, 0, none⟩ = some (.bool sy) ∧ w'.cell? ⟨w.heap.size + 1, 1, none⟩ = some (.slice a3 (dig b32 y.num.natAbs).length c3) ∧ w'.cell? ⟨w.heap.size + 1, 2, none⟩ = some (.slice a4 (dig b32 d2).length c4) ∧ w'.cell? ⟨w.heap.size + 2, 0, none⟩ = some (cellOf w' ⟨w.heap.size + 2, 0, none⟩) ∧ w'.cell? ⟨w.heap.size + 2, 1, none⟩ = some (cellOf w' ⟨w.heap.size + 2, 1, none⟩) ∧ w'.cell? ⟨w.heap.size + 2, 2, none⟩ = some (cellOf w' ⟨w.heap.size + 2, 2, none⟩) ∧ w'.frozen? ⟨w.heap.size + 2, 0, none⟩ = false ∧ w'.frozen? ⟨w.heap.size + 2, 1, none⟩ = false ∧ w'.frozen? ⟨w.heap.size + 2, 2, none⟩ = false)
    (first | exact hold6 hWe p0 p1 p2 r0 r1 r2 HB2.out | exact hold6_call (Nat.le_refl _) hbE (by assumption) | exact hold6_call (Nat.le_refl _) hbD (by assumption) | exact hold6_store _ _ _ _ _ _ _ (by omega) (by omega) (by omega) (by assumption) _ rfl)
    (first
     | (go_at_call 87; refine (difference_any B A _ _ ((wC.drewN nq).drew) hD2.out hB2.out Hge.out (by have := HBB.out; omega)).mono ?_; rintro e wD' ⟨vE, rfl, hvE, hbD⟩)
     | (go_at_call 57; refine (made_any _ (B - A) C _ _ _ hvE (hC2.out.below (ext_trans (show Below (wC).heap.size wC (wC.drewN nq).drew from (below_dn (Below.refl _ _) _).drew) hbD)) HP.out (by have := HA.out; have := HBB.out; have := HS.out; exact Nat.le_trans (dig_length_mono b32_two (Nat.sub_le _ _)) (by omega)) (by have := HC.out; omega)).mono ?_; rintro e wE ⟨vF, rfl, hvF, hbE⟩; obtain ⟨d5, a5, c5, a6, c6, rfl, n5, n6, D5⟩ := IsR.opened hvF))
   have hE := ext_trans hbD hbE
   have hRB := RB.keep (a := (wC.drewN nq).drew) HB2.out hE hl32
   obtain ⟨g0, g1, g2, f0', f1', f2'⟩ := hRB.cell
   have hx := hWe.trans (hE.mono hWe.size)
   have hBl := hRB.lt
   have He' := He.out sy (B - A) (by rw [Int.add_comm]; exact sg_sub (by have := Hs.out; cases sx <;> cases sy <;> simp_all) Hge.out)
   generalize mkQ sy (B - A) C = q at *
   subst He'
   go_wp2_with fail
   refine bodyPost_ret (v := .agg #[.bool (decide ((x + y).num < 0)), .slice a5 (dig b32 (x + y).num.natAbs).length _, .slice a6 (dig b32 d5).length _]) (by simp [results, Tryz.results60, go_sem, g0, g1, g2]; first | done | exact ⟨rfl, rfl⟩ | rfl) rfl ⟨_, rfl, ?_, below_store3 hx (by omega)⟩
   exact IsR.stored hRB n5 n6 D5 rfl rfl

end Go.Proofs.YtofijjomfhmbjaaGreat

namespace Go.Proofs.YtofijjomfhmbjaaGreat
open Go.RowKit

set_option maxHeartbeats 4000000 in
theorem qsub_any (x y : Rat) (vx vy : Value) (w : World) (hx : IsR w vx x) (hy : IsR w vy y) (hlx : szQ x 17179869184) (hly : szQ y 17179869184) : Calls Tryz.prog 42 #[vx, vy] w (RetR (x - y) w) := by
 have hy0 := hy
 obtain ⟨d1, a1, c1, a2, c2, rfl, n1, n2, den1⟩ := hx.opened
 obtain ⟨d2, a3, c3, a4, c4, rfl, n3, n4, den2⟩ := hy.opened
 have HX := Lib.hid hx
 have HY := Lib.hid hy
 have HLX := Lib.hid hlx
 have hln : szQ (-y) 17179869184 := ⟨by rw [natAbs_neg_num]; exact hly.1, hly.2⟩
 have HLY := Lib.hid hln
 have He : Hid (x + -y = x - y) := (Rat.sub_eq_add_neg x y).symm
 clear hx hy n1 n2 n3 n4 hlx hly den1 den2 hln hy0
 go_enter Tryz.func42, Tryz.ntmps42
 go_wp2_with fail
 generalize hsx : decide (x.num < 0) = sx at *
 generalize hsy : decide (y.num < 0) = sy at *
 clear hsx hsy
 generalize hW0 : ((w.alloc (.cells #[.bool sx, .slice a1 (dig b32 x.num.natAbs).length c1, .slice a2 (dig b32 d1).length c2] 70)).alloc (.cells #[.bool sy, .slice a3 (dig b32 y.num.natAbs).length c3, .slice a4 (dig b32 d2).length c4] 70)).alloc (.cells #[.bool false, .slice none 0 0, .slice none 0 0] 70) = W at *
 obtain ⟨hal, hB1, hB2, hB3⟩ := boxes3 w _ _ _ _ W hW0.symm
 clear hW0
 have hW : Below w.heap.size w W.drew := hal.drew
 have p0 := blk_cell hB1 0 (.bool sx) rfl
 have p1 := blk_cell hB1 1 (.slice a1 (dig b32 x.num.natAbs).length c1) rfl
 have p2 := blk_cell hB1 2 (.slice a2 (dig b32 d1).length c2) rfl
 have r0 := blk_cell hB2 0 (.bool sy) rfl
 have r1 := blk_cell hB2 1 (.slice a3 (dig b32 y.num.natAbs).length c3) rfl
 have r2 := blk_cell hB2 2 (.slice a4 (dig b32 d2).length c4) rfl
 have HB : Hid (RB W (w.heap.size + 2)) := ⟨false, none, 0, 0, none, 0, 0, _, hB3⟩
 have hl3 := blk_lt hB3
 clear hB1 hB2 hB3
 go_region_held3 (fun w' => Below w.heap.size w w' ∧ RB w' (w.heap.size + 2) ∧ w'.cell? ⟨w.heap.size, 0, none⟩ = some (.bool sx) ∧ w'.cell? ⟨w.heap.size, 1, none⟩ = some (.slice a1 (dig b32 x.num.natAbs).length c1) ∧ w'.cell? ⟨w.heap.size, 2, none⟩ = some (.slice a2 (dig b32 d1).length c2) ∧ w'.cell? ⟨w.heap.size + 1, 0, none⟩ = some (.bool sy) ∧ w'.cell? ⟨w.heap.size + 1, 1, none⟩ = some (.slice a3 (dig b32 y.num.natAbs).length c3) ∧ w'.cell? ⟨w.heap.size + 1, 2, none⟩ = some (.slice a4 (dig b32 d2).length c4) ∧ w'.cell? ⟨w.heap.size + 2, 0, none⟩ = some (cellOf w' ⟨w.heap.size + 2, 0, none⟩) ∧ w'.cell? ⟨w.heap.size + 2, 1, none⟩ = some (cellOf w' ⟨w.heap.size + 2, 1, none⟩) ∧ w'.cell? ⟨w.heap.size + 2, 2, none⟩ = some (cellOf w' ⟨w.heap.size + 2, 2, none⟩) ∧ w'.frozen? ⟨w.heap.size + 2, 0, none⟩ = false ∧ w'.frozen? ⟨w.heap.size + 2, 1, none⟩ = false ∧ w'.frozen? ⟨w.heap.size + 2, 2, none⟩ = false)
  (first | exact hold6 hW p0 p1 p2 r0 r1 r2 HB.out | exact hold6_call (Nat.le_refl _) hbE (by assumption) | exact hold6_call (Nat.le_refl _) hbD (by assumption) | exact hold6_store _ _ _ _ _ _ _ (by omega) (by omega) (by omega) (by assumption) _ rfl)
  (first
   | (go_at_call 61; refine (qneg_any y _ _ (HY.out.below (And.left (by assumption)))).mono ?_; rintro e wD ⟨vD, rfl, hvD, hbD⟩)
   | (go_at_call 60; refine (qadd_any x (-y) _ _ _ (HX.out.below (And.left (by assumption))) hvD HLX.out HLY.out).mono ?_; rw [He.out]; rintro e wE ⟨vE, rfl, hvE, hbE⟩; obtain ⟨d5, a5, c5, a6, c6, rfl, n5, n6, D5⟩ := IsR.opened hvE))
 have hE := ext_trans hbD hbE
 have hRB := RB.keep (a := W.drew) HB.out hE hl3
 obtain ⟨g0, g1, g2, f0', f1', f2'⟩ := hRB.cell
 have hx := hW.trans (hE.mono hW.size)
 have hBl := hRB.lt
 go_wp2_with fail
 refine bodyPost_ret (v := .agg #[.bool (decide ((x - y).num < 0)), .slice a5 (dig b32 (x - y).num.natAbs).length _, .slice a6 (dig b32 d5).length _]) (by simp [results, Tryz.results42, go_sem, g0, g1, g2]; first | done | exact ⟨rfl, rfl⟩ | rfl) rfl ⟨_, rfl, ?_, below_store3 hx (by omega)⟩
 exact IsR.stored hRB n5 n6 D5 rfl rfl

end Go.Proofs.YtofijjomfhmbjaaGreat

namespace Go.Proofs.YtofijjomfhmbjaaGreat
open Go.RowKit

def sgnW : Nat := 9223372036854775808
def bin52 : Nat := 4503599627370496

end Go.Proofs.YtofijjomfhmbjaaGreat

namespace Go.Proofs.YtofijjomfhmbjaaGreat
open Go.RowKit

def fE (b : Nat) : Nat := b / bin52 % 2048
def fM0 (b : Nat) : Nat := b % bin52
def fM (b : Nat) : Nat := if fE b = 0 then fM0 b else fM0 b + bin52
def fE1 (b : Nat) : Nat := if fE b = 0 then 1 else fE b
def fS (b : Nat) : Bool := decide (b / sgnW = 1)
def fval (b : Nat) : Rat := mkQ (fS b) (fM b * 2 ^ (fE1 b - 1075)) (2 ^ (1075 - fE1 b))

end Go.Proofs.YtofijjomfhmbjaaGreat

namespace Go.Proofs.YtofijjomfhmbjaaGreat
open Go.RowKit

theorem RB.isRow {w : World} {B : Nat} (h : RB w B) {k : IntKind} {v : Value} {ds : List Nat} (hv : IsRow k w v ds) (neg : Bool) (x1 y1 : Option Addr) (i1 j1 k1 l1 : Nat) :
  IsRow k (((w.setCell ⟨B, 0, none⟩ (.bool neg)).setCell ⟨B, 1, none⟩ (.slice x1 i1 j1)).setCell ⟨B, 2, none⟩ (.slice y1 k1 l1)) v ds := by
 obtain ⟨b, x, i, j, y, k, l, T, h⟩ := h
 exact store3 h hv
theorem RB.far {w : World} {B B' : Nat} (h : RB w B) (hne : B' ≠ B) (neg : Bool) (x1 y1 : Option Addr) (i1 j1 k1 l1 : Nat) :
  RB (((w.setCell ⟨B', 0, none⟩ (.bool neg)).setCell ⟨B', 1, none⟩ (.slice x1 i1 j1)).setCell ⟨B', 2, none⟩ (.slice y1 k1 l1)) B := by
 obtain ⟨b, x, i, j, y, k, l, T, h⟩ := h
 exact ⟨b, x, i, j, y, k, l, T, by rw [heap_setCell_other _ _ _ _ (Ne.symm hne), heap_setCell_other _ _ _ _ (Ne.symm hne), heap_setCell_other _ _ _ _ (Ne.symm hne)]; exact h⟩
end Go.Proofs.YtofijjomfhmbjaaGreat

namespace Go.Proofs.YtofijjomfhmbjaaGreat
open Go.RowKit

def fracQ (n d : Int) : Rat := if d ≤ 0 then (n : Rat) else (n : Rat) / (d : Rat)

end Go.Proofs.YtofijjomfhmbjaaGreat

namespace Go.Proofs.YtofijjomfhmbjaaGreat
open Go.RowKit

def noDig (v : Value) : Prop := ∀ x : Int, v ≠ .int .u64 x ∧ v ≠ .int .u32 x
def NoDig (w : World) (g : Nat) : Prop := ∀ (j : Nat) (v : Value), w.cell? ⟨g, j, none⟩ = some v → noDig v

theorem noDig_bool (b : Bool) : noDig (.bool b) := fun _ => ⟨by simp, by simp⟩
theorem noDig_slice (a : Option Addr) (l c : Nat) : noDig (.slice a l c) := fun _ => ⟨by simp, by simp⟩
theorem noDig_i64 (x : Int) : noDig (.int .i64 x) := fun _ => ⟨by simp, by simp⟩
theorem NoDig.of_block {w : World} {g : Nat} {cs : Array Value} {t : TypeId} {fr : Nat × Nat} (hg : w.heap[g]? = some (.cells cs t fr)) (h : ∀ v ∈ cs.toList, noDig v) : NoDig w g := by
 intro j v hv
 rw [cell_of_row w g j cs t fr hg] at hv
 exact h v (by simpa using Array.mem_of_getElem? hv)

def LRow (w : World) (base : Nat) (e : TypeId) (size : Nat) (v : Value) (n : Nat) (xs : List Value) : Prop :=
 w.ownsRow base e size v n xs ∧ ∀ g, v.ownBlock = some g → NoDig w g

theorem LRow.nil (w : World) (base : Nat) (e : TypeId) (size : Nat) : LRow w base e size (.slice none 0 0) 0 [] :=
 ⟨World.ownsRow_nil w base e size, fun g h => by simp [Value.ownBlock] at h⟩
theorem LRow.lt {w : World} {base : Nat} {e : TypeId} {size : Nat} {v : Value} {n : Nat} {xs : List Value} (h : LRow w base e size v n xs) {g : Nat} (hg : v.ownBlock = some g) : g < w.heap.size ∧ base ≤ g := by
 rcases h.1.2 with ⟨rfl, _⟩ | ⟨g', cap, cur, rfl, hb, hh, _⟩
 ·
  simp [Value.ownBlock] at hg
 ·
  simp [Value.ownBlock] at hg
  subst hg
  exact ⟨(Array.getElem?_eq_some_iff.1 hh).1, hb⟩
theorem LRow.keep {w w' : World} {base : Nat} {e : TypeId} {size : Nat} {v : Value} {n : Nat} {xs : List Value} (h : LRow w base e size v n xs) (hk : ∀ g, v.ownBlock = some g → w'.heap[g]? = w.heap[g]?) : LRow w' base e size v n xs := by
 refine ⟨⟨h.1.1, ?_⟩, fun g hg j u hu => h.2 g hg j u ?_⟩
 ·
  rcases h.1.2 with h1 | ⟨g, cap, cur, rfl, hb, hh, h2⟩
  ·
   exact .inl h1
  ·
   exact .inr ⟨g, cap, cur, rfl, hb, (hk g rfl).trans hh, h2⟩
 ·
  rw [← hu]
  exact (World.cell?_of_block (a := ⟨g, j, none⟩) (hk g hg)).symm
theorem LRow.below {w w' : World} {base : Nat} {e : TypeId} {size : Nat} {v : Value} {n : Nat} {xs : List Value} (h : LRow w base e size v n xs) (hb : Below w.heap.size w w') : LRow w' base e size v n xs :=
 h.keep fun g hg => hb.block g (h.lt hg).1
theorem LRow.grown {w w' : World} {base : Nat} {e : TypeId} {size : Nat} {v : Value} {n : Nat} {xs : List Value} {row : Option Nat} (h : LRow w base e size v n xs) (hb : w.grownBy w' row) (hne : ∀ g, v.ownBlock = some g → some g ≠ row) : LRow w' base e size v n xs :=
 h.keep fun g hg => hb.block g (h.lt hg).1 (hne g hg)

theorem IsRow.grown {k : IntKind} (hk : k = .u64 ∨ k = .u32) {w w' : World} {v : Value} {ds : List Nat} {row : Option Nat} (h : IsRow k w v ds) (hg : w.grownBy w' row) (hr : ∀ g, row = some g → NoDig w g) : IsRow k w' v ds := by
 rcases h with ⟨rfl, ao, cap, rfl, h2, h3⟩ | ⟨h0, b, off, cap, rfl, h1, h2, h3, h4⟩
 ·
  exact .inl ⟨rfl, ao, cap, rfl, h2, h3⟩
 ·
  have hne : some b ≠ row := by
   intro e
   have := hr b e.symm off _ (h4 0 h0)
   rcases hk with rfl | rfl
   ·
    exact (this _).1 rfl
   ·
    exact (this _).2 rfl
  refine .inr ⟨h0, b, off, cap, rfl, h1, h2, Nat.lt_of_lt_of_le h3 hg.size, fun j hj => ?_⟩
  rw [← h4 j hj]
  exact World.cell?_of_block (a := ⟨b, off + j, none⟩) (hg.block b h3 hne)

theorem run_append_lrow {P : Program} (w : World) (t ty : TypeId) (base : Nat) (e : TypeId) (i : TypeInfo) (z : Value) (size bytes : Nat) (ht : P.underlying t = some (.slice e)) (hi : P.info? e = some i) (hz : i.zero = some z)
  (hsize : i.size = size) (hby : i.bytes = bytes) (hzs : z.cells.size = size) (hsz : 0 < size) (hzd : ∀ u ∈ z.cells.toList, noDig u)
  (v : Value) (n : Nat) (xs : List Value) (hown : LRow w base e size v n xs)
  (ad : Addr) (m c : Nat) (news : List Value) (hl : news.length = m * size) (hnews : ∀ j u, news[j]? = some u → w.cell? (ad.add j) = some u) (h1 : ∀ u ∈ news, u.oneCell' = true) (hnd : ∀ u ∈ news, noDig u)
  (hm : 0 < m) (h63 : n + m ≤ maxLen) (hbytes : (n + m) * bytes ≤ 140737488355328) (hbase : base ≤ w.heap.size) :
  ∃ g cap w', (Builtin.append_ #[t, t] ty #[v, .slice (some ad) m c]).run P w = .ok (.slice (some ⟨g, 0, none⟩) (n + m) cap) w' ∧
   LRow w' base e size (.slice (some ⟨g, 0, none⟩) (n + m) cap) (n + m) (xs ++ news) ∧ w.grownBy w' v.ownBlock ∧ (v.ownBlock = some g ∨ g = w.heap.size) := by
 obtain ⟨g, cap, w', hr, h2, h3, h4, h5⟩ := run_append_lies (P := P) w t ty base e i z size bytes ht hi hz hsize hby hzs hsz v n xs hown.1 ad m c news hl hnews h1 hm h63 hbytes hbase w.heap.size rfl
 refine ⟨g, cap, w', hr, ⟨h2, ?_⟩, h3, h4⟩
 intro g' hg'
 obtain rfl : g = g' := by simpa [Value.ownBlock] using hg'
 subst hsize
 subst hby
 have h63' : n + m ≤ 9223372036854775807 := by unfold maxLen at h63; omega
 have hzc : ∀ k, ∀ u ∈ (Builtin.zeroCells z.cells k).toList, noDig u := by
  intro k u hu
  refine hzd u ?_
  simp only [Builtin.zeroCells] at hu
  simp at hu
  obtain ⟨j, h1, h2⟩ := hu
  have hp : 0 < z.cells.size := by omega
  have hlt : j % z.cells.size < z.cells.size := Nat.mod_lt _ hp
  rw [← h2, getElem!_pos z.cells _ hlt]
  simp
 rcases hown.1.2 with ⟨rfl, rfl⟩ | ⟨g1, cap1, cur, rfl, hbg, hg, hnc, hcm, hcs, htake⟩
 ·
  have hr2 := run_append_nil (P := P) w t ty e i z ht hi hz ad m c news hl hnews hm (by omega) (by have hb := hbytes; simp only [Nat.zero_add] at hb; omega)
  rw [hr2] at hr
  simp only [Result.ok.injEq, Value.slice.injEq, Option.some.injEq, Addr.mk.injEq] at hr
  obtain ⟨⟨⟨rfl, _⟩, _⟩, rfl⟩ := hr
  refine NoDig.of_block (heap_alloc_new w.drew _) ?_
  intro u hu
  simp only [Array.toList_append, List.mem_append] at hu
  rcases hu with hu | hu
  ·
   exact hnd u (by simpa using hu)
  ·
   exact hzc _ u hu
 ·
  by_cases hroom : n + m ≤ cap1
  ·
   have hfit : n * i.size + news.length ≤ cur.size := by rw [hl, hcs, ← Nat.add_mul]; exact Nat.mul_le_mul_right _ hroom
   have hr2 := run_append_room (P := P) w t ty e i ht hi g1 n cap1 cur hg ad m c news hl hnews h1 hroom hfit
   rw [hr2] at hr
   simp only [Result.ok.injEq, Value.slice.injEq, Option.some.injEq, Addr.mk.injEq] at hr
   obtain ⟨⟨⟨rfl, _⟩, _⟩, rfl⟩ := hr
   have hold : ∀ u ∈ cur.toList, noDig u := by
    intro u hu
    obtain ⟨j, hj, rfl⟩ := List.getElem_of_mem hu
    refine hown.2 g1 rfl j _ ?_
    rw [cell_of_row w g1 j cur e (0, 0) hg]
    simp at hj
    simp [hj]
   refine NoDig.of_block (setRow_heap w g1 cur _ e _ hg) ?_
   intro u hu
   simp only [List.append_assoc, List.mem_append] at hu
   rcases hu with hu | hu | hu
   ·
    exact hold u (List.mem_of_mem_take hu)
   ·
    exact hnd u hu
   ·
    exact hold u (List.mem_of_mem_drop hu)
  ·
   have holds : ∀ j u, xs[j]? = some u → w.cell? ((⟨g1, 0, none⟩ : Addr).add j) = some u := hown.1.cells (g := g1) rfl
   have hr2 := run_append_grow (P := P) w t ty e i z ht hi hz ⟨g1, 0, none⟩ n cap1 xs hown.1.1 holds ad m c news hl hnews (by omega) (by omega) (growslice_fits (by omega) hbytes)
   rw [hr2] at hr
   simp only [Result.ok.injEq, Value.slice.injEq, Option.some.injEq, Addr.mk.injEq] at hr
   obtain ⟨⟨⟨rfl, _⟩, _⟩, rfl⟩ := hr
   have hold : ∀ u ∈ xs, noDig u := by
    intro u hu
    obtain ⟨j, hj, rfl⟩ := List.getElem_of_mem hu
    have hx := holds j xs[j] (by simp [hj])
    have ha : (⟨g1, 0, none⟩ : Addr).add j = ⟨g1, j, none⟩ := by unfold Addr.add; split <;> simp_all
    rw [ha] at hx
    exact hown.2 g1 rfl j _ hx
   refine NoDig.of_block (heap_alloc_new w.drew _) ?_
   intro u hu
   simp only [Array.toList_append, List.mem_append] at hu
   rcases hu with (hu | hu) | hu
   ·
    exact hold u hu
   ·
    exact hnd u hu
   ·
    exact hzc _ u hu

theorem wp_append_lrow {P : Program} (w : World) {o : Oper} {a : Act} {K : Act → World → Prop} {Q : Exit → Act → World → Prop} (s x : Operand) (t : TypeId)
  (ho : o.op = .call { callee := .builtin .append, args := #[s, x], argTypes := #[t, t] })
  (base : Nat) (e : TypeId) (i : TypeInfo) (z : Value) (size bytes : Nat) (ht : P.underlying t = some (.slice e)) (hi : P.info? e = some i) (hz : i.zero = some z)
  (hsize : i.size = size) (hby : i.bytes = bytes) (hzs : z.cells.size = size) (hsz : 0 < size) (hzd : ∀ u ∈ z.cells.toList, noDig u)
  (v : Value) (n : Nat) (xs : List Value) (hs : a.eval s = v) (hown : LRow w base e size v n xs)
  (ad : Addr) (m c : Nat) (news : List Value) (hx : a.eval x = .slice (some ad) m c) (hl : news.length = m * size) (hnews : ∀ j u, news[j]? = some u → w.cell? (ad.add j) = some u) (h1 : ∀ u ∈ news, u.oneCell' = true) (hnd : ∀ u ∈ news, noDig u)
  (hm : 0 < m) (h63 : n + m ≤ maxLen) (hbytes : (n + m) * bytes ≤ 140737488355328) (hbase : base ≤ w.heap.size)
  (h : ∀ g cap w', LRow w' base e size (.slice (some ⟨g, 0, none⟩) (n + m) cap) (n + m) (xs ++ news) → w.grownBy w' v.ownBlock → (v.ownBlock = some g ∨ g = w.heap.size) → K (a.put o.dst (.slice (some ⟨g, 0, none⟩) (n + m) cap)) w') : o.wp P a w K Q := by
 obtain ⟨g, cap, w', hr, h2, h3, h4⟩ := run_append_lrow (P := P) w t o.type base e i z size bytes ht hi hz hsize hby hzs hsz hzd v n xs hown ad m c news hl hnews h1 hnd hm h63 hbytes hbase
 unfold Oper.wp execOp
 simp only [ho, resolve, invoke, builtin, Sem.run_bind, Sem.run_pure, Result.andThen_ok, List.map_toArray, List.map_cons, List.map_nil, hs, hx, hr]
 exact h g cap w' h2 h3 h4

theorem wpList_append_lrow {P : Program} (w : World) {ops : Array Oper} {rest : List Oper} {o : Oper} {a : Act} {Q : Exit → Act → World → Prop} (hgd : o.guard = none) (s x : Operand) (t : TypeId)
  (ho : o.op = .call { callee := .builtin .append, args := #[s, x], argTypes := #[t, t] })
  (base : Nat) (e : TypeId) (i : TypeInfo) (z : Value) (size bytes : Nat) (ht : P.underlying t = some (.slice e)) (hi : P.info? e = some i) (hz : i.zero = some z)
  (hsize : i.size = size) (hby : i.bytes = bytes) (hzs : z.cells.size = size) (hsz : 0 < size) (hzd : ∀ u ∈ z.cells.toList, noDig u)
  (v : Value) (n : Nat) (xs : List Value) (hs : a.eval s = v) (hown : LRow w base e size v n xs)
  (ad : Addr) (m c : Nat) (news : List Value) (hx : a.eval x = .slice (some ad) m c) (hl : news.length = m * size) (hnews : ∀ j u, news[j]? = some u → w.cell? (ad.add j) = some u) (h1 : ∀ u ∈ news, u.oneCell' = true) (hnd : ∀ u ∈ news, noDig u)
  (hm : 0 < m) (h63 : n + m ≤ maxLen) (hbytes : (n + m) * bytes ≤ 140737488355328) (hbase : base ≤ w.heap.size)
  (h : ∀ g cap w', LRow w' base e size (.slice (some ⟨g, 0, none⟩) (n + m) cap) (n + m) (xs ++ news) → w.grownBy w' v.ownBlock → (v.ownBlock = some g ∨ g = w.heap.size) → wpList P ops Q rest (a.put o.dst (.slice (some ⟨g, 0, none⟩) (n + m) cap)) w') : wpList P ops Q (o :: rest) a w :=
 wpList_plain hgd fun _ hK => wp_append_lrow w s x t ho base e i z size bytes ht hi hz hsize hby hzs hsz hzd v n xs hs hown ad m c news hx hl hnews h1 hnd hm h63 hbytes hbase fun g cap w' h2 h3 h4 => hK _ _ (h g cap w' h2 h3 h4)

theorem step_append_lrow {P : Program} (w : World) {ops : Array Oper} {o : Oper} {a : Act} {K : Act → World → Prop} {Q : Exit → Act → World → Prop} {E : Prop} (hgd : o.guard = none) (s x : Operand) (t : TypeId)
  (ho : o.op = .call { callee := .builtin .append, args := #[s, x], argTypes := #[t, t] })
  (base : Nat) (e : TypeId) (i : TypeInfo) (z : Value) (size bytes : Nat) (ht : P.underlying t = some (.slice e)) (hi : P.info? e = some i) (hz : i.zero = some z)
  (hsize : i.size = size) (hby : i.bytes = bytes) (hzs : z.cells.size = size) (hsz : 0 < size) (hzd : ∀ u ∈ z.cells.toList, noDig u)
  (v : Value) (n : Nat) (xs : List Value) (hs : a.eval s = v) (hown : LRow w base e size v n xs)
  (ad : Addr) (m c : Nat) (news : List Value) (hx : a.eval x = .slice (some ad) m c) (hl : news.length = m * size) (hnews : ∀ j u, news[j]? = some u → w.cell? (ad.add j) = some u) (h1 : ∀ u ∈ news, u.oneCell' = true) (hnd : ∀ u ∈ news, noDig u)
  (hm : 0 < m) (h63 : n + m ≤ maxLen) (hbytes : (n + m) * bytes ≤ 140737488355328) (hbase : base ≤ w.heap.size)
  (h : ∀ g cap w', LRow w' base e size (.slice (some ⟨g, 0, none⟩) (n + m) cap) (n + m) (xs ++ news) → w.grownBy w' v.ownBlock → (v.ownBlock = some g ∨ g = w.heap.size) → K (a.put o.dst (.slice (some ⟨g, 0, none⟩) (n + m) cap)) w') :
  if Region.wanted o (yielded ops a.tmps) = true then Oper.wp P o a w K Q else E := by
 have hw : Region.wanted o (yielded ops a.tmps) = true := by simp [Region.wanted, hgd]
 rw [if_pos hw]
 exact wp_append_lrow w s x t ho base e i z size bytes ht hi hz hsize hby hzs hsz hzd v n xs hs hown ad m c news hx hl hnews h1 hnd hm h63 hbytes hbase h

end Go.Proofs.YtofijjomfhmbjaaGreat

namespace Go.Proofs.YtofijjomfhmbjaaGreat
open Go.RowKit

def EntAt (R : World → Value → Rat → Prop) (w : World) (b o : Nat) (e : Rat × Int) : Prop :=
 ∃ v0 vn vd, w.cell? ⟨b, o, none⟩ = some v0 ∧ w.cell? ⟨b, o + 1, none⟩ = some vn ∧ w.cell? ⟨b, o + 2, none⟩ = some vd ∧ w.cell? ⟨b, o + 3, none⟩ = some (.int .i64 e.2) ∧ R w (.agg #[v0, vn, vd]) e.1
def EntsOf (R : World → Value → Rat → Prop) (w : World) (v : Value) (es : List (Rat × Int)) : Prop :=
 ∃ ao cap, v = .slice ao es.length cap ∧ (0 < es.length → ∃ b off, ao = some ⟨b, off, none⟩ ∧ b < w.heap.size ∧ ∀ i, i < es.length → EntAt R w b (off + i * 4) (es.getD i (0, 0)))

theorem EntAt.below {R : World → Value → Rat → Prop} (hR : ∀ w w' v q, R w v q → Below w.heap.size w w' → R w' v q) {w w' : World} {b o : Nat} {e : Rat × Int} (h : EntAt R w b o e) (hb : Below w.heap.size w w') (hl : b < w.heap.size) : EntAt R w' b o e := by
 obtain ⟨v0, vn, vd, h0, h1, h2, h3, h4⟩ := h
 have c : ∀ j v, w.cell? ⟨b, j, none⟩ = some v → w'.cell? ⟨b, j, none⟩ = some v := fun j v h => (hb.cell (p := ⟨b, j, none⟩) hl).trans h
 exact ⟨v0, vn, vd, c _ _ h0, c _ _ h1, c _ _ h2, c _ _ h3, hR _ _ _ _ h4 hb⟩
theorem EntsOf.below {R : World → Value → Rat → Prop} (hR : ∀ w w' v q, R w v q → Below w.heap.size w w' → R w' v q) {w w' : World} {v : Value} {es : List (Rat × Int)} (h : EntsOf R w v es) (hb : Below w.heap.size w w') : EntsOf R w' v es := by
 obtain ⟨ao, cap, rfl, h⟩ := h
 refine ⟨ao, cap, rfl, fun hl => ?_⟩
 obtain ⟨b, off, rfl, hlt, h⟩ := h hl
 exact ⟨b, off, rfl, Nat.lt_of_lt_of_le hlt hb.size, fun i hi => (h i hi).below hR hb hlt⟩

def rateUp (es : List (Rat × Int)) (T : Rat) : Int := es.foldl (fun acc e => if cmpR e.1 T ≤ 0 then e.2 else acc) 0
theorem rateUp_take (es : List (Rat × Int)) (T : Rat) (i : Nat) (hi : i < es.length) :
  rateUp (es.take (i + 1)) T = if cmpR (es.getD i (0, 0)).1 T ≤ 0 then (es.getD i (0, 0)).2 else rateUp (es.take i) T := by
 unfold rateUp
 rw [List.take_add_one, List.foldl_append]
 simp [hi]

end Go.Proofs.YtofijjomfhmbjaaGreat

namespace Go.Proofs.YtofijjomfhmbjaaGreat
open Go.RowKit

def firstErr (f : Nat → Int) : Nat → Int
 | 0 => 0
 | k + 1 => if firstErr f k = 0 then f k else firstErr f k
theorem firstErr_step {f : Nat → Int} {i : Nat} (h : firstErr f i = 0) : firstErr f (i + 1) = f i := by simp [firstErr, h]
theorem firstErr_stay {f : Nat → Int} {i n : Nat} (h : firstErr f i ≠ 0) (hn : i ≤ n) : firstErr f n = firstErr f i := by
 obtain ⟨k, rfl⟩ : ∃ k, n = i + k := ⟨n - i, by omega⟩
 induction k with
 | zero => rfl
 | succ k ih =>
  have := ih (by omega)
  show (if firstErr f (i + k) = 0 then f (i + k) else firstErr f (i + k)) = _
  rw [this, if_neg h]

def entErr (es : List (Rat × Int)) (i : Nat) : Int :=
 if 0 < i ∧ cmpR (es.getD i (0, 0)).1 (es.getD (i - 1) (0, 0)).1 ≤ 0 then 7
 else if (es.getD i (0, 0)).2 < 0 ∨ 1000 < (es.getD i (0, 0)).2 ∨ (0 < i ∧ (es.getD i (0, 0)).2 < (es.getD (i - 1) (0, 0)).2) then 1 else 0
def tabErr (es : List (Rat × Int)) : Int := if es.length < 1 ∨ 16 < es.length then 4 else firstErr (entErr es) es.length

end Go.Proofs.YtofijjomfhmbjaaGreat

namespace Go.Proofs.YtofijjomfhmbjaaGreat
open Go.RowKit

def PairAt (w : World) (b o : Nat) (r : Int × Int) : Prop := w.cell? ⟨b, o, none⟩ = some (.int .i64 r.1) ∧ w.cell? ⟨b, o + 1, none⟩ = some (.int .i64 r.2)
def PairsOf (w : World) (v : Value) (ps : List (Int × Int)) : Prop :=
 ∃ ao cap, v = .slice ao ps.length cap ∧ (0 < ps.length → ∃ b off, ao = some ⟨b, off, none⟩ ∧ b < w.heap.size ∧ ∀ i, i < ps.length → PairAt w b (off + i * 2) (ps.getD i (0, 0)))
theorem PairAt.below {w w' : World} {b o : Nat} {r : Int × Int} (h : PairAt w b o r) (hb : Below w.heap.size w w') (hl : b < w.heap.size) : PairAt w' b o r :=
 ⟨(hb.cell (p := ⟨b, o, none⟩) hl).trans h.1, (hb.cell (p := ⟨b, o + 1, none⟩) hl).trans h.2⟩
theorem PairsOf.below {w w' : World} {v : Value} {ps : List (Int × Int)} (h : PairsOf w v ps) (hb : Below w.heap.size w w') : PairsOf w' v ps := by
 obtain ⟨ao, cap, rfl, h⟩ := h
 refine ⟨ao, cap, rfl, fun hl => ?_⟩
 obtain ⟨b, off, rfl, hlt, h⟩ := h hl
 exact ⟨b, off, rfl, Nat.lt_of_lt_of_le hlt hb.size, fun i hi => (h i hi).below hb hlt⟩

end Go.Proofs.YtofijjomfhmbjaaGreat

namespace Go.Proofs.YtofijjomfhmbjaaGreat
open Go.RowKit

def timeB (n : Int) : Bool := decide (0 ≤ n) && decide (n ≤ 1073741824)
end Go.Proofs.YtofijjomfhmbjaaGreat

namespace Go.Proofs.YtofijjomfhmbjaaGreat
open Go.RowKit

def sgn32 : Nat := 2147483648
def inf32 : Nat := 2139095040
def tempOk (b : Nat) : Bool := decide (b % sgn32 < inf32)

end Go.Proofs.YtofijjomfhmbjaaGreat

namespace Go.Proofs.YtofijjomfhmbjaaGreat
open Go.RowKit

def tempQ (b : Nat) : Rat := if tempOk b = true then fval ((floatToFloatBits .f32 b .f64).getD 0) else 0
end Go.Proofs.YtofijjomfhmbjaaGreat

namespace Go.Proofs.YtofijjomfhmbjaaGreat
open Go.RowKit

def RdAt (w : World) (b o : Nat) (r : Int × Nat) : Prop := w.cell? ⟨b, o, none⟩ = some (.int .i64 r.1) ∧ w.cell? ⟨b, o + 1, none⟩ = some (.float .f32 r.2)
def LogOf (w : World) (v : Value) (ls : List (Int × Nat)) : Prop :=
 ∃ ao cap, v = .slice ao ls.length cap ∧ (0 < ls.length → ∃ b off, ao = some ⟨b, off, none⟩ ∧ b < w.heap.size ∧ ∀ i, i < ls.length → RdAt w b (off + i * 2) (ls.getD i (0, 0)))
theorem RdAt.below {w w' : World} {b o : Nat} {r : Int × Nat} (h : RdAt w b o r) (hb : Below w.heap.size w w') (hl : b < w.heap.size) : RdAt w' b o r :=
 ⟨(hb.cell (p := ⟨b, o, none⟩) hl).trans h.1, (hb.cell (p := ⟨b, o + 1, none⟩) hl).trans h.2⟩
theorem LogOf.below {w w' : World} {v : Value} {ls : List (Int × Nat)} (h : LogOf w v ls) (hb : Below w.heap.size w w') : LogOf w' v ls := by
 obtain ⟨ao, cap, rfl, h⟩ := h
 refine ⟨ao, cap, rfl, fun hl => ?_⟩
 obtain ⟨b, off, rfl, hlt, h⟩ := h hl
 exact ⟨b, off, rfl, Nat.lt_of_lt_of_le hlt hb.size, fun i hi => (h i hi).below hb hlt⟩

def rdErr (ls : List (Int × Nat)) (i : Nat) : Int :=
 if timeB (ls.getD i (0, 0)).1 = false ∨ tempOk (ls.getD i (0, 0)).2 = false then 1
 else if 0 < i ∧ (ls.getD i (0, 0)).1 ≤ (ls.getD (i - 1) (0, 0)).1 then 7 else 0
def logErr (ls : List (Int × Nat)) : Int := if 256 < ls.length then 4 else firstErr (rdErr ls) ls.length

end Go.Proofs.YtofijjomfhmbjaaGreat

namespace Go.Proofs.YtofijjomfhmbjaaGreat
open Go.RowKit

def bothI (f t a b : Int) : Int := max 0 (min t b - max f a)

end Go.Proofs.YtofijjomfhmbjaaGreat

namespace Go.Proofs.YtofijjomfhmbjaaGreat
open Go.RowKit

theorem firstErr_all {f : Nat → Int} {n : Nat} (h : firstErr f n = 0) : ∀ i, i < n → f i = 0 := by
 induction n with
 | zero => intro i hi; omega
 | succ n ih =>
  intro i hi
  have h0 : firstErr f n = 0 := by
   rcases Classical.em (firstErr f n = 0) with h1 | h1
   ·
    exact h1
   ·
    have := firstErr_stay h1 (Nat.le_succ n)
    rw [this] at h
    exact absurd h h1
  rw [firstErr_step h0] at h
  rcases Nat.lt_or_ge i n with h1 | h1
  ·
   exact ih h0 i h1
  ·
   obtain rfl : i = n := by omega
   exact h

theorem tab_ok {es : List (Rat × Int)} (h : tabErr es = 0) : 0 < es.length ∧ es.length ≤ 16 ∧ ∀ i, i < es.length → 0 ≤ (es.getD i (0, 0)).2 ∧ (es.getD i (0, 0)).2 ≤ 1000 := by
 unfold tabErr at h
 split at h
 ·
  omega
 ·
  rename_i hl
  refine ⟨by omega, by omega, fun i hi => ?_⟩
  have := firstErr_all h i hi
  unfold entErr at this
  split at this
  ·
   omega
  ·
   split at this
   ·
    omega
   ·
    omega

theorem rateUp_range {es : List (Rat × Int)} (h : ∀ i, i < es.length → 0 ≤ (es.getD i (0, 0)).2 ∧ (es.getD i (0, 0)).2 ≤ 1000) (T : Rat) : 0 ≤ rateUp es T ∧ rateUp es T ≤ 1000 := by
 have key : ∀ i, i ≤ es.length → 0 ≤ rateUp (es.take i) T ∧ rateUp (es.take i) T ≤ 1000 := by
  intro i
  induction i with
  | zero => intro _; simp [rateUp]
  | succ i ih =>
   intro hi
   rw [rateUp_take es T i (by omega)]
   split
   ·
    exact h i (by omega)
   ·
    exact ih (by omega)
 have := key es.length (Nat.le_refl _)
 rwa [List.take_length] at this

theorem log_ok {ls : List (Int × Nat)} (h : logErr ls = 0) : ls.length ≤ 256 ∧ ∀ i, i < ls.length → 0 ≤ (ls.getD i (0, 0)).1 ∧ (ls.getD i (0, 0)).1 ≤ 1073741824 ∧ tempOk (ls.getD i (0, 0)).2 = true := by
 unfold logErr at h
 split at h
 ·
  omega
 ·
  refine ⟨by omega, fun i hi => ?_⟩
  have := firstErr_all h i hi
  unfold rdErr at this
  split at this
  ·
   omega
  ·
   rename_i hn
   have h1 : timeB (ls.getD i (0, 0)).1 = true := by
    cases h : timeB (ls.getD i (0, 0)).1
    ·
     exact absurd (.inl h) hn
    ·
     rfl
   have h2 : tempOk (ls.getD i (0, 0)).2 = true := by
    cases h : tempOk (ls.getD i (0, 0)).2
    ·
     exact absurd (.inr h) hn
    ·
     rfl
   unfold timeB at h1
   simp at h1
   exact ⟨h1.1, h1.2, h2⟩

def hotI (es : List (Rat × Int)) : Int := (es.getD (es.length - 1) (0, 0)).2
def rateI (es : List (Rat × Int)) (gap : Int) (ls : List (Int × Nat)) (i : Nat) : Int :=
 if 0 < i ∧ (ls.getD i (0, 0)).1 - (ls.getD (i - 1) (0, 0)).1 ≤ gap then max (rateUp es (tempQ (ls.getD (i - 1) (0, 0)).2)) (rateUp es (tempQ (ls.getD i (0, 0)).2)) else hotI es
def lastT (ls : List (Int × Nat)) (i : Nat) : Int := if i = 0 then 0 else (ls.getD (i - 1) (0, 0)).1
structure GoodLog (es : List (Rat × Int)) (ls : List (Int × Nat)) (f t : Int) : Prop where
 tab : tabErr es = 0
 log : logErr ls = 0
 f0 : 0 ≤ f
 f1 : f ≤ 1073741824
 t0 : 0 ≤ t
 t1 : t ≤ 1073741824

theorem GoodLog.hot {es : List (Rat × Int)} {ls : List (Int × Nat)} {f t : Int} (h : GoodLog es ls f t) : 0 ≤ hotI es ∧ hotI es ≤ 1000 := by
 obtain ⟨h1, h2, h3⟩ := tab_ok h.tab
 exact h3 _ (by omega)
theorem GoodLog.up {es : List (Rat × Int)} {ls : List (Int × Nat)} {f t : Int} (h : GoodLog es ls f t) (T : Rat) : 0 ≤ rateUp es T ∧ rateUp es T ≤ 1000 := rateUp_range (tab_ok h.tab).2.2 T
theorem GoodLog.rate {es : List (Rat × Int)} {ls : List (Int × Nat)} {f t : Int} (h : GoodLog es ls f t) (gap : Int) (i : Nat) : 0 ≤ rateI es gap ls i ∧ rateI es gap ls i ≤ 1000 := by
 unfold rateI
 split
 ·
  have a := h.up (tempQ (ls.getD (i - 1) (0, 0)).2)
  have b := h.up (tempQ (ls.getD i (0, 0)).2)
  omega
 ·
  exact h.hot
theorem GoodLog.last {es : List (Rat × Int)} {ls : List (Int × Nat)} {f t : Int} (h : GoodLog es ls f t) (i : Nat) (hi : i ≤ ls.length) : 0 ≤ lastT ls i ∧ lastT ls i ≤ 1073741824 := by
 unfold lastT
 split
 ·
  omega
 ·
  have := (log_ok h.log).2 (i - 1) (by omega)
  omega
theorem GoodLog.both {es : List (Rat × Int)} {ls : List (Int × Nat)} {f t : Int} (h : GoodLog es ls f t) (a b : Int) : 0 ≤ bothI f t a b ∧ bothI f t a b ≤ 1073741824 := by
 have := h.f0
 have := h.t1
 unfold bothI
 omega
end Go.Proofs.YtofijjomfhmbjaaGreat

namespace Go.Proofs.YtofijjomfhmbjaaGreat
open Go.RowKit

theorem info_int : (Tryz.prog.info? 3).map (fun i => (i.zero, i.size, i.bytes)) = some (some (.int .i64 0), 1, 8) := by kernel_rfl
def idxCells (l : List Nat) : List Value := l.map (fun j : Nat => Value.int .i64 (j : Int))

theorem LRow.isRow {w : World} {base : Nat} {e : TypeId} {v : Value} {l : List Nat} (h : LRow w base e 1 v l.length (idxCells l)) : IsRow .i64 w v l := by
 rcases Nat.eq_zero_or_pos l.length with h0 | hp
 ·
  left
  have hl := List.eq_nil_of_length_eq_zero h0
  refine ⟨hl, ?_⟩
  rcases h.1.2 with ⟨rfl, _⟩ | ⟨g, cap, cur, rfl, _, _, _, hcm, _⟩
  ·
   exact ⟨_, _, rfl, by unfold maxLen; omega, fun _ => rfl⟩
  ·
   exact ⟨_, _, by rw [h0], hcm, by simp⟩
 ·
  obtain ⟨g, cap, rfl⟩ := ownsRow_some h.1 hp
  obtain ⟨ho, h1, h2, _⟩ := Own.of_ownsRow (k := .i64) (ds := l) rfl h.1
  exact ho.isRowCap cap h1 h2

theorem ownBlock_base {w : World} {base : Nat} {e : TypeId} {size : Nat} {v : Value} {n : Nat} {xs : List Value} (h : w.ownsRow base e size v n xs) : ∀ k, v.ownBlock = some k → base ≤ k := by
 intro k hk
 rcases h.2 with ⟨rfl, _⟩ | ⟨g, cap, cur, rfl, hb, _⟩
 ·
  simp [Value.ownBlock] at hk
 ·
  simp [Value.ownBlock] at hk
  omega

end Go.Proofs.YtofijjomfhmbjaaGreat

namespace Go.Proofs.YtofijjomfhmbjaaGreat
open Go.RowKit

theorem IsRat.grown {w w' : World} {v : Value} {q : Rat} {row : Option Nat} (h : IsRat w v q) (hg : w.grownBy w' row) (hr : ∀ g, row = some g → NoDig w g) : IsRat w' v q := by
 obtain ⟨vn, vd, rfl, h1, h2⟩ := h
 exact ⟨vn, vd, rfl, IsRow.grown (.inl rfl) h1 hg hr, IsRow.grown (.inl rfl) h2 hg hr⟩
theorem IsR.grown {w w' : World} {v : Value} {q : Rat} {row : Option Nat} (h : IsR w v q) (hg : w.grownBy w' row) (hr : ∀ g, row = some g → NoDig w g) : IsR w' v q := by
 obtain ⟨vn, vd, d', rfl, h1, h2, h3⟩ := h
 exact ⟨vn, vd, d', rfl, IsRow.grown (.inr rfl) h1 hg hr, IsRow.grown (.inr rfl) h2 hg hr, h3⟩

def TabRow (R : World → Value → Rat → Prop) (w : World) (xs : List Value) (es : List (Rat × Int)) : Prop :=
 xs.length = es.length * 4 ∧ ∀ j, j < es.length → ∃ v0 vn vd, xs[j * 4]? = some v0 ∧ xs[j * 4 + 1]? = some vn ∧ xs[j * 4 + 2]? = some vd ∧ xs[j * 4 + 3]? = some (.int .i64 (es.getD j (0, 0)).2) ∧ R w (.agg #[v0, vn, vd]) (es.getD j (0, 0)).1
theorem TabRow.mono {R : World → Value → Rat → Prop} {w w' : World} {xs : List Value} {es : List (Rat × Int)} (h : TabRow R w xs es) (hr : ∀ v q, R w v q → R w' v q) : TabRow R w' xs es :=
 ⟨h.1, fun j hj => by obtain ⟨v0, vn, vd, h0, h1, h2, h3, h4⟩ := h.2 j hj; exact ⟨v0, vn, vd, h0, h1, h2, h3, hr _ _ h4⟩⟩
theorem TabRow.nil (R : World → Value → Rat → Prop) (w : World) : TabRow R w [] [] := ⟨rfl, fun j hj => absurd hj (by simp)⟩
theorem TabRow.snoc {R : World → Value → Rat → Prop} {w : World} {xs : List Value} {es : List (Rat × Int)} (h : TabRow R w xs es) {v0 vn vd : Value} {q : Rat} {r : Int} (hq : R w (.agg #[v0, vn, vd]) q) :
  TabRow R w (xs ++ [v0, vn, vd, .int .i64 r]) (es ++ [(q, r)]) := by
 obtain ⟨hl, h⟩ := h
 refine ⟨by simp [hl]; omega, fun j hj => ?_⟩
 rcases Nat.lt_or_ge j es.length with h1 | h1
 ·
  obtain ⟨u0, un, ud, h0, h2, h3, h4, h5⟩ := h j h1
  have e : ∀ k, k < 4 → (xs ++ [v0, vn, vd, .int .i64 r])[j * 4 + k]? = xs[j * 4 + k]? := fun k hk => List.getElem?_append_left (by omega)
  have e2 : (es ++ [(q, r)]).getD j (0, 0) = es.getD j (0, 0) := by simp [List.getD, List.getElem?_append_left h1]
  rw [e2]
  exact ⟨u0, un, ud, by rw [← h0]; exact e 0 (by omega), by rw [← h2]; exact e 1 (by omega), by rw [← h3]; exact e 2 (by omega), by rw [← h4]; exact e 3 (by omega), h5⟩
 ·
  obtain rfl : j = es.length := by simp at hj; omega
  have e : ∀ k, (xs ++ [v0, vn, vd, .int .i64 r])[es.length * 4 + k]? = ([v0, vn, vd, .int .i64 r] : List Value)[k]? := fun k => by rw [List.getElem?_append_right (by omega), hl]; congr 1; omega
  have e2 : (es ++ [(q, r)]).getD es.length (0, 0) = (q, r) := by simp [List.getD]
  rw [e2]
  exact ⟨v0, vn, vd, e 0, e 1, e 2, e 3, hq⟩
theorem EntsOf.ofRow {R : World → Value → Rat → Prop} {w : World} {base : Nat} {e : TypeId} {v : Value} {xs : List Value} {es : List (Rat × Int)} (h : LRow w base e 4 v es.length xs) (ht : TabRow R w xs es) : EntsOf R w v es := by
 rcases Nat.eq_zero_or_pos es.length with h0 | hp
 ·
  rcases h.1.2 with ⟨rfl, _⟩ | ⟨g, cap, cur, rfl, _⟩
  ·
   exact ⟨none, 0, by rw [h0], fun h => absurd h (by omega)⟩
  ·
   exact ⟨_, _, rfl, fun h => absurd h (by omega)⟩
 ·
  obtain ⟨g, cap, rfl⟩ := ownsRow_some h.1 hp
  have hc : ∀ j u, xs[j]? = some u → w.cell? ((⟨g, 0, none⟩ : Addr).add j) = some u := h.1.cells (g := g) rfl
  have hlt : g < w.heap.size := (h.lt rfl).1
  refine ⟨_, _, rfl, fun _ => ⟨g, 0, rfl, hlt, fun i hi => ?_⟩⟩
  obtain ⟨v0, vn, vd, h0, h1, h2, h3, h4⟩ := ht.2 i hi
  have ea : ∀ j, (⟨g, 0, none⟩ : Addr).add j = ⟨g, 0 + j, none⟩ := fun j => by unfold Addr.add; split <;> simp_all
  refine ⟨v0, vn, vd, ?_, ?_, ?_, ?_, h4⟩
  ·
   rw [← ea]; exact hc _ _ h0
  ·
   rw [show 0 + i * 4 + 1 = 0 + (i * 4 + 1) by omega, ← ea]; exact hc _ _ h1
  ·
   rw [show 0 + i * 4 + 2 = 0 + (i * 4 + 2) by omega, ← ea]; exact hc _ _ h2
  ·
   rw [show 0 + i * 4 + 3 = 0 + (i * 4 + 3) by omega, ← ea]; exact hc _ _ h3

theorem LRow.apart {w : World} {base : Nat} {eA eB : TypeId} {sA sB : Nat} {va vb : Value} {n m : Nat} {xs ys : List Value} (h : LRow w base eA sA va n xs) (k : LRow w base eB sB vb m ys) (hne : eA ≠ eB) : ∀ g, vb.ownBlock = some g → some g ≠ va.ownBlock := by
 intro g hg e
 rcases h.1.2 with ⟨rfl, _⟩ | ⟨g1, c1, cur1, rfl, _, hh1, _⟩
 ·
  simp [Value.ownBlock] at e
 ·
  rcases k.1.2 with ⟨rfl, _⟩ | ⟨g2, c2, cur2, rfl, _, hh2, _⟩
  ·
   simp [Value.ownBlock] at hg
  ·
   simp [Value.ownBlock] at e hg
   subst e hg
   rw [hh1] at hh2
   simp at hh2
   exact hne hh2.2

def LawAt (w : World) (b o : Nat) (t : Int × Int × Int) : Prop := w.cell? ⟨b, o, none⟩ = some (.int .i64 t.1) ∧ w.cell? ⟨b, o + 1, none⟩ = some (.int .i64 t.2.1) ∧ w.cell? ⟨b, o + 2, none⟩ = some (.int .i64 t.2.2)
def LawsOf (w : World) (v : Value) (ts : List (Int × Int × Int)) : Prop :=
 ∃ ao cap, v = .slice ao ts.length cap ∧ (0 < ts.length → ∃ b off, ao = some ⟨b, off, none⟩ ∧ b < w.heap.size ∧ ∀ i, i < ts.length → LawAt w b (off + i * 3) (ts.getD i (0, 0, 0)))
theorem LawAt.below {w w' : World} {b o : Nat} {r : Int × Int × Int} (h : LawAt w b o r) (hb : Below w.heap.size w w') (hl : b < w.heap.size) : LawAt w' b o r :=
 ⟨(hb.cell (p := ⟨b, o, none⟩) hl).trans h.1, (hb.cell (p := ⟨b, o + 1, none⟩) hl).trans h.2.1, (hb.cell (p := ⟨b, o + 2, none⟩) hl).trans h.2.2⟩
theorem LawsOf.below {w w' : World} {v : Value} {ps : List (Int × Int × Int)} (h : LawsOf w v ps) (hb : Below w.heap.size w w') : LawsOf w' v ps := by
 obtain ⟨ao, cap, rfl, h⟩ := h
 refine ⟨ao, cap, rfl, fun hl => ?_⟩
 obtain ⟨b, off, rfl, hlt, h⟩ := h hl
 exact ⟨b, off, rfl, Nat.lt_of_lt_of_le hlt hb.size, fun i hi => (h i hi).below hb hlt⟩
end Go.Proofs.YtofijjomfhmbjaaGreat

namespace Go.Proofs.YtofijjomfhmbjaaGreat
open Go.ChangeShapes Go.WideShapes Go.ChangeAt Go.RowKit

section
variable {H : Type} {enc : TypeId × Value → H} {P : Program} {w : World} {base : Nat} {spare : Nat → Bool} {held : Bool}
theorem trod_float {t : TypeId} {fuel : Nat} {cs : List Value} {x : DataW H × List MemPlace} {k : FloatKind} (ht : P.underlying t = some (.float k)) (h : DataW.trod enc P w base spare held fuel t cs = some x) :
  ∃ n, cs = [.float k n] ∧ x = (.lit (.float k n), []) ∧ (Lit.float k n).wf = true := by
 cases fuel with
 | zero => simp [DataW.trod] at h
 | succ n =>
  unfold DataW.trod at h
  rw [ht] at h
  split at h <;> simp_all

theorem open_rows {r : Reach} {b0 : Nat} {t e : TypeId} {k : Nat} {v : Value} {d : DataW H} {p : List MemPlace} (ht : P.underlying t = some (.slice e)) (hk : P.cellsOf e = k) (hk0 : 0 < k) (Law : List Value → Prop)
  (hlaw : ∀ n cs y, DataW.trod enc P w 0 (fun _ => true) true n e cs = some y → Law cs) (hv : Value.okWide P w r b0 t v) (h : DataW.Trod enc P w 0 (fun _ => true) true t v d p) :
  ∃ ao len cap, v = .slice ao len cap ∧ len ≤ cap ∧ cap ≤ maxLen ∧ (0 < len → ∃ b off, ao = some ⟨b, off, none⟩ ∧ b < w.heap.size ∧ ∀ i, i < len → ∃ cs : List Value, cs.length = k ∧ Law cs ∧ ∀ j, j < k → w.cell? ⟨b, off + i * k + j, none⟩ = cs[j]?) := by
 obtain ⟨ao, len, cap, rfl⟩ := okWide_slice ht hv
 refine ⟨ao, len, cap, rfl, ?_⟩
 obtain ⟨fuel, hf⟩ := h
 rcases Deep.open_slice ht hf with ⟨hcs, _⟩ | ⟨a, len', cap', m, n, D, Pl, hcs, _, hl, hm, hmm, _, hi⟩
 ·
  simp [Value.cells] at hcs
  obtain ⟨rfl, rfl, rfl⟩ := hcs
  exact ⟨Nat.le_refl _, by unfold maxLen; omega, fun h => absurd h (by omega)⟩
 ·
  simp [Value.cells] at hcs
  obtain ⟨rfl, rfl, rfl⟩ := hcs
  refine ⟨hl, hm, fun hlen => ?_⟩
  simp only [if_true] at hmm
  subst hmm
  have key : ∀ i, i < len → ∃ cs : List Value, cs.length = k ∧ Law cs ∧ ∀ j, j < k → w.cell? (a.add (i * k + j)) = cs[j]? := by
   intro i hlt
   obtain ⟨cs', hc, hT⟩ := hi i (by omega)
   rw [hk] at hc
   obtain ⟨_, hcl, hat⟩ := World.cells?_some hc
   exact ⟨cs', hcl, hlaw _ _ _ hT, fun j hj => by rw [← hat j hj, Deep.add_add]⟩
  obtain ⟨b, off, spot⟩ := a
  have hsp : spot = none := by
   obtain ⟨cs, hcl, _, hat⟩ := key 0 hlen
   have h0 := hat 0 hk0
   rw [List.getElem?_eq_getElem (by omega)] at h0
   have := World.cell?_spot h0
   simpa [Addr.add] using this
  subst hsp
  have ea : ∀ j, (⟨b, off, none⟩ : Addr).add j = ⟨b, off + j, none⟩ := fun j => by unfold Addr.add; split <;> simp_all
  refine ⟨b, off, rfl, ?_, fun i hlt => ?_⟩
  ·
   obtain ⟨cs, hcl, _, hat⟩ := key 0 hlen
   have h0 := hat 0 hk0
   rw [List.getElem?_eq_getElem (by omega), ea] at h0
   exact World.block_lt_of_cell? (h := h0)
  ·
   obtain ⟨cs, hcl, hL, hat⟩ := key i hlt
   exact ⟨cs, hcl, hL, fun j hj => by rw [← hat j hj, ea, Nat.add_assoc]⟩
end

theorem choose_list {α : Type} (n : Nat) (d : α) (p : Nat → α → Prop) (h : ∀ i, i < n → ∃ x, p i x) : ∃ l : List α, l.length = n ∧ ∀ i, i < n → p i (l.getD i d) := by
 have h2 : ∀ i, ∃ x, i < n → p i x := fun i => by
  by_cases hi : i < n
  ·
   obtain ⟨x, hx⟩ := h i hi
   exact ⟨x, fun _ => hx⟩
  ·
   exact ⟨d, fun h => absurd h hi⟩
 refine ⟨(List.range n).map fun i => Classical.choose (h2 i), by simp, fun i hi => ?_⟩
 have e : ((List.range n).map fun i => Classical.choose (h2 i)).getD i d = Classical.choose (h2 i) := by simp [hi]
 rw [e]
 exact Classical.choose_spec (h2 i) hi

section
variable {H : Type} {enc : TypeId × Value → H} {w : World}
end

theorem own_knob : ownKnob Tryz.prog.godebug = none := by kernel_rfl
theorem laid_out : laidOutB Tryz.prog = true := by kernel_rfl

end Go.Proofs.YtofijjomfhmbjaaGreat

namespace Go.Proofs.YtofijjomfhmbjaaGreat
open Go.ChangeShapes Go.WideShapes Go.ChangeAt Go.RowKit

inductive Leaf where
 | int (k : IntKind) | float (k : FloatKind) | bool | string
def leafOk : Leaf → Value → Prop
 | .int k, v => ∃ n, v = .int k n ∧ (Lit.int k n).wf = true
 | .float k, v => ∃ n, v = .float k n ∧ (Lit.float k n).wf = true
 | .bool, v => ∃ b, v = .bool b
 | .string, v => ∃ s : ByteArray, v = .string s ∧ s.size ≤ maxLen
def allLeaf : List Leaf → List Value → Prop
 | [], [] => True
 | l :: ls, v :: vs => leafOk l v ∧ allLeaf ls vs
 | _, _ => False
theorem allLeaf_append : ∀ {ls : List Leaf} {vs : List Value} {ls' : List Leaf} {vs' : List Value}, allLeaf ls vs → allLeaf ls' vs' → allLeaf (ls ++ ls') (vs ++ vs')
 | [], [], _, _, _, h => h
 | _ :: _, _ :: _, _, _, ⟨h1, h2⟩, h => ⟨h1, allLeaf_append h2 h⟩
section
variable (P : Program)
def flatFs (fl : TypeId → Option (List Leaf)) : List Field → Nat → Option (List Leaf)
 | [], _ => some []
 | f :: fs, o => if f.offset = o then (fl f.type).bind fun l => if P.cellsOf f.type = l.length then (flatFs fl fs (o + l.length)).map (l ++ ·) else none else none
def flatN (l : List Leaf) : Nat → List Leaf
 | 0 => []
 | n + 1 => flatN l n ++ l
def flat : Nat → TypeId → Option (List Leaf)
 | 0, _ => none
 | n + 1, t => match P.underlying t with
  | some .bool => some [.bool]
  | some (.int k) => some [.int k]
  | some (.float k) => some [.float k]
  | some .string => some [.string]
  | some (.struct fs) => (flatFs P (flat n) fs.toList 0).bind fun l => if P.cellsOf t = l.length then some l else none
  | some (.array m e) => (flat n e).bind fun l => if P.cellsOf e = l.length ∧ P.cellsOf t = m * l.length then some (flatN l m) else none
  | _ => none
end
section
variable {H : Type} {enc : TypeId × Value → H} {P : Program} {w : World}
theorem flatFs_law (fl : TypeId → Option (List Leaf)) (n : Nat) (cs : List Value) (ih : ∀ t l cs y, fl t = some l → DataW.trod enc P w 0 (fun _ => true) true n t cs = some y → allLeaf l cs) :
  ∀ (fs : List Field) (o : Nat) (ls : List Leaf), flatFs P fl fs o = some ls → (∀ f ∈ fs, ∃ y, DataW.trod enc P w 0 (fun _ => true) true n f.type ((cs.drop f.offset).take (P.cellsOf f.type)) = some y) →
   allLeaf ls ((cs.drop o).take ls.length)
 | [], o, ls, h, _ => by
  simp [flatFs] at h
  subst h
  simp [allLeaf]
 | f :: fs, o, ls, h, hf => by
  unfold flatFs at h
  split at h
  ·
   rename_i ho
   subst ho
   rw [Option.bind_eq_some_iff] at h
   obtain ⟨l, h1, h2⟩ := h
   split at h2
   ·
    rename_i hc
    rw [Option.map_eq_some_iff] at h2
    obtain ⟨l2, h3, rfl⟩ := h2
    obtain ⟨y, hy⟩ := hf f (by simp)
    have a1 := ih _ _ _ _ h1 hy
    rw [hc] at a1
    have a2 := flatFs_law fl n cs ih fs _ _ h3 (fun g hg => hf g (by simp [hg]))
    rw [List.length_append, List.take_add, List.drop_drop]
    exact allLeaf_append a1 a2
   ·
    cases h2
  ·
   cases h
theorem trod_array {t e : TypeId} {fuel m : Nat} {cs : List Value} {x : DataW H × List MemPlace} (ht : P.underlying t = some (.array m e)) (h : DataW.trod enc P w 0 (fun _ => true) true fuel t cs = some x) :
  ∃ n, fuel = n + 1 ∧ cs.length = P.cellsOf t ∧ ∀ i, i < m → ∃ y, DataW.trod enc P w 0 (fun _ => true) true n e ((cs.drop (i * P.cellsOf e)).take (P.cellsOf e)) = some y := by
 cases fuel with
 | zero => simp [DataW.trod] at h
 | succ n =>
  unfold DataW.trod at h
  rw [ht] at h
  split at h <;> simp_all
  obtain ⟨hl, xs, hp, hd⟩ := h
  intro i hi
  have hlen := mapM_some_length hp
  have := mapM_some_get hp i i (by simp [hi])
  rw [this]
  simp at hlen
  exact ⟨xs[i].1, xs[i].2, by simp [hlen, hi]⟩
theorem flat_law : ∀ (k : Nat) (t : TypeId) (ls : List Leaf) (n : Nat) (cs : List Value) (y : DataW H × List MemPlace), flat P k t = some ls → DataW.trod enc P w 0 (fun _ => true) true n t cs = some y → allLeaf ls cs := by
 intro k
 induction k with
 | zero => intro t ls n cs y h; simp [flat] at h
 | succ k ih =>
  intro t ls n cs y h ht
  unfold flat at h
  split at h
  ·
   rename_i hu
   obtain ⟨b, rfl, _⟩ := DataW.trod_bool hu ht
   obtain rfl : [Leaf.bool] = ls := by simpa using h
   exact ⟨⟨b, rfl⟩, trivial⟩
  ·
   rename_i kk hu
   obtain ⟨b, rfl, _, hw⟩ := DataW.trod_int hu ht
   obtain rfl : [Leaf.int kk] = ls := by simpa using h
   exact ⟨⟨b, rfl, hw⟩, trivial⟩
  ·
   rename_i kk hu
   obtain ⟨b, rfl, _, hw⟩ := trod_float hu ht
   obtain rfl : [Leaf.float kk] = ls := by simpa using h
   exact ⟨⟨b, rfl, hw⟩, trivial⟩
  ·
   rename_i hu
   obtain ⟨s, rfl, _, hw⟩ := DataW.trod_string hu ht
   obtain rfl : [Leaf.string] = ls := by simpa using h
   exact ⟨⟨s, rfl, hw⟩, trivial⟩
  ·
   rename_i fs hu
   rw [Option.bind_eq_some_iff] at h
   obtain ⟨l, h1, h2⟩ := h
   split at h2
   ·
    rename_i hc
    obtain rfl : l = ls := by simpa using h2
    obtain ⟨xs, m, _, _, hcl, hxl, hf⟩ := DataW.trod_struct hu ht
    have := flatFs_law (enc := enc) (w := w) (flat P k) m cs (fun t l cs y a b => ih t l m cs y a b) fs.toList 0 l h1 (fun f hf' => by
     obtain ⟨i, hi, rfl⟩ := List.getElem_of_mem hf'
     simp at hi
     have e := hf i fs[i] (by simp [hi])
     exact ⟨xs[i], by simp at e ⊢; rw [e]; simp [hxl, hi]⟩)
    rw [List.drop_zero, List.take_of_length_le (by rw [hcl, hc]; exact Nat.le_refl _)] at this
    exact this
   ·
    cases h2
  ·
   rename_i m e hu
   rw [Option.bind_eq_some_iff] at h
   obtain ⟨l, h1, h2⟩ := h
   split at h2
   ·
    rename_i hc
    obtain ⟨hc1, hc2⟩ := hc
    obtain rfl : flatN l m = ls := by simpa using h2
    obtain ⟨n', _, hcl, hE⟩ := trod_array hu ht
    have key : ∀ j, j ≤ m → allLeaf (flatN l j) (cs.take (j * l.length)) := by
     intro j hj
     induction j with
     | zero => simp [flatN, allLeaf]
     | succ j ihj =>
      obtain ⟨y, hy⟩ := hE j (by omega)
      have a1 := ih _ _ _ _ _ h1 hy
      rw [hc1] at a1
      rw [Nat.succ_mul, List.take_add]
      exact allLeaf_append (ihj (by omega)) a1
    have := key m (Nat.le_refl _)
    rw [List.take_of_length_le (by rw [hcl, hc2]; exact Nat.le_refl _)] at this
    exact this
   ·
    cases h2
  ·
   cases h

theorem open_flats {r : Reach} {b0 : Nat} {t e : TypeId} {k : Nat} {ls : List Leaf} {v : Value} {d : DataW H} {p : List MemPlace} (ht : P.underlying t = some (.slice e)) (hk : P.cellsOf e = k) (hk0 : 0 < k) (hfl : flat P 8 e = some ls)
  (hv : Value.okWide P w r b0 t v) (h : DataW.Trod enc P w 0 (fun _ => true) true t v d p) :
  ∃ ao len cap, v = .slice ao len cap ∧ len ≤ cap ∧ cap ≤ maxLen ∧ (0 < len → ∃ b off, ao = some ⟨b, off, none⟩ ∧ b < w.heap.size ∧ ∀ i, i < len → ∃ cs : List Value, cs.length = k ∧ allLeaf ls cs ∧ ∀ j, j < k → w.cell? ⟨b, off + i * k + j, none⟩ = cs[j]?) :=
 open_rows ht hk hk0 (allLeaf ls) (fun n cs y hy => flat_law 8 e ls n cs y hfl hy) hv h
end

end Go.Proofs.YtofijjomfhmbjaaGreat

namespace Go.Proofs.YtofijjomfhmbjaaGreat

/-! ### Sums -/
def sumZ (f : Nat → Int) : Nat → Int
 | 0 => 0
 | k + 1 => sumZ f k + f k
section
variable {n E w : Nat} {X Y L W : Nat → Int}
end

/-! ### Shelves -/
def gP (l : List (Int × Int)) (i : Nat) : Int × Int := l.getD i (0, 0)
section
variable {l : List (Int × Int)} {w : Int} {ord : Nat → Nat} {m : Nat} {sh out : List (Int × Int)} {e : Int}
end

end Go.Proofs.YtofijjomfhmbjaaGreat

namespace Go.Proofs.YtofijjomfhmbjaaGreat

structure PermI (ord : Nat → Nat) (n : Nat) : Prop where
 lt : ∀ j, j < n → ord j < n
 inj : ∀ j k, j < n → k < n → ord j = ord k → j = k
 surj : ∀ i, i < n → ∃ j, j < n ∧ ord j = i
theorem PermI.id (n : Nat) : PermI (fun j => j) n := ⟨fun _ h => h, fun _ _ _ _ h => h, fun i h => ⟨i, h, rfl⟩⟩
def overlapB (l at_ : List (Int × Int)) (i k : Nat) : Bool :=
 decide ((gP at_ i).1 < (gP at_ k).1 + (gP l k).1) && (decide ((gP at_ k).1 < (gP at_ i).1 + (gP l i).1) && (decide ((gP at_ i).2 < (gP at_ k).2 + (gP l k).2) && decide ((gP at_ k).2 < (gP at_ i).2 + (gP l i).2)))
def overTo (l at_ : List (Int × Int)) (i : Nat) : Nat → Bool
 | 0 => false
 | k + 1 => overTo l at_ i k || overlapB l at_ i k
def outB (l : List (Int × Int)) (w : Int) (at_ : List (Int × Int)) (i : Nat) : Bool :=
 !(decide (0 ≤ (gP at_ i).1) && decide ((gP at_ i).1 ≤ 1099511627776)) || (decide ((gP at_ i).2 < 0) || decide ((gP at_ i).2 > w - (gP l i).2))
def endZ (l at_ : List (Int × Int)) : Nat → Int
 | 0 => 0
 | i + 1 => max (endZ l at_ i) ((gP at_ i).1 + (gP l i).1)
theorem overTo_iff (l at_ : List (Int × Int)) (i n : Nat) : overTo l at_ i n = false ↔ ∀ k, k < n → overlapB l at_ i k = false := by
 induction n with
 | zero => simp [overTo]
 | succ n ih =>
  simp only [overTo, Bool.or_eq_false_iff, ih]
  constructor
  ·
   rintro ⟨h1, h2⟩ k hk
   by_cases c : k = n
   ·
    rw [c]; exact h2
   ·
    exact h1 k (by omega)
  ·
   intro h
   exact ⟨fun k hk => h k (by omega), h n (by omega)⟩
def longZ (l : List (Int × Int)) : Nat → Int
 | 0 => 0
 | i + 1 => max (longZ l i) (gP l i).1
def areaZ (l : List (Int × Int)) (n : Nat) : Int := sumZ (fun i => (gP l i).1 * (gP l i).2) n
def aloneZ (l : List (Int × Int)) (w : Int) (n : Nat) : Int := sumZ (fun i => if 2 * (gP l i).2 > w then (gP l i).1 else 0) n
def boundZ (l : List (Int × Int)) (w : Int) : Int := max (max (longZ l l.length) ((areaZ l l.length + w - 1) / w)) (aloneZ l w l.length)
def Pieces (l : List (Int × Int)) (w : Int) : Prop := 1 ≤ w ∧ ∀ i, i < l.length → 1 ≤ (gP l i).1 ∧ 1 ≤ (gP l i).2 ∧ (gP l i).2 ≤ w
end Go.Proofs.YtofijjomfhmbjaaGreat

namespace Go.Proofs.YtofijjomfhmbjaaGreat

def swO (f : Nat → Nat) (j : Nat) : Nat → Nat := fun k => if k = j then f (j - 1) else if k = j - 1 then f j else f k
theorem swO_at (f : Nat → Nat) (j : Nat) : swO f j j = f (j - 1) := by simp [swO]
theorem swO_pre (f : Nat → Nat) {j : Nat} (hj : 0 < j) : swO f j (j - 1) = f j := by
 unfold swO
 rw [if_neg (by omega), if_pos rfl]
theorem swO_oth (f : Nat → Nat) {j k : Nat} (h1 : k ≠ j) (h2 : k ≠ j - 1) : swO f j k = f k := by
 unfold swO
 rw [if_neg h1, if_neg h2]
theorem swO_ways (f : Nat → Nat) {j : Nat} (hj : 0 < j) (k : Nat) : (k = j ∧ swO f j k = f (j - 1)) ∨ (k = j - 1 ∧ swO f j k = f j) ∨ (k ≠ j ∧ k ≠ j - 1 ∧ swO f j k = f k) := by
 by_cases c : k = j
 ·
  left; subst c; exact ⟨rfl, swO_at f k⟩
 ·
  by_cases d : k = j - 1
  ·
   right; left; subst d; exact ⟨rfl, swO_pre f hj⟩
  ·
   right; right; exact ⟨c, d, swO_oth f c d⟩
theorem PermI.sw {f : Nat → Nat} {n j : Nat} (h : PermI f n) (hj0 : 0 < j) (hj : j < n) : PermI (swO f j) n := by
 refine ⟨fun k hk => ?_, fun a b ha hb e => ?_, fun i hi => ?_⟩
 ·
  rcases swO_ways f hj0 k with ⟨_, e⟩ | ⟨_, e⟩ | ⟨_, _, e⟩
  ·
   rw [e]; exact h.lt _ (by omega)
  ·
   rw [e]; exact h.lt _ hj
  ·
   rw [e]; exact h.lt _ hk
 ·
  rcases swO_ways f hj0 a with ⟨c1, e1⟩ | ⟨c1, e1⟩ | ⟨c1, d1, e1⟩ <;> rcases swO_ways f hj0 b with ⟨c2, e2⟩ | ⟨c2, e2⟩ | ⟨c2, d2, e2⟩ <;> rw [e1, e2] at e <;> have := h.inj _ _ (by omega) (by omega) e <;> omega
 ·
  obtain ⟨k, hk, e⟩ := h.surj i hi
  by_cases c : k = j
  ·
   exact ⟨j - 1, by omega, by rw [swO_pre f hj0, ← c, e]⟩
  ·
   by_cases d : k = j - 1
   ·
    exact ⟨j, hj, by rw [swO_at, ← d, e]⟩
   ·
    exact ⟨k, hk, by rw [swO_oth f c d, e]⟩
def SortTo (key : Nat → Int) (f : Nat → Nat) (i : Nat) : Prop := ∀ a b, a < b → b < i → key (f b) ≤ key (f a)
def SortX (key : Nat → Int) (f : Nat → Nat) (i j : Nat) : Prop := ∀ a b, a < b → b ≤ i → b ≠ j → key (f b) ≤ key (f a)
theorem SortTo.one (key : Nat → Int) (f : Nat → Nat) : SortTo key f 1 := fun a b h1 h2 => by omega
theorem SortX.start {key : Nat → Int} {f : Nat → Nat} {i : Nat} (h : SortTo key f i) : SortX key f i i := fun a b h1 h2 h3 => h a b h1 (by omega)
theorem SortX.sw {key : Nat → Int} {f : Nat → Nat} {i j : Nat} (h : SortX key f i j) (hj0 : 0 < j) (hj : j ≤ i) (hlt : key (f (j - 1)) < key (f j)) : SortX key (swO f j) i (j - 1) := by
 intro a b hab hb hne
 rcases swO_ways f hj0 b with ⟨cb, eb⟩ | ⟨cb, eb⟩ | ⟨cb, db, eb⟩
 ·
  rcases swO_ways f hj0 a with ⟨ca, ea⟩ | ⟨ca, ea⟩ | ⟨ca, da, ea⟩
  ·
   omega
  ·
   rw [ea, eb]; omega
  ·
   rw [ea, eb]; exact h a (j - 1) (by omega) (by omega) (by omega)
 ·
  exact absurd cb hne
 ·
  rcases swO_ways f hj0 a with ⟨ca, ea⟩ | ⟨ca, ea⟩ | ⟨ca, da, ea⟩
  ·
   rw [ea, eb]; exact h (j - 1) b (by omega) hb cb
  ·
   rw [ea, eb]; exact h j b (by omega) hb cb
  ·
   rw [ea, eb]; exact h a b hab hb cb
theorem SortX.stop {key : Nat → Int} {f : Nat → Nat} {i j : Nat} (h : SortX key f i j) (hs : j = 0 ∨ key (f j) ≤ key (f (j - 1))) : SortTo key f (i + 1) := by
 intro a b hab hb
 by_cases c : b = j
 ·
  subst c
  have hs := hs.resolve_left (by omega)
  by_cases d : a = b - 1
  ·
   subst d; exact hs
  ·
   exact Int.le_trans hs (h a (b - 1) (by omega) (by omega) (by omega))
 ·
  exact h a b hab (by omega) c

end Go.Proofs.YtofijjomfhmbjaaGreat

namespace Go.Proofs.YtofijjomfhmbjaaGreat

def LtK (key : Nat → Int) (x y : Nat) : Prop := key y < key x ∨ (key x = key y ∧ x < y)
theorem LtK.trans {key : Nat → Int} {x y z : Nat} (h : LtK key x y) (k : LtK key y z) : LtK key x z := by
 unfold LtK at *; omega
theorem LtK.of_gt {key : Nat → Int} {x y : Nat} (h : key y < key x) : LtK key x y := .inl h
theorem LtK.of_le {key : Nat → Int} {x y : Nat} (hxy : x < y) (h : ¬ key x < key y) : LtK key x y := by
 unfold LtK; omega
theorem LtK.irrefl {key : Nat → Int} {x : Nat} (h : LtK key x x) : False := by
 unfold LtK at h; omega
def SortR (key : Nat → Int) (f : Nat → Nat) (a b : Nat) : Prop := ∀ i j, a ≤ i → i < j → j < b → LtK key (f i) (f j)
theorem SortR.small {key : Nat → Int} {f : Nat → Nat} {a b : Nat} (h : b ≤ a + 1) : SortR key f a b := fun i j hi hij hj => by omega
structure SameOn (f g : Nat → Nat) (a b : Nat) : Prop where
 out : ∀ k, (k < a ∨ b ≤ k) → g k = f k
 hits : ∀ k, a ≤ k → k < b → ∃ j, a ≤ j ∧ j < b ∧ g k = f j
 from_ : ∀ j, a ≤ j → j < b → ∃ k, a ≤ k ∧ k < b ∧ g k = f j
 inj : (∀ i j, a ≤ i → i < b → a ≤ j → j < b → f i = f j → i = j) → ∀ i j, a ≤ i → i < b → a ≤ j → j < b → g i = g j → i = j
theorem SameOn.refl (f : Nat → Nat) (a b : Nat) : SameOn f f a b := ⟨fun _ _ => rfl, fun k h1 h2 => ⟨k, h1, h2, rfl⟩, fun k h1 h2 => ⟨k, h1, h2, rfl⟩, fun h => h⟩
theorem SameOn.trans {f g h : Nat → Nat} {a b : Nat} (h1 : SameOn f g a b) (h2 : SameOn g h a b) : SameOn f h a b :=
 ⟨fun k hk => (h2.out k hk).trans (h1.out k hk), fun k ha hb => by
  obtain ⟨j, ja, jb, e⟩ := h2.hits k ha hb
  obtain ⟨i, ia, ib, e'⟩ := h1.hits j ja jb
  exact ⟨i, ia, ib, e.trans e'⟩, fun j ha hb => by
  obtain ⟨k, ka, kb, e⟩ := h1.from_ j ha hb
  obtain ⟨i, ia, ib, e'⟩ := h2.from_ k ka kb
  exact ⟨i, ia, ib, e'.trans e⟩, fun hi => h2.inj (h1.inj hi)⟩
theorem SameOn.wide {f g : Nat → Nat} {a b c d : Nat} (h : SameOn f g c d) (h1 : a ≤ c) (h2 : c ≤ d) (h3 : d ≤ b) : SameOn f g a b :=
 ⟨fun k hk => h.out k (by omega), fun k ha hb => by
  by_cases q : c ≤ k ∧ k < d
  ·
   obtain ⟨j, ja, jb, e⟩ := h.hits k q.1 q.2
   exact ⟨j, by omega, by omega, e⟩
  ·
   exact ⟨k, ha, hb, h.out k (by omega)⟩, fun j ha hb => by
  by_cases q : c ≤ j ∧ j < d
  ·
   obtain ⟨k, ka, kb, e⟩ := h.from_ j q.1 q.2
   exact ⟨k, by omega, by omega, e⟩
  ·
   exact ⟨j, ha, hb, h.out j (by omega)⟩, fun hi i j ia ib ja jb e => by
  have hin := h.inj (fun i j p1 p2 p3 p4 e => hi i j (by omega) (by omega) (by omega) (by omega) e)
  by_cases qi : c ≤ i ∧ i < d
  ·
   by_cases qj : c ≤ j ∧ j < d
   ·
    exact hin i j qi.1 qi.2 qj.1 qj.2 e
   ·
    obtain ⟨i', ia', ib', e'⟩ := h.hits i qi.1 qi.2
    rw [h.out j (by omega), e'] at e
    have := hi i' j (by omega) (by omega) ja jb e
    omega
  ·
   by_cases qj : c ≤ j ∧ j < d
   ·
    obtain ⟨j', ja', jb', e'⟩ := h.hits j qj.1 qj.2
    rw [h.out i (by omega), e'] at e
    have := hi i j' ia ib (by omega) (by omega) e
    omega
   ·
    rw [h.out i (by omega), h.out j (by omega)] at e
    exact hi i j ia ib ja jb e⟩
def swN (f : Nat → Nat) (a b n : Nat) : Nat → Nat := fun k => if a ≤ k ∧ k < a + n then f (k - a + b) else if b ≤ k ∧ k < b + n then f (k - b + a) else f k
theorem swN_zero (f : Nat → Nat) (a b : Nat) : swN f a b 0 = f := by
 funext k
 unfold swN
 rw [if_neg (by omega), if_neg (by omega)]
theorem swN_step (f : Nat → Nat) {a b n : Nat} (h : a + n < b) (k : Nat) : swN f a b (n + 1) k = if k = a + n then f (b + n) else if k = b + n then f (a + n) else swN f a b n k := by
 unfold swN
 by_cases c1 : k = a + n
 ·
  rw [if_pos c1, if_pos (by omega)]
  congr 1
  omega
 ·
  rw [if_neg c1]
  by_cases c2 : k = b + n
  ·
   rw [if_pos c2, if_neg (by omega), if_pos (by omega)]
   congr 1
   omega
  ·
   rw [if_neg c2]
   by_cases c3 : a ≤ k ∧ k < a + n
   ·
    rw [if_pos (by omega), if_pos c3]
   ·
    rw [if_neg (by omega), if_neg c3]
    by_cases c4 : b ≤ k ∧ k < b + n
    ·
     rw [if_pos (by omega), if_pos c4]
    ·
     rw [if_neg (by omega), if_neg c4]
def rotF (f : Nat → Nat) (a m b : Nat) : Nat → Nat := fun k => if a ≤ k ∧ k < a + (b - m) then f (m + (k - a)) else if a + (b - m) ≤ k ∧ k < b then f (a + (k - (a + (b - m)))) else f k
theorem rot_gt (f : Nat → Nat) {m i j : Nat} (hi : i ≤ m) (hij : j < i) : rotF (swN f (m - i) m j) (m - (i - j)) m (m + j) = rotF f (m - i) m (m + j) := by
 funext k
 unfold rotF swN
 repeat' split
 all_goals first | (exfalso; omega) | (congr 1 <;> omega)
theorem rot_lt (f : Nat → Nat) {m i j : Nat} (hi : i ≤ m) (hij : i < j) : rotF (swN f (m - i) (m + j - i) i) (m - i) m (m + (j - i)) = rotF f (m - i) m (m + j) := by
 funext k
 unfold rotF swN
 repeat' split
 all_goals first | (exfalso; omega) | (congr 1 <;> omega)
theorem rot_eq (f : Nat → Nat) {m i : Nat} (hi : i ≤ m) : swN f (m - i) m i = rotF f (m - i) m (m + i) := by
 funext k
 unfold rotF swN
 repeat' split
 all_goals first | (exfalso; omega) | (congr 1 <;> omega)
theorem rot_lo (f : Nat → Nat) {a m b k : Nat} (h1 : a ≤ k) (h2 : k < a + (b - m)) : rotF f a m b k = f (m + (k - a)) := by unfold rotF; rw [if_pos ⟨h1, h2⟩]
theorem rot_hi (f : Nat → Nat) {a m b k : Nat} (h1 : a + (b - m) ≤ k) (h2 : k < b) : rotF f a m b k = f (a + (k - (a + (b - m)))) := by unfold rotF; rw [if_neg (by omega), if_pos ⟨h1, h2⟩]
theorem rot_out (f : Nat → Nat) {a m b k : Nat} (ha : a ≤ m) (hm : m ≤ b) (h : k < a ∨ b ≤ k) : rotF f a m b k = f k := by unfold rotF; rw [if_neg (by omega), if_neg (by omega)]
theorem rot_same (f : Nat → Nat) {a m b : Nat} (ha : a ≤ m) (hm : m ≤ b) : SameOn f (rotF f a m b) a b := by
 refine ⟨fun k hk => rot_out f ha hm hk, fun k h1 h2 => ?_, fun j h1 h2 => ?_, fun hi i j ia ib ja jb e => ?_⟩
 ·
  by_cases c : k < a + (b - m)
  ·
   exact ⟨_, by omega, by omega, rot_lo f h1 c⟩
  ·
   exact ⟨_, by omega, by omega, rot_hi f (by omega) h2⟩
 ·
  by_cases c : j < m
  ·
   refine ⟨j - a + (a + (b - m)), by omega, by omega, ?_⟩
   rw [rot_hi f (by omega) (by omega)]
   congr 1
   omega
  ·
   refine ⟨j - m + a, by omega, by omega, ?_⟩
   rw [rot_lo f (by omega) (by omega)]
   congr 1
   omega
 ·
  by_cases ci : i < a + (b - m)
  ·
   rw [rot_lo f ia ci] at e
   by_cases cj : j < a + (b - m)
   ·
    rw [rot_lo f ja cj] at e
    have := hi _ _ (by omega) (by omega) (by omega) (by omega) e
    omega
   ·
    rw [rot_hi f (by omega) jb] at e
    have := hi _ _ (by omega) (by omega) (by omega) (by omega) e
    omega
  ·
   rw [rot_hi f (by omega) ib] at e
   by_cases cj : j < a + (b - m)
   ·
    rw [rot_lo f ja cj] at e
    have := hi _ _ (by omega) (by omega) (by omega) (by omega) e
    omega
   ·
    rw [rot_hi f (by omega) jb] at e
    have := hi _ _ (by omega) (by omega) (by omega) (by omega) e
    omega

/-! ### The symmetric merge -/
structure Parts (key : Nat → Int) (f : Nat → Nat) (a m b : Nat) : Prop where
 l : SortR key f a m
 r : SortR key f m b
 old : ∀ i j, a ≤ i → i < m → m ≤ j → j < b → f i < f j
theorem Parts.lt_iff {key : Nat → Int} {f : Nat → Nat} {a m b : Nat} (h : Parts key f a m b) {i j : Nat} (h1 : a ≤ i) (h2 : i < m) (h3 : m ≤ j) (h4 : j < b) : (key (f i) < key (f j) → LtK key (f j) (f i)) ∧ (¬ key (f i) < key (f j) → LtK key (f i) (f j)) :=
 ⟨fun h => LtK.of_gt h, fun hn => LtK.of_le (h.old i j h1 h2 h3 h4) hn⟩
theorem merge_rot {key : Nat → Int} {f : Nat → Nat} {a m b s e d : Nat} (h : Parts key f a m b) (has : a ≤ s) (hsm : s ≤ m) (hme : m ≤ e) (heb : e ≤ b) (hd : d = s + (e - m))
  (h1 : a < s → e < b → LtK key (f (s - 1)) (f e)) (h2 : m < e → s < m → LtK key (f (e - 1)) (f s)) :
  Parts key (rotF f s m e) a s d ∧ Parts key (rotF f s m e) d e b ∧ ∀ i j, a ≤ i → i < d → d ≤ j → j < b → LtK key (rotF f s m e i) (rotF f s m e j) := by
 subst hd
 have lo : ∀ k, k < s → rotF f s m e k = f k := fun k hk => rot_out f hsm hme (.inl hk)
 have mi : ∀ k, s ≤ k → k < s + (e - m) → rotF f s m e k = f (m + (k - s)) := fun k h1 h2 => rot_lo f h1 h2
 have hi : ∀ k, s + (e - m) ≤ k → k < e → rotF f s m e k = f (s + (k - (s + (e - m)))) := fun k h1 h2 => rot_hi f h1 h2
 have up : ∀ k, e ≤ k → rotF f s m e k = f k := fun k hk => rot_out f hsm hme (.inr hk)
 refine ⟨⟨fun i j p1 p2 p3 => ?_, fun i j p1 p2 p3 => ?_, fun i j p1 p2 p3 p4 => ?_⟩, ⟨fun i j p1 p2 p3 => ?_, fun i j p1 p2 p3 => ?_, fun i j p1 p2 p3 p4 => ?_⟩, fun i j p1 p2 p3 p4 => ?_⟩
 ·
  rw [lo i (by omega), lo j (by omega)]
  exact h.l i j (by omega) p2 (by omega)
 ·
  rw [mi i (by omega) (by omega), mi j (by omega) (by omega)]
  exact h.r _ _ (by omega) (by omega) (by omega)
 ·
  rw [lo i (by omega), mi j (by omega) (by omega)]
  exact h.old _ _ (by omega) (by omega) (by omega) (by omega)
 ·
  rw [hi i (by omega) (by omega), hi j (by omega) (by omega)]
  exact h.l _ _ (by omega) (by omega) (by omega)
 ·
  rw [up i (by omega), up j (by omega)]
  exact h.r _ _ (by omega) p2 (by omega)
 ·
  rw [hi i (by omega) (by omega), up j (by omega)]
  exact h.old _ _ (by omega) (by omega) (by omega) (by omega)
 ·
  by_cases ci : i < s
  ·
   rw [lo i ci]
   by_cases cj : j < e
   ·
    rw [hi j p3 cj]
    exact h.l _ _ (by omega) (by omega) (by omega)
   ·
    rw [up j (by omega)]
    have a1 := h1 (by omega) (by omega)
    have a2 : i = s - 1 ∨ LtK key (f i) (f (s - 1)) := by
     rcases Nat.lt_or_ge i (s - 1) with q | q
     ·
      exact .inr (h.l _ _ p1 q (by omega))
     ·
      exact .inl (by omega)
    have a3 : j = e ∨ LtK key (f e) (f j) := by
     rcases Nat.lt_or_ge e j with q | q
     ·
      exact .inr (h.r _ _ hme q p4)
     ·
      exact .inl (by omega)
    have a4 : LtK key (f i) (f e) := by
     rcases a2 with q | q
     ·
      rw [q]; exact a1
     ·
      exact q.trans a1
    rcases a3 with q | q
    ·
     rw [q]; exact a4
    ·
     exact a4.trans q
  ·
   rw [mi i (by omega) p2]
   by_cases cj : j < e
   ·
    rw [hi j p3 cj]
    have a1 := h2 (by omega) (by omega)
    have a2 : m + (i - s) = e - 1 ∨ LtK key (f (m + (i - s))) (f (e - 1)) := by
     rcases Nat.lt_or_ge (m + (i - s)) (e - 1) with q | q
     ·
      exact .inr (h.r _ _ (by omega) q (by omega))
     ·
      exact .inl (by omega)
    have a3 : s + (j - (s + (e - m))) = s ∨ LtK key (f s) (f (s + (j - (s + (e - m))))) := by
     rcases Nat.lt_or_ge s (s + (j - (s + (e - m)))) with q | q
     ·
      exact .inr (h.l _ _ has q (by omega))
     ·
      exact .inl (by omega)
    have a4 : LtK key (f (m + (i - s))) (f s) := by
     rcases a2 with q | q
     ·
      rw [q]; exact a1
     ·
      exact q.trans a1
    rcases a3 with q | q
    ·
     rw [q]; exact a4
    ·
     exact a4.trans q
   ·
    rw [up j (by omega)]
    exact h.r _ _ (by omega) (by omega) p4
theorem merge_join {key : Nat → Int} {f g h : Nat → Nat} {a d b : Nat} (had : a ≤ d) (hdb : d ≤ b) (hx : ∀ i j, a ≤ i → i < d → d ≤ j → j < b → LtK key (f i) (f j)) (h1 : SameOn f g a d) (s1 : SortR key g a d) (h2 : SameOn g h d b) (s2 : SortR key h d b) :
  SameOn f h a b ∧ SortR key h a b := by
 refine ⟨(h1.wide (Nat.le_refl _) had hdb).trans (h2.wide had hdb (Nat.le_refl _)), fun i j p1 p2 p3 => ?_⟩
 by_cases ci : i < d
 ·
  rw [h2.out i (.inl ci)]
  by_cases cj : j < d
  ·
   rw [h2.out j (.inl cj)]
   exact s1 i j p1 p2 cj
  ·
   obtain ⟨i', ia, ib, e⟩ := h1.hits i p1 ci
   obtain ⟨j', ja, jb, e'⟩ := h2.hits j (by omega) p3
   rw [e, e', h1.out j' (.inr ja)]
   exact hx i' j' ia ib ja jb
 ·
  exact s2 i j (by omega) p2 p3
theorem merge_one {key : Nat → Int} {f : Nat → Nat} {a m b p : Nat} (h : Parts key f a m b) (hm : m = a + 1) (hp : m ≤ p) (hpb : p ≤ b) (h1 : ∀ j, m ≤ j → j < p → LtK key (f j) (f a)) (h2 : ∀ j, p ≤ j → j < b → LtK key (f a) (f j)) :
  SortR key (rotF f a m p) a b := by
 intro i j p1 p2 p3
 have lo : ∀ k, a ≤ k → k < a + (p - m) → rotF f a m p k = f (m + (k - a)) := fun k h1 h2 => rot_lo f h1 h2
 have mi : rotF f a m p (a + (p - m)) = f a := by rw [rot_hi f (by omega) (by omega)]; congr 1; omega
 have up : ∀ k, p ≤ k → rotF f a m p k = f k := fun k hk => rot_out f (by omega) hp (.inr hk)
 by_cases ci : i < a + (p - m)
 ·
  rw [lo i p1 ci]
  by_cases cj : j < a + (p - m)
  ·
   rw [lo j (by omega) cj]
   exact h.r _ _ (by omega) (by omega) (by omega)
  ·
   by_cases cj2 : j = a + (p - m)
   ·
    rw [cj2, mi]
    exact h1 _ (by omega) (by omega)
   ·
    rw [up j (by omega)]
    exact h.r _ _ (by omega) (by omega) p3
 ·
  by_cases ci2 : i = a + (p - m)
  ·
   rw [ci2, mi, up j (by omega)]
   exact h2 j (by omega) p3
  ·
   rw [up i (by omega), up j (by omega)]
   exact h.r _ _ (by omega) p2 p3
theorem merge_one' {key : Nat → Int} {f : Nat → Nat} {a m b p : Nat} (h : Parts key f a m b) (hm : b = m + 1) (hap : a ≤ p) (hp : p ≤ m) (h1 : ∀ j, a ≤ j → j < p → LtK key (f j) (f m)) (h2 : ∀ j, p ≤ j → j < m → LtK key (f m) (f j)) :
  SortR key (rotF f p m b) a b := by
 intro i j p1 p2 p3
 have lo : ∀ k, k < p → rotF f p m b k = f k := fun k hk => rot_out f hp (by omega) (.inl hk)
 have mi : rotF f p m b p = f m := by rw [rot_lo f (by omega) (by omega)]; congr 1; omega
 have up : ∀ k, p < k → k < b → rotF f p m b k = f (k - 1) := fun k h1 h2 => by rw [rot_hi f (by omega) h2]; congr 1; omega
 by_cases ci : i < p
 ·
  rw [lo i ci]
  by_cases cj : j < p
  ·
   rw [lo j cj]
   exact h.l _ _ p1 p2 (by omega)
  ·
   by_cases cj2 : j = p
   ·
    rw [cj2, mi]
    exact h1 i p1 ci
   ·
    rw [up j (by omega) p3]
    exact h.l _ _ p1 (by omega) (by omega)
 ·
  by_cases ci2 : i = p
  ·
   rw [ci2, mi, up j (by omega) p3]
   exact h2 _ (by omega) (by omega)
  ·
   rw [up i (by omega) (by omega), up j (by omega) p3]
   exact h.l _ _ (by omega) (by omega) (by omega)

end Go.Proofs.YtofijjomfhmbjaaGreat

namespace Go.Proofs.YtofijjomfhmbjaaGreat
open Go.RowKit

theorem wpList_make_room {P : Program} (w : World) {ops : Array Oper} {rest : List Oper} {o : Oper} {a : Act} {Q : Exit → Act → World → Prop}
  (hg : o.guard = none) (l c : Operand) (t : TypeId) (hop : o.op = Op.makeSlice t l c)
  (base : Nat) (e : TypeId) (i : TypeInfo) (z : Value) (size : Nat) (h1 : P.underlying t = some (.slice e)) (h2 : P.info? e = some i) (h3 : i.zero = some z) (h4 : i.size = size)
  (kl kc : IntKind) (L C : Int) (n m : Nat) (hl : a.eval l = .int kl L) (hc : a.eval c = .int kc C) (hL : L = (n : Int)) (hC : C = (m : Int)) (hnm : n ≤ m) (b2 : i.bytes * m ≤ 281474976710656) (b3 : m ≤ maxLen) (_b4 : base ≤ w.heap.size)
  (hK : ∀ w', w'.heap[w.heap.size]? = some (.cells (madeCells z.cells (m * size)) e (0, 0)) → w.grownBy w' none → wpList P ops Q rest (a.put o.dst (.slice (some ⟨w.heap.size, 0, none⟩) n m)) w') :
  wpList P ops Q (o :: rest) a w := by
 subst h4
 subst hL
 subst hC
 refine wpList_plain hg fun K hK' => ?_
 have b3' : (m : Int) ≤ 9223372036854775807 := by
  have h := b3
  simp [maxLen] at h
  omega
 have hb' : (i.bytes : Int) * (m : Int) ≤ 281474976710656 := by
  have h : ((i.bytes * m : Nat) : Int) ≤ 281474976710656 := by omega
  rwa [Int.natCast_mul] at h
 have hr := run_make (P := P) w t e i z h1 h2 h3 kl kc n m (by omega) (by omega) hb' b3'
 simp only [Int.toNat_natCast] at hr
 unfold Oper.wp
 simp [execOp, hop, hl, hc, hr, Result.andThen]
 exact hK' _ _ (hK _ (heap_alloc_new w _) (World.grownBy_alloc w _ none))

structure PlIn (a b : List Nat) (n i : Nat) (o : List Nat) (c : Nat) : Prop where
 len : o.length = n
 dgs : Dgs b64 o
 car : c ≤ 1
 val : lv b64 o + b64 ^ i * c = lv b64 (a.take i) + lv b64 (b.take i)
 top : ∀ j, i ≤ j → o.getD j 0 = 0
theorem take_step64 (a : List Nat) (i : Nat) : lv b64 (a.take (i + 1)) = lv b64 (a.take i) + b64 ^ i * a.getD i 0 := by
 by_cases h : i < a.length
 ·
  exact lv_take_succ b64 a i h
 ·
  rw [List.take_of_length_le (by omega), List.take_of_length_le (by omega)]
  simp [List.getElem?_eq_none (Nat.le_of_not_lt h)]
theorem PlIn.start (a b : List Nat) (n : Nat) : PlIn a b n 0 (List.replicate n 0) 0 :=
 ⟨by simp, Dgs.replicate b64_pos _, by omega, by simp [lv_replicate, lv], fun j _ => by simp [List.getElem?_replicate]; split <;> rfl⟩
theorem PlIn.step {a b : List Nat} {n i : Nat} {o : List Nat} {c : Nat} (h : PlIn a b n i o c) (ha : Dgs b64 a) (hb : Dgs b64 b) (hi : i < n) (x y : Nat) (hx : x = a.getD i 0) (hy : y = b.getD i 0) :
  PlIn a b n (i + 1) (o.set i (addLo x y c)) (addHi x y c) := by
 have hxl := ha.getD b64_pos i
 have hyl := hb.getD b64_pos i
 rw [← hx] at hxl
 rw [← hy] at hyl
 refine ⟨by simpa using h.len, h.dgs.set _ _ (addLo_lt _ _ _), addHi_le _ _ _ hxl hyl h.car, ?_, fun j hj => ?_⟩
 ·
  have h1 := lv_set b64 o i (addLo x y c) (by rw [h.len]; exact hi)
  rw [h.top i (Nat.le_refl _)] at h1
  have h2 := h.val
  rw [take_step64, take_step64, Nat.pow_succ, ← hx, ← hy]
  have e4 := add_eq x y c
  have e5 : b64 ^ i * (addLo x y c + b64 * addHi x y c) = b64 ^ i * (x + y + c) := by rw [e4]
  rw [Nat.mul_assoc]
  simp only [Nat.mul_add] at e5
  omega
 ·
  have := h.top j (by omega)
  rw [List.getD_eq_getElem?_getD] at *
  rw [List.getElem?_set_ne (by omega)]
  exact this
theorem PlIn.done {a b : List Nat} {o : List Nat} {c : Nat} (h : PlIn a b a.length a.length o c) (hl : b.length ≤ a.length) : lv b64 o + b64 ^ a.length * c = lv b64 a + lv b64 b := by
 have hv := h.val
 rw [List.take_of_length_le (Nat.le_refl _), List.take_of_length_le hl] at hv
 exact hv
theorem plus_dig {a b o : List Nat} {c : Nat} (h : PlIn a b a.length a.length o c) (hl : b.length ≤ a.length) (hla : ∀ h : a ≠ [], a.getLast h ≠ 0) :
  (c = 0 → dig b64 (lv b64 a + lv b64 b) = o) ∧ (0 < c → dig b64 (lv b64 a + lv b64 b) = o ++ [c]) := by
 have hd := h.done hl
 constructor
 ·
  intro h0
  subst h0
  rw [← hd, Nat.mul_zero, Nat.add_zero]
  refine dig_of b64_two o h.dgs fun hne => ?_
  -- the greatest digit of o is not 0: o is at least a
  have hpos : 0 < a.length := by
   rcases Nat.eq_zero_or_pos a.length with h1 | h1
   ·
    exact absurd (List.eq_nil_of_length_eq_zero (h.len.trans h1)) hne
   ·
    exact h1
  have hane : a ≠ [] := fun e => by rw [e] at hpos; simp at hpos
  intro hz
  have h2 : lv b64 o < b64 ^ (a.length - 1) := by
   have e1 : o = o.take (o.length - 1) ++ [0] := by
    conv => lhs; rw [← List.dropLast_concat_getLast hne, hz, List.dropLast_eq_take]
   have e2 : Dgs b64 (o.take (o.length - 1)) := h.dgs.take _
   rw [e1, dig_lv_snoc_zero]
   have := lv_lt e2
   rw [List.length_take, Nat.min_eq_left (by omega)] at this
   rw [h.len] at this ⊢
   exact this
  have h3 : b64 ^ (a.length - 1) ≤ lv b64 a := by
   have e1 : a = a.dropLast ++ [a.getLast hane] := (List.dropLast_concat_getLast hane).symm
   have h4 := hla hane
   generalize a.getLast hane = q at *
   rw [e1, lv_append]
   have : a.dropLast.length = a.length - 1 := by simp
   rw [this]
   have e3 : lv b64 [q] = q := by simp [lv]
   rw [e3]
   have := Nat.le_mul_of_pos_right (b64 ^ (a.length - 1)) (show 0 < q by omega)
   simp only [List.length_append, List.length_dropLast, List.length_cons, List.length_nil]
   have e4 : a.length - 1 + (0 + 1) - 1 = a.length - 1 := by omega
   rw [e4]
   omega
  omega
 ·
  intro h0
  have hc : c = 1 := by have := h.car; omega
  subst hc
  have e : lv b64 a + lv b64 b = lv b64 (o ++ [1]) := by rw [lv_append, h.len, ← hd]; simp [lv]
  rw [e]
  exact dig_of b64_two _ (h.dgs.append (by intro d hd; simp at hd; rw [hd]; exact b64_two)) fun hne => by simp

def OwnAll (w : World) (g : Nat) (k : IntKind) (e : TypeId) (ds : List Nat) : Prop := w.heap[g]? = some (.cells (ds.map (fun d : Nat => Value.int k (d : Int))).toArray e (0, 0))
theorem OwnAll.own {w : World} {g : Nat} {k : IntKind} {e : TypeId} {ds : List Nat} (h : OwnAll w g k e ds) : Own w g k e ds := ⟨[], by rw [List.append_nil]; exact h⟩
theorem OwnAll.frozen {w : World} {g : Nat} {k : IntKind} {e : TypeId} {ds : List Nat} (h : OwnAll w g k e ds) (j : Nat) : w.frozen? ⟨g, j, none⟩ = false := h.own.frozen j
theorem OwnAll.cell {w : World} {g : Nat} {k : IntKind} {e : TypeId} {ds : List Nat} (h : OwnAll w g k e ds) (j : Nat) (hj : j < ds.length) : ∃ q, w.cell? ⟨g, j, none⟩ = some (.int k q) := ⟨_, h.own.cell j hj⟩
theorem OwnAll.store {w : World} {g : Nat} {k : IntKind} {e : TypeId} {ds : List Nat} (h : OwnAll w g k e ds) (j x : Nat) : OwnAll (w.setCell ⟨g, j, none⟩ (.int k x)) g k e (ds.set j x) := by
 unfold OwnAll at *
 rw [heap_setCell_same w g j _ e _ h]
 simp [List.map_set]
theorem OwnAll.of_room {w : World} {g : Nat} {e : TypeId} {n : Nat} (h : w.heap[g]? = some (.cells (madeCells #[Value.int .u64 0] (n + 1)) e (0, 0))) : OwnAll w g .u64 e (List.replicate n 0 ++ [0]) := by
 unfold OwnAll
 rw [h]
 have e1 : (madeCells #[Value.int .u64 0] (n + 1)).toList = List.replicate (n + 1) (Value.int .u64 0) := toList_madeCells_one _ _
 have e2 : (List.replicate n 0 ++ [0]).map (fun d : Nat => Value.int .u64 (d : Int)) = List.replicate (n + 1) (Value.int .u64 0) := by
  rw [List.replicate_succ']
  simp
 rw [e2, ← e1]
theorem Own.init {w : World} {g : Nat} {k : IntKind} {e : TypeId} {a b : List Nat} (h : Own w g k e (a ++ b)) : Own w g k e a := by
 obtain ⟨tl, h⟩ := h
 refine ⟨b.map (fun d : Nat => Value.int k (d : Int)) ++ tl, ?_⟩
 rw [h]
 simp
theorem OwnAll.ownsRow {w : World} {g : Nat} {k : IntKind} {e : TypeId} {o : List Nat} (h : OwnAll w g k e (o ++ [0])) (n base : Nat) (hb : base ≤ g) (hn : o.length = n) (hm : n + 1 ≤ maxLen) :
  w.ownsRow base e 1 (.slice (some ⟨g, 0, none⟩) n (n + 1)) n (o.map (fun d : Nat => Value.int k (d : Int))) := by
 refine ⟨by simp [hn], .inr ⟨g, n + 1, _, rfl, hb, h, by omega, hm, by simp [hn], ?_⟩⟩
 simp [← hn]
theorem digits_row {w : World} {base g n : Nat} {e : TypeId} {o : List Nat} {c : Nat} (hn : o.length = n) (h : w.ownsRow base e 1 (.slice (some ⟨g, 0, none⟩) (n + 1) (n + 1)) (n + 1) (o.map (fun d : Nat => Value.int .u64 (d : Int)) ++ [.int .u64 (c : Int)])) :
  IsRow .u64 w (.slice (some ⟨g, 0, none⟩) (n + 1) (n + 1)) (o ++ [c]) := by
 have hl : (o ++ [c]).length = n + 1 := by simp [hn]
 obtain ⟨ho, h1, h2, _⟩ := Own.of_ownsRow (k := .u64) (ds := o ++ [c]) hl (by simpa using h)
 have := ho.isRowCap (n + 1) (by omega) h2
 rw [hl] at this
 exact this

theorem run_Add64_y0 (x c : Nat) (hc : c ≤ 1) (w : World) :
  (callFunc 93 #[.int .u64 x, .int .u64 0, .int .u64 c]).run Tryz.prog w = .ok (.value (.tuple #[.int .u64 (addLo x 0 c : Nat), .int .u64 (addHi x 0 c : Nat)])) w :=
 run_Add64 x 0 c hc w
theorem run_Sub64_y0 (x c : Nat) (hc : c ≤ 1) (w : World) :
  (callFunc 96 #[.int .u64 x, .int .u64 0, .int .u64 c]).run Tryz.prog w = .ok (.value (.tuple #[.int .u64 (subLo x 0 c : Nat), .int .u64 (subHi x 0 c : Nat)])) w :=
 run_Sub64 x 0 c hc w

set_option maxRecDepth 100000 in
set_option maxHeartbeats 2000000 in
theorem plus_any (m n : Nat) (va vb : Value) (w : World) (ha : IsNat .u64 b64 w va m) (hb : IsNat .u64 b64 w vb n) (hla : (dig b64 m).length ≤ 1099511627776) (hlb : (dig b64 n).length ≤ 1099511627776) :
  Calls Tryz.prog 68 #[va, vb] w (RetNat .u64 b64 (m + n) w) := by
 obtain ⟨aa, ca, rfl, hA⟩ := IsRow.opened ha
 obtain ⟨ab, cb, rfl, hB⟩ := IsRow.opened hb
 have hdA := dgs_dig b64_two m
 have hdB := dgs_dig b64_two n
 have HLA := Lib.hid (dig_last b64_two m)
 have HLB := Lib.hid (dig_last b64_two n)
 have HVA : Hid (lv b64 (dig b64 m) + lv b64 (dig b64 n) = m + n) := by show _ = _; rw [lv_dig b64_two, lv_dig b64_two]
 have HVB : Hid (lv b64 (dig b64 n) + lv b64 (dig b64 m) = m + n) := by show _ = _; rw [lv_dig b64_two, lv_dig b64_two, Nat.add_comm]
 clear ha hb
 generalize dig b64 m = dA at *
 generalize dig b64 n = dB at *
 obtain ⟨i0, hi, hz0, hz1, hz2⟩ := info_parts info_u64
 by_cases hsw : dA.length < dB.length
 ·
  have tsw : decide (dA.length < dB.length) = true := decide_eq_true hsw
  go_enter Tryz.func68, Tryz.ntmps68
  go_wp2_with (at_make; refine wpList_make_room _ rfl _ _ 52 rfl w.heap.size 103 i0 (.int .u64 0) 1 Tryz.underlying52 hi hz0 hz1 _ _ _ _ dB.length (dB.length + 1) rfl rfl (by omega) (by omega) (by omega) (by rw [hz2]; omega) (by unfold maxLen; omega) (by omega) ?_)
  intro w1 hown hgrow
  have ho := OwnAll.of_room hown
  have hbel := (Below.refl w.heap.size w).grown hgrow (Nat.le_refl _) (by simp)
  clear hown hgrow
  go_wp2_with fail
  go_loopw [6, 25] (fun cv iv wr => ∃ (i : Nat) (o : List Nat) (c : Nat), i ≤ dB.length ∧ iv = .int .i64 i ∧ cv = .int .u64 c ∧ OwnAll wr w.heap.size .u64 103 (o ++ [0]) ∧ Hid (PlIn dB dA dB.length i o c) ∧ Below w.heap.size w wr)
   (fun _ iv _ => dB.length - (intOf iv).toNat)
  case atStart => exact ⟨0, _, 0, Nat.zero_le _, rfl, rfl, ho, PlIn.start _ _ _, hbel⟩
  case round =>
   clear ho hbel
   obtain ⟨i, o, c, hil, rfl, rfl, ho, hM, hbel⟩ := hrel
   by_cases hlt : i < dB.length
   ·
    obtain ⟨b, off, rfl, hbA, hcA⟩ := hB (by omega)
    have hca := (hbel.cell (p := ⟨b, off + i, none⟩) hbA).trans (hcA i hlt)
    have hfo := ho.frozen i
    have hlo := hM.out.len
    obtain ⟨q0, hco⟩ := ho.cell i (by rw [List.length_append]; omega)
    have hst := Lib.hid (fun x y hx hy => hM.out.step hdB hdA hlt x y hx hy)
    have hlt' : (i : Int) < dB.length := by omega
    have hge' : (0 : Int) ≤ i := by omega
    have hset : ∀ v, (o ++ [0]).set i v = o.set i v ++ [0] := fun v => by rw [List.set_append_left _ _ (by omega)]
    have HSET := Lib.hid hset
    have hcar := hM.out.car
    clear hset hlo
    by_cases hlb : i < dA.length
    ·
     obtain ⟨b', off', rfl, hbB, hcB⟩ := hA (by omega)
     have hcb := (hbel.cell (p := ⟨b', off' + i, none⟩) hbB).trans (hcB i hlb)
     have hlb' : (i : Int) < dA.length := by omega
     have tb : decide (i < dA.length) = true := decide_eq_true hlb
     have HST := Lib.hid (hst.out _ _ rfl rfl)
     clear hst
     generalize dB.getD i 0 = x at *
     generalize dA.getD i 0 = y at *
     have hadd := run_Add64 x y c hcar
     clear hcar
     go_wp2_with fail
     exact ⟨⟨i + 1, _, _, by omega, by go_num, rfl, by rw [← HSET.out]; exact ho.store i _, HST.out, hbel.setCell (p := ⟨w.heap.size, i, none⟩) (Nat.le_refl _) _⟩, meas_up hlt⟩
    ·
     have tb : decide (i < dA.length) = false := decide_eq_false hlb
     have HST := Lib.hid (hst.out _ 0 rfl (by simp [List.getElem?_eq_none (Nat.le_of_not_lt hlb)]))
     clear hst
     generalize dB.getD i 0 = x at *
     have hadd := run_Add64_y0 x c hcar
     clear hcar
     go_wp2_with fail
     exact ⟨⟨i + 1, _, _, by omega, by go_num, rfl, by rw [← HSET.out]; exact ho.store i _, HST.out, hbel.setCell (p := ⟨w.heap.size, i, none⟩) (Nat.le_refl _) _⟩, meas_up hlt⟩
   ·
    obtain rfl : i = dB.length := by omega
    have hlen := Lib.hid hM.out.len
    have hpd := plus_dig hM.out (by omega) HLB.out
    have hv : lv b64 dB + lv b64 dA = m + n := HVB.out
    rw [hv] at hpd
    have HP0 := Lib.hid hpd.1
    have HP1 := Lib.hid hpd.2
    clear hpd hv
    rcases Nat.eq_zero_or_pos c with hc | hc
    ·
     subst hc
     have HP := Lib.hid (HP0.out rfl)
     have hrow := (Own.init ho.own).isRowCap (dB.length + 1) (by rw [hlen.out]; omega) (by unfold maxLen; omega)
     rw [hlen.out] at hrow
     have HR := Lib.hid hrow
     clear hrow
     go_wp2_with fail
     go_ret
     exact ⟨_, rfl, by show IsRow _ _ _ _; rw [HP.out]; exact HR.out, hbel⟩
    ·
     have tc : decide (0 < c) = true := decide_eq_true hc
     have HP := Lib.hid (HP1.out hc)
     have how := ho.ownsRow dB.length w.heap.size (Nat.le_refl _) hlen.out (by unfold maxLen; omega)
     have hx1 := hbel.alloc hbel.size (.cells #[.int .u64 (c : Int)] 103)
     have hcn := cell_one_new wr (.int .u64 (c : Int)) 103
     have HCN := Lib.hid hcn
     have HOW := Lib.hid (how.alloc (.cells #[.int .u64 (c : Int)] 103))
     clear how hcn hc ho
     go_wp2_with (at_builtin; refine wpList_append_fits _ rfl (.tmp 51) (.tmp 53) 52 rfl w.heap.size 103 i0 1 Tryz.underlying52 hi hz1 _ _ _ _ rfl HOW.out ⟨wr.heap.size, 0, none⟩ 1 1 [.int .u64 (c : Int)] rfl rfl HCN.out (by simp [Value.oneCell']) (by omega) ?_)
     intro w2 hown2 hgr2
     have hb2 : Below w.heap.size w w2 := hx1.grown hgr2 hx1.size (by simp)
     have HR := Lib.hid (digits_row hlen.out hown2)
     clear hown2 hgr2 hx1
     go_wp2_with fail
     go_ret
     exact ⟨_, rfl, by show IsRow _ _ _ _; rw [HP.out]; exact HR.out, hb2⟩
 ·
  have tsw : decide (dA.length < dB.length) = false := decide_eq_false hsw
  go_enter Tryz.func68, Tryz.ntmps68
  go_wp2_with (at_make; refine wpList_make_room _ rfl _ _ 52 rfl w.heap.size 103 i0 (.int .u64 0) 1 Tryz.underlying52 hi hz0 hz1 _ _ _ _ dA.length (dA.length + 1) rfl rfl (by omega) (by omega) (by omega) (by rw [hz2]; omega) (by unfold maxLen; omega) (by omega) ?_)
  intro w1 hown hgrow
  have ho := OwnAll.of_room hown
  have hbel := (Below.refl w.heap.size w).grown hgrow (Nat.le_refl _) (by simp)
  clear hown hgrow
  go_wp2_with fail
  go_loopw [6, 25] (fun cv iv wr => ∃ (i : Nat) (o : List Nat) (c : Nat), i ≤ dA.length ∧ iv = .int .i64 i ∧ cv = .int .u64 c ∧ OwnAll wr w.heap.size .u64 103 (o ++ [0]) ∧ Hid (PlIn dA dB dA.length i o c) ∧ Below w.heap.size w wr)
   (fun _ iv _ => dA.length - (intOf iv).toNat)
  case atStart => exact ⟨0, _, 0, Nat.zero_le _, rfl, rfl, ho, PlIn.start _ _ _, hbel⟩
  case round =>
   clear ho hbel
   obtain ⟨i, o, c, hil, rfl, rfl, ho, hM, hbel⟩ := hrel
   by_cases hlt : i < dA.length
   ·
    obtain ⟨b, off, rfl, hbA, hcA⟩ := hA (by omega)
    have hca := (hbel.cell (p := ⟨b, off + i, none⟩) hbA).trans (hcA i hlt)
    have hfo := ho.frozen i
    have hlo := hM.out.len
    obtain ⟨q0, hco⟩ := ho.cell i (by rw [List.length_append]; omega)
    have hst := Lib.hid (fun x y hx hy => hM.out.step hdA hdB hlt x y hx hy)
    have hlt' : (i : Int) < dA.length := by omega
    have hge' : (0 : Int) ≤ i := by omega
    have hset : ∀ v, (o ++ [0]).set i v = o.set i v ++ [0] := fun v => by rw [List.set_append_left _ _ (by omega)]
    have HSET := Lib.hid hset
    have hcar := hM.out.car
    clear hset hlo
    by_cases hlb : i < dB.length
    ·
     obtain ⟨b', off', rfl, hbB, hcB⟩ := hB (by omega)
     have hcb := (hbel.cell (p := ⟨b', off' + i, none⟩) hbB).trans (hcB i hlb)
     have hlb' : (i : Int) < dB.length := by omega
     have tb : decide (i < dB.length) = true := decide_eq_true hlb
     have HST := Lib.hid (hst.out _ _ rfl rfl)
     clear hst
     generalize dA.getD i 0 = x at *
     generalize dB.getD i 0 = y at *
     have hadd := run_Add64 x y c hcar
     clear hcar
     go_wp2_with fail
     exact ⟨⟨i + 1, _, _, by omega, by go_num, rfl, by rw [← HSET.out]; exact ho.store i _, HST.out, hbel.setCell (p := ⟨w.heap.size, i, none⟩) (Nat.le_refl _) _⟩, meas_up hlt⟩
    ·
     have tb : decide (i < dB.length) = false := decide_eq_false hlb
     have HST := Lib.hid (hst.out _ 0 rfl (by simp [List.getElem?_eq_none (Nat.le_of_not_lt hlb)]))
     clear hst
     generalize dA.getD i 0 = x at *
     have hadd := run_Add64_y0 x c hcar
     clear hcar
     go_wp2_with fail
     exact ⟨⟨i + 1, _, _, by omega, by go_num, rfl, by rw [← HSET.out]; exact ho.store i _, HST.out, hbel.setCell (p := ⟨w.heap.size, i, none⟩) (Nat.le_refl _) _⟩, meas_up hlt⟩
   ·
    obtain rfl : i = dA.length := by omega
    have hlen := Lib.hid hM.out.len
    have hpd := plus_dig hM.out (by omega) HLA.out
    have hv : lv b64 dA + lv b64 dB = m + n := HVA.out
    rw [hv] at hpd
    have HP0 := Lib.hid hpd.1
    have HP1 := Lib.hid hpd.2
    clear hpd hv
    rcases Nat.eq_zero_or_pos c with hc | hc
    ·
     subst hc
     have HP := Lib.hid (HP0.out rfl)
     have hrow := (Own.init ho.own).isRowCap (dA.length + 1) (by rw [hlen.out]; omega) (by unfold maxLen; omega)
     rw [hlen.out] at hrow
     have HR := Lib.hid hrow
     clear hrow
     go_wp2_with fail
     go_ret
     exact ⟨_, rfl, by show IsRow _ _ _ _; rw [HP.out]; exact HR.out, hbel⟩
    ·
     have tc : decide (0 < c) = true := decide_eq_true hc
     have HP := Lib.hid (HP1.out hc)
     have how := ho.ownsRow dA.length w.heap.size (Nat.le_refl _) hlen.out (by unfold maxLen; omega)
     have hx1 := hbel.alloc hbel.size (.cells #[.int .u64 (c : Int)] 103)
     have hcn := cell_one_new wr (.int .u64 (c : Int)) 103
     have HCN := Lib.hid hcn
     have HOW := Lib.hid (how.alloc (.cells #[.int .u64 (c : Int)] 103))
     clear how hcn hc ho
     go_wp2_with (at_builtin; refine wpList_append_fits _ rfl (.tmp 51) (.tmp 53) 52 rfl w.heap.size 103 i0 1 Tryz.underlying52 hi hz1 _ _ _ _ rfl HOW.out ⟨wr.heap.size, 0, none⟩ 1 1 [.int .u64 (c : Int)] rfl rfl HCN.out (by simp [Value.oneCell']) (by omega) ?_)
     intro w2 hown2 hgr2
     have hb2 : Below w.heap.size w w2 := hx1.grown hgr2 hx1.size (by simp)
     have HR := Lib.hid (digits_row hlen.out hown2)
     clear hown2 hgr2 hx1
     go_wp2_with fail
     go_ret
     exact ⟨_, rfl, by show IsRow _ _ _ _; rw [HP.out]; exact HR.out, hb2⟩

structure MiIn (a b : List Nat) (n i : Nat) (o : List Nat) (c : Nat) : Prop where
 len : o.length = n
 dgs : Dgs b64 o
 car : c ≤ 1
 val : lv b64 o + lv b64 (b.take i) = lv b64 (a.take i) + b64 ^ i * c
 top : ∀ j, i ≤ j → o.getD j 0 = 0
theorem MiIn.start (a b : List Nat) (n : Nat) : MiIn a b n 0 (List.replicate n 0) 0 :=
 ⟨by simp, Dgs.replicate b64_pos _, by omega, by simp [lv_replicate, lv], fun j _ => by simp [List.getElem?_replicate]; split <;> rfl⟩
theorem sub_eq_plus (x y c : Nat) (hx : x < b64) (hy : y < b64) (hc : c ≤ 1) : subLo x y c + y + c = x + b64 * subHi x y c := by
 unfold subLo subHi
 by_cases h : x < y + c
 ·
  rw [if_pos h, Nat.mod_eq_of_lt (by omega)]; omega
 ·
  rw [if_neg h]
  have e : b64 + x - y - c = (x - y - c) + b64 := by omega
  rw [e, Nat.add_mod_right, Nat.mod_eq_of_lt (by omega)]
  omega
theorem MiIn.step {a b : List Nat} {n i : Nat} {o : List Nat} {c : Nat} (h : MiIn a b n i o c) (ha : Dgs b64 a) (hb : Dgs b64 b) (hi : i < n) (x y : Nat) (hx : x = a.getD i 0) (hy : y = b.getD i 0) :
  MiIn a b n (i + 1) (o.set i (subLo x y c)) (subHi x y c) := by
 have hxl := ha.getD b64_pos i
 have hyl := hb.getD b64_pos i
 rw [← hx] at hxl
 rw [← hy] at hyl
 refine ⟨by simpa using h.len, h.dgs.set _ _ (subLo_lt _ _ _), subHi_le _ _ _, ?_, fun j hj => ?_⟩
 ·
  have h1 := lv_set b64 o i (subLo x y c) (by rw [h.len]; exact hi)
  rw [h.top i (Nat.le_refl _)] at h1
  have h2 := h.val
  rw [take_step64, take_step64, Nat.pow_succ, ← hx, ← hy]
  have e4 := sub_eq_plus x y c hxl hyl h.car
  have e5 : b64 ^ i * (subLo x y c + y + c) = b64 ^ i * (x + b64 * subHi x y c) := by rw [e4]
  rw [Nat.mul_assoc]
  simp only [Nat.mul_add] at e5
  omega
 ·
  have := h.top j (by omega)
  rw [List.getD_eq_getElem?_getD] at *
  rw [List.getElem?_set_ne (by omega)]
  exact this
theorem MiIn.done {a b o : List Nat} {c : Nat} (h : MiIn a b a.length a.length o c) (hl : b.length ≤ a.length) (hle : lv b64 b ≤ lv b64 a) : lv b64 o = lv b64 a - lv b64 b := by
 have hv := h.val
 rw [List.take_of_length_le (Nat.le_refl _), List.take_of_length_le hl] at hv
 rcases Nat.eq_zero_or_pos c with h0 | h0
 ·
  subst h0; omega
 ·
  have hc : c = 1 := by have := h.car; omega
  subst hc
  have := lv_lt h.dgs
  rw [h.len] at this
  omega

set_option maxRecDepth 100000 in
set_option maxHeartbeats 2000000 in
theorem minus_any (m n : Nat) (va vb : Value) (w : World) (ha : IsNat .u64 b64 w va m) (hb : IsNat .u64 b64 w vb n) (hle : n ≤ m) (hla : (dig b64 m).length ≤ 1099511627776) :
  Calls Tryz.prog 70 #[va, vb] w (RetNat .u64 b64 (m - n) w) := by
 obtain ⟨aa, ca, rfl, hA⟩ := IsRow.opened ha
 obtain ⟨ab, cb, rfl, hB⟩ := IsRow.opened hb
 have hdA := dgs_dig b64_two m
 have hdB := dgs_dig b64_two n
 have hlen := dig_length_mono b64_two hle
 have Hva := Lib.hid (lv_dig b64_two m)
 have Hvb := Lib.hid (lv_dig b64_two n)
 clear ha hb
 generalize dig b64 m = dA at *
 generalize dig b64 n = dB at *
 obtain ⟨i0, hi, hz0, hz1, hz2⟩ := info_parts info_u64
 go_enter Tryz.func70, Tryz.ntmps70
 go_wp2_with (at_make; refine wpList_make_full _ rfl _ _ 52 rfl w.heap.size 103 i0 (.int .u64 0) 1 Tryz.underlying52 hi hz0 hz1 _ _ _ _ dA.length rfl rfl (by omega) (by omega) (by rw [hz2]; omega) (by unfold maxLen; omega) (by omega) ?_)
 intro w1 hown hgrow
 have ho := Own.of_made hown
 have hbel := (Below.refl w.heap.size w).grown hgrow (Nat.le_refl _) (by simp)
 clear hown hgrow hi hz0 hz1 hz2
 go_wp2_with fail
 go_loopw [6, 15] (fun cv iv wr => ∃ (i : Nat) (o : List Nat) (c : Nat), i ≤ dA.length ∧ iv = .int .i64 i ∧ cv = .int .u64 c ∧ Own wr w.heap.size .u64 103 o ∧ Hid (MiIn dA dB dA.length i o c) ∧ Below w.heap.size w wr)
  (fun _ iv _ => dA.length - (intOf iv).toNat)
 case atStart => exact ⟨0, _, 0, Nat.zero_le _, rfl, rfl, ho, MiIn.start _ _ _, hbel⟩
 case round =>
  clear ho hbel
  obtain ⟨i, o, c, hil, rfl, rfl, ho, hM, hbel⟩ := hrel
  by_cases hlt : i < dA.length
  ·
   obtain ⟨b, off, rfl, hbA, hcA⟩ := hA (by omega)
   have hca := (hbel.cell (p := ⟨b, off + i, none⟩) hbA).trans (hcA i hlt)
   have hfo := ho.frozen i
   have hco := ho.cell i (by rw [hM.out.len]; omega)
   have hst := Lib.hid (fun x y hx hy => hM.out.step hdA hdB hlt x y hx hy)
   have hlt' : (i : Int) < dA.length := by omega
   have hge' : (0 : Int) ≤ i := by omega
   have hcar := hM.out.car
   generalize o.getD i 0 = q0 at *
   by_cases hlb : i < dB.length
   ·
    obtain ⟨b', off', rfl, hbB, hcB⟩ := hB (by omega)
    have hcb := (hbel.cell (p := ⟨b', off' + i, none⟩) hbB).trans (hcB i hlb)
    have hlb' : (i : Int) < dB.length := by omega
    have tb : decide (i < dB.length) = true := decide_eq_true hlb
    have HST := Lib.hid (hst.out _ _ rfl rfl)
    clear hst
    generalize dA.getD i 0 = x at *
    generalize dB.getD i 0 = y at *
    have hsub := run_Sub64 x y c hcar
    clear hcar
    go_wp2_with fail
    exact ⟨⟨i + 1, _, _, by omega, by go_num, rfl, ho.store i _, HST.out, hbel.setCell (p := ⟨w.heap.size, i, none⟩) (Nat.le_refl _) _⟩, meas_up hlt⟩
   ·
    have tb : decide (i < dB.length) = false := decide_eq_false hlb
    have HST := Lib.hid (hst.out _ 0 rfl (by simp [List.getElem?_eq_none (Nat.le_of_not_lt hlb)]))
    clear hst
    generalize dA.getD i 0 = x at *
    have hsub := run_Sub64_y0 x c hcar
    clear hcar
    go_wp2_with fail
    exact ⟨⟨i + 1, _, _, by omega, by go_num, rfl, ho.store i _, HST.out, hbel.setCell (p := ⟨w.heap.size, i, none⟩) (Nat.le_refl _) _⟩, meas_up hlt⟩
  ·
   obtain rfl : i = dA.length := by omega
   have hl := hM.out.len
   have hrow := ho.isRow (by rw [hl]; unfold maxLen; omega)
   rw [hl] at hrow
   have HR := Lib.hid hrow
   have HD := Lib.hid hM.out.dgs
   have HV := Lib.hid (hM.out.done hlen (by rw [Hva.out, Hvb.out]; exact hle))
   clear hl hrow ho
   go_wp2_with fail
   refine (cut_any o _ _ HR.out HD.out).mono ?_
   rintro e w' ⟨v, rfl, hv, rfl⟩
   go_wp2_with fail
   go_ret
   exact ⟨v, rfl, by rw [← Hva.out, ← Hvb.out, ← HV.out]; exact hv, hbel⟩

end Go.Proofs.YtofijjomfhmbjaaGreat
