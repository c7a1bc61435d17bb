/- Part g of the lemmas and walks. -/
import Derived.Deep.DeepCutAuto
import Derived.Deep.CutBlock
import Derived.Laws.StructEq
import Derived.Test.YtkdcgkafjkklcaaGa
import Derived.Test.YtkdcgkafjkklcaaGf

/- LAYER 3: the walks of Div, half, Turned. -/
namespace Go.Proofs.Ytkdcgkafjkklcaa
open Go.RowKit

/-- s points at a box of its own that holds the fraction q. -/
def SumBox (W0 : World) (q : Rat) (s : Value) (wx : World) : Prop :=
  ∃ (N : Nat) (b : Bool) (x : Option Addr) (i j : Nat) (y : Option Addr) (k l : Nat) (T : TypeId), s = .pointer (some ⟨N, 0, none⟩) ∧ W0.heap.size ≤ N ∧ Below W0.heap.size W0 wx ∧ wx.heap[N]? = some (.cells #[.bool b, .slice x i j, .slice y k l] T (0, 0)) ∧ IsRat wx (.agg #[.bool b, .slice x i j, .slice y k l]) q
theorem boxkeep {W w' : World} {cs : Array Value} {T : TypeId} (hb : Below (W.alloc (.cells cs T)).heap.size (W.alloc (.cells cs T)) w') : w'.heap[W.heap.size]? = some (.cells cs T (0, 0)) := blk_keep (blk_new W cs T) hb (by simp)
theorem boxkeepD {W w' : World} {cs : Array Value} {T : TypeId} (hb : Below (W.alloc (.cells cs T)).drew.heap.size (W.alloc (.cells cs T)).drew w') : w'.heap[W.heap.size]? = some (.cells cs T (0, 0)) := boxkeep (W := W) (cs := cs) (T := T) (w' := w') ⟨hb.os, hb.tape, hb.output, hb.size, hb.block⟩
theorem SumBox.of_alloc {W0 wB : World} {q : Rat} {b : Bool} {x y : Option Addr} {i j k l : Nat} {T : TypeId} (hb : Below W0.heap.size W0 (wB.alloc (.cells #[.bool b, .slice x i j, .slice y k l] T))) (hN : W0.heap.size ≤ wB.heap.size) (hv : IsRat wB (.agg #[.bool b, .slice x i j, .slice y k l]) q) :
    SumBox W0 q (.pointer (some ⟨wB.heap.size, 0, none⟩)) (wB.alloc (.cells #[.bool b, .slice x i j, .slice y k l] T)) :=
  ⟨_, b, x, i, j, y, k, l, T, rfl, hN, hb, blk_new _ _ _, hv.below ((Below.refl _ _).alloc (Nat.le_refl _) _)⟩
theorem SumBox.of_set {W0 wB : World} {q : Rat} {N : Nat} {b b0 : Bool} {x y x0 y0 : Option Addr} {i j k l i0 j0 k0 l0 : Nat} {T : TypeId} (hb : Below W0.heap.size W0 (((wB.setCell ⟨N, 0, none⟩ (.bool b)).setCell ⟨N, 1, none⟩ (.slice x i j)).setCell ⟨N, 2, none⟩ (.slice y k l))) (hN : W0.heap.size ≤ N) (hB : wB.heap[N]? = some (.cells #[.bool b0, .slice x0 i0 j0, .slice y0 k0 l0] T (0, 0))) (hv : IsRat wB (.agg #[.bool b, .slice x i j, .slice y k l]) q) :
    SumBox W0 q (.pointer (some ⟨N, 0, none⟩)) (((wB.setCell ⟨N, 0, none⟩ (.bool b)).setCell ⟨N, 1, none⟩ (.slice x i j)).setCell ⟨N, 2, none⟩ (.slice y k l)) := by
  obtain ⟨vn, vd, e, h1, h2⟩ := hv
  simp only [Value.agg.injEq, Array.mk.injEq, List.cons.injEq, Value.bool.injEq, and_true] at e
  obtain ⟨rfl, rfl, rfl⟩ := e
  exact ⟨N, _, x, i, j, y, k, l, T, rfl, hN, hb, by exact blk_set (blk_set (blk_set hB 0 _) 1 _) 2 _, ⟨_, _, rfl, store3 hB h1, store3 hB h2⟩⟩
set_option maxRecDepth 100000 in
set_option maxHeartbeats 2000000 in
theorem divRat_any (x y : Rat) (vx vy : Value) (w : World) (hx : IsRat w vx x) (hy : IsRat w vy y) (hlx : szR x 68719476736) (hly : szR y 68719476736) (hy0 : y.num.natAbs ≠ 0) : Calls Try.prog 65 #[vx, vy] w (RetRatE (x / y) 0 w) := by
  obtain ⟨a1, c1, a2, c2, rfl, n1, n2⟩ := hx.opened
  obtain ⟨a3, c3, a4, c4, rfl, n3, n4⟩ := hy.opened
  have HX := Lib.hid hx
  have HY := Lib.hid hy
  have HLX := Lib.hid hlx
  have HLY := Lib.hid hly
  have H0 := Lib.hid hy0
  have t0 : decide (y.num.natAbs = 0) = false := decide_eq_false hy0
  clear hx hy n1 n2 n3 n4 hlx hly hy0
  go_enter Try.func65, Try.ntmps65
  go_wp2_with fail
  generalize hW0 : ((w.alloc (.cells #[.bool (decide (x.num < 0)), .slice a1 (dig b64 x.num.natAbs).length c1, .slice a2 (dig b64 (dn x.den)).length c2] 50)).alloc (.cells #[.bool (decide (y.num < 0)), .slice a3 (dig b64 y.num.natAbs).length c3, .slice a4 (dig b64 (dn y.den)).length c4] 50)).alloc (.cells #[.bool false, .slice none 0 0, .slice none 0 0] 50) = W at *
  obtain ⟨hal, hB1, hB2, hB3⟩ := boxes3 w _ _ _ _ W hW0.symm
  clear hW0
  refine (zero_any _ _ y.num.natAbs _ _ _ _ _).mono ?_
  rw [t0]
  rintro e w1 ⟨rfl, hb1⟩
  have hB11 := blk_keep hB1 hb1 (blk_lt hB1)
  have hB21 := blk_keep hB2 hb1 (blk_lt hB2)
  have hB31 := blk_keep hB3 hb1 (blk_lt hB3)
  have hx1 := ext_trans hal hb1
  have p0 := blk_cell hB11 0 (.bool (decide (x.num < 0))) rfl
  have p1 := blk_cell hB11 1 (.slice a1 (dig b64 x.num.natAbs).length c1) rfl
  have p2 := blk_cell hB11 2 (.slice a2 (dig b64 (dn x.den)).length c2) rfl
  have r0 := blk_cell hB21 0 (.bool (decide (y.num < 0))) rfl
  have r1 := blk_cell hB21 1 (.slice a3 (dig b64 y.num.natAbs).length c3) rfl
  have r2 := blk_cell hB21 2 (.slice a4 (dig b64 (dn y.den)).length c4) rfl
  have HB : Hid (RB w1 (w.heap.size + 2)) := ⟨false, none, 0, 0, none, 0, 0, _, hB31⟩
  have hl3 := blk_lt hB31
  clear hB1 hB2 hB3 hB11 hB21 hB31 hb1 hal
  go_wp2_with fail
  refine (byRat_any x y _ _ _ (HX.out.below hx1) (HY.out.below hx1) HLX.out HLY.out H0.out).mono ?_
  rintro e w3 ⟨v, rfl, hv, hb⟩
  have hRB := HB.out.keep hb hl3
  obtain ⟨a5, c5, a6, c6, rfl, n5, n6⟩ := IsRat.opened hv
  have hx := ext_trans hx1 hb
  obtain ⟨g0, g1, g2, f0', f1', f2'⟩ := hRB.cell
  have hBl := hRB.lt
  generalize x / y = q at *
  clear hv hb hx1 p0 p1 p2 r0 r1 r2
  go_wp2_with fail
  refine bodyPost_ret (v := .tuple #[.agg #[.bool (decide (q.num < 0)), .slice a5 (dig b64 q.num.natAbs).length _, .slice a6 (dig b64 (dn q.den)).length _], .int .i64 0]) (by simp [results, Try.results65, go_sem, g0, g1, g2]; first | done | exact ⟨⟨rfl, rfl⟩, rfl⟩ | exact ⟨rfl, rfl⟩ | rfl) rfl ⟨_, rfl, ?_, below_store3 hx (by omega)⟩
  exact IsRat.stored hRB n5 n6 rfl rfl

theorem keepB3c {n : Nat} {W a b : World} {A0 A1 A2 : Addr} {v0 v1 v2 : Value} (hn : n ≤ W.heap.size) (hb : Below a.heap.size a b) (h : Below n W a ∧ a.cell? A0 = some v0 ∧ a.cell? A1 = some v1 ∧ a.cell? A2 = some v2) :
    Below n W b ∧ b.cell? A0 = some v0 ∧ b.cell? A1 = some v1 ∧ b.cell? A2 = some v2 := by
  obtain ⟨h0, h1, h2, h3⟩ := h
  have e : ∀ A v, a.cell? A = some v → b.cell? A = some v := fun A v h => (hb.cell (World.block_lt_of_cell? (h := h))).trans h
  have := h0.size
  exact ⟨h0.trans (hb.mono (by omega)), e _ _ h1, e _ _ h2, e _ _ h3⟩
theorem keepB3s {n : Nat} {W a : World} {N B1 j0 j1 j2 : Nat} {v0 v1 v2 u0 u1 u2 : Value} (hn : n ≤ N) (h1 : B1 ≠ N) (h : Below n W a ∧ a.cell? ⟨B1, j0, none⟩ = some v0 ∧ a.cell? ⟨B1, j1, none⟩ = some v1 ∧ a.cell? ⟨B1, j2, none⟩ = some v2) (b : World)
    (hb : b = ((a.setCell ⟨N, 0, none⟩ u0).setCell ⟨N, 1, none⟩ u1).setCell ⟨N, 2, none⟩ u2) : Below n W b ∧ b.cell? ⟨B1, j0, none⟩ = some v0 ∧ b.cell? ⟨B1, j1, none⟩ = some v1 ∧ b.cell? ⟨B1, j2, none⟩ = some v2 := by
  subst hb
  have e : ∀ B j v, B ≠ N → a.cell? ⟨B, j, none⟩ = some v → (((a.setCell ⟨N, 0, none⟩ u0).setCell ⟨N, 1, none⟩ u1).setCell ⟨N, 2, none⟩ u2).cell? ⟨B, j, none⟩ = some v := fun B j v hne h => by
    rw [World.cell?_setCell_other, World.cell?_setCell_other, World.cell?_setCell_other, h]
    all_goals intro e; cases e; exact hne rfl
  obtain ⟨h0, k0, k1, k2⟩ := h
  exact ⟨below_store3 h0 hn, e _ _ _ h1 k0, e _ _ _ h1 k1, e _ _ _ h1 k2⟩
theorem keepB3a {n : Nat} {W a : World} {o o' : Obj} {B1 j0 j1 j2 : Nat} {v0 v1 v2 : Value} (hn : n ≤ a.heap.size) (h1 : B1 < a.heap.size) (h : Below n W (a.alloc o) ∧ (a.alloc o).cell? ⟨B1, j0, none⟩ = some v0 ∧ (a.alloc o).cell? ⟨B1, j1, none⟩ = some v1 ∧ (a.alloc o).cell? ⟨B1, j2, none⟩ = some v2) :
    Below n W (a.alloc o') ∧ (a.alloc o').cell? ⟨B1, j0, none⟩ = some v0 ∧ (a.alloc o').cell? ⟨B1, j1, none⟩ = some v1 ∧ (a.alloc o').cell? ⟨B1, j2, none⟩ = some v2 := by
  have e : ∀ B j v, B < a.heap.size → (a.alloc o).cell? ⟨B, j, none⟩ = some v → (a.alloc o').cell? ⟨B, j, none⟩ = some v := fun B j v hB h => by
    rw [← h]
    exact World.cell?_of_block (a := ⟨B, j, none⟩) ((heap_alloc_old a o' hB).trans (heap_alloc_old a o hB).symm)
  obtain ⟨h0, k0, k1, k2⟩ := h
  exact ⟨⟨h0.os, h0.tape, h0.output, by have := h0.size; simp at this ⊢; exact this, fun k hk => ((heap_alloc_old a o' (by omega)).trans (heap_alloc_old a o (by omega)).symm).trans (h0.block k hk)⟩, e _ _ _ h1 k0, e _ _ _ h1 k1, e _ _ _ h1 k2⟩

set_option maxRecDepth 100000 in
set_option maxHeartbeats 4000000 in
theorem half_any (x : Rat) (vx : Value) (w : World) (hx : IsRat w vx x) (hlx : szR x 68719476736) : Calls Try.prog 96 #[vx] w (RetRat (x / 2) w) := by
  obtain ⟨a1, c1, a2, c2, rfl, n1, n2⟩ := hx.opened
  have HX := Lib.hid hx
  have HLX := Lib.hid hlx
  have HS2 := Lib.hid (i64_szR 2 (by omega) (by omega) 68719476736 (by omega))
  have H20 : Hid ((((2 : Int) : Rat)).num.natAbs ≠ 0) := by show _ ≠ _; simp
  have HN2 : Hid (∀ W, Calls Try.prog 66 #[.int .i64 2] W (RetRat (((2 : Int) : Rat)) W)) := fun W => whole_any 2 W (by omega) (by omega)
  have He : Hid (x / (((2 : Int) : Rat)) = x / 2) := rfl
  have HD : Hid (∀ v W, IsRat W (.agg #[.bool (decide (x.num < 0)), .slice a1 (dig b64 x.num.natAbs).length c1, .slice a2 (dig b64 (dn x.den)).length c2]) x → IsRat W v (((2 : Int) : Rat)) → Calls Try.prog 65 #[.agg #[.bool (decide (x.num < 0)), .slice a1 (dig b64 x.num.natAbs).length c1, .slice a2 (dig b64 (dn x.den)).length c2], v] W (RetRatE (x / 2) 0 W)) := fun v W h1 h2 => by
    have := divRat_any x (((2 : Int) : Rat)) _ v W h1 h2 HLX.out HS2.out H20.out
    rw [He.out] at this
    exact this
  clear hx n1 n2 hlx H20 HS2 He HLX
  go_enter Try.func96, Try.ntmps96
  go_wp2_with fail
  generalize hsx : decide (x.num < 0) = sx at *
  clear hsx
  have hB1 := blk_new w #[.bool sx, .slice a1 (dig b64 x.num.natAbs).length c1, .slice a2 (dig b64 (dn x.den)).length c2] 50
  have hA1 := (Below.refl w.heap.size w).alloc (Nat.le_refl _) (.cells #[.bool sx, .slice a1 (dig b64 x.num.natAbs).length c1, .slice a2 (dig b64 (dn x.den)).length c2] 50)
  have hB2 := blk_new (w.alloc (.cells #[.bool sx, .slice a1 (dig b64 x.num.natAbs).length c1, .slice a2 (dig b64 (dn x.den)).length c2] 50)) #[.bool false, .slice none 0 0, .slice none 0 0] 50
  rw [World.size_alloc] at hB2
  have hB12 := blk_keep hB1 ((Below.refl _ _).alloc (Nat.le_refl _) (.cells #[.bool false, .slice none 0 0, .slice none 0 0] 50)) (blk_lt hB1)
  have hA2 := hA1.alloc hA1.size (.cells #[.bool false, .slice none 0 0, .slice none 0 0] 50)
  generalize (w.alloc (.cells #[.bool sx, .slice a1 (dig b64 x.num.natAbs).length c1, .slice a2 (dig b64 (dn x.den)).length c2] 50)).alloc (.cells #[.bool false, .slice none 0 0, .slice none 0 0] 50) = W10 at *
  have HB : Hid (RB W10 (w.heap.size + 1)) := ⟨false, none, 0, 0, none, 0, 0, _, hB2⟩
  have hl1 := blk_lt hB12
  have hl2 := blk_lt hB2
  have HX10 := Lib.hid (HX.out.below hA2)
  have hZZ := (Below.refl W10.heap.size W10).alloc (Nat.le_refl _) (.cells #[.bool false, .slice none 0 0, .slice none 0 0] 50)
  have c1' : W10.drew.cell? ⟨w.heap.size, 0, none⟩ = some (.bool sx) := blk_cell hB12 0 _ rfl
  have c2' : W10.drew.cell? ⟨w.heap.size, 1, none⟩ = some (.slice a1 (dig b64 x.num.natAbs).length c1) := blk_cell hB12 1 _ rfl
  have c3' : W10.drew.cell? ⟨w.heap.size, 2, none⟩ = some (.slice a2 (dig b64 (dn x.den)).length c2) := blk_cell hB12 2 _ rfl
  have d1' : (W10.alloc (.cells #[.bool false, .slice none 0 0, .slice none 0 0] 50)).drew.cell? ⟨w.heap.size, 0, none⟩ = some (.bool sx) := blk_cell (blk_keep hB12 hZZ hl1) 0 _ rfl
  have d2' : (W10.alloc (.cells #[.bool false, .slice none 0 0, .slice none 0 0] 50)).drew.cell? ⟨w.heap.size, 1, none⟩ = some (.slice a1 (dig b64 x.num.natAbs).length c1) := blk_cell (blk_keep hB12 hZZ hl1) 1 _ rfl
  have d3' : (W10.alloc (.cells #[.bool false, .slice none 0 0, .slice none 0 0] 50)).drew.cell? ⟨w.heap.size, 2, none⟩ = some (.slice a2 (dig b64 (dn x.den)).length c2) := blk_cell (blk_keep hB12 hZZ hl1) 2 _ rfl
  have hds : W10.drew.heap.size = W10.heap.size := rfl
  have HDS := Lib.hid hds
  clear hds hZZ hB1 hB2 hA1 HX
  go_cut [3] from 3 to 10 (fun s wx => SumBox W10 (x / 2) s wx)
  case first =>
    go_region_held3 (fun w' => Below W10.heap.size W10 w' ∧ w'.cell? ⟨w.heap.size, 0, none⟩ = some (.bool sx) ∧ w'.cell? ⟨w.heap.size, 1, none⟩ = some (.slice a1 (dig b64 x.num.natAbs).length c1) ∧ w'.cell? ⟨w.heap.size, 2, none⟩ = some (.slice a2 (dig b64 (dn x.den)).length c2))
      (first | exact ⟨(Below.refl _ _).drew, c1', c2', c3'⟩ | exact ⟨((Below.refl _ _).alloc (Nat.le_refl _) _).drew, d1', d2', d3'⟩ | assumption | (refine keepB3c (Nat.le_refl _) hbB ?_; assumption) | (refine keepB3c (Nat.le_refl _) hbA ?_; assumption) | (refine keepB3c (Nat.le_refl _) ((Below.refl _ _).alloc (Nat.le_refl _) _) ?_; assumption) | exact keepB3a hWB (by omega) (by assumption) | (refine keepB3s hNN (by omega) (by assumption) _ rfl))
      (first
        | (go_at_call 66; refine (HN2.out _).mono ?_; rintro e wA ⟨vN, rfl, hvN, hbA⟩; obtain ⟨a7, k7, a8, k8, rfl, _, _⟩ := hvN.opened; have HVN := Lib.hid hvN; (first | (with_reducible have HNA := Lib.hid (boxkeepD hbA)) | (with_reducible have HNA := Lib.hid (boxkeep hbA)) | skip); clear hvN)
        | (go_at_call 65; (refine (HD.out _ _ (HX10.out.below (And.left (by assumption))) (by first | exact HVN.out | exact HVN.out.below ((Below.refl _ _).alloc (Nat.le_refl _) _))).mono ?_); rintro e wB ⟨vS, rfl, hvS, hbB⟩; obtain ⟨a9, k9, a10, k10, rfl, _, _⟩ := hvS.opened; have HVS := Lib.hid hvS; clear hvS; (have hWB : W10.heap.size ≤ wB.heap.size := by have q1 := hbA.size; have q2 := hbB.size; simp at q1 q2; omega); (first | ((with_reducible have hNB := boxkeep hbB); have hNN : W10.heap.size ≤ wA.heap.size := hbA.size) | (have hNB := blk_keep HNA.out hbB (blk_lt HNA.out); have hNN : W10.heap.size ≤ W10.heap.size := Nat.le_refl _) | skip); (try (have n0 := blk_cell hNB 0 _ rfl; have n1 := blk_cell hNB 1 _ rfl; have n2 := blk_cell hNB 2 _ rfl; have f0 := blk_frozen hNB 0; have f1 := blk_frozen hNB 1; have f2 := blk_frozen hNB 2))))
    all_goals
      rename_i hS
      have hbS := hS.1
      clear hS
      go_wp2_with fail
      go_meet
      first | exact SumBox.of_alloc hbS hWB HVS.out | exact SumBox.of_set hbS hNN hNB HVS.out
  case rest =>
    obtain ⟨N, b7, x7, i7, j7, y7, k7, l7, T7, rfl, hN, hbc, hNB, hvN⟩ := hcut
    have nn0 := blk_cell hNB 0 _ rfl
    have nn1 := blk_cell hNB 1 _ rfl
    have nn2 := blk_cell hNB 2 _ rfl
    have hRB := HB.out.keep hbc hl2
    have hxc := ext_trans hA2 hbc
    obtain ⟨g0, g1, g2, f0', f1', f2'⟩ := hRB.cell
    have hBl := hRB.lt
    have hneN : N ≠ w.heap.size + 1 := by omega
    obtain ⟨vn, vd, hag, n5, n6⟩ := hvN
    simp only [Value.agg.injEq, Array.mk.injEq, List.cons.injEq, and_true] at hag
    obtain ⟨hb7, rfl, rfl⟩ := hag
    have Hb7 := Lib.hid hb7
    generalize x / 2 = q at *
    clear hNB c1' c2' c3' d1' d2' d3' hb7
    go_wp2_with fail
    refine bodyPost_ret (v := .agg #[.bool b7, .slice x7 i7 j7, .slice y7 k7 l7]) (by simp [results, Try.results96, go_sem, g0, g1, g2]; first | done | exact ⟨rfl, rfl⟩ | rfl) rfl ⟨_, rfl, ?_, below_store3 hxc (by omega)⟩
    exact IsRat.stored hRB n5 n6 (by have := Hb7.out; simpa using this.symm) rfl

theorem dir_fields : (Try.prog.fieldsOf 46).toList = [{ name := "P", type := 3, offset := 0, embedded := false, tag := "", pkgPath := "", byteOffset := 0 }, { name := "Q", type := 3, offset := 1, embedded := false, tag := "", pkgPath := "", byteOffset := 8 }] := by kernel_rfl
theorem part2 (a b : Int) (w : World) : (part 3 #[Value.int .i64 a, .int .i64 b] 0).run Try.prog w = .ok (.int .i64 a) w ∧ (part 3 #[Value.int .i64 a, .int .i64 b] 1).run Try.prog w = .ok (.int .i64 b) w := ⟨by kernel_rfl, by kernel_rfl⟩
theorem eqInt (x y : Int) (w : World) : (Op.equalIn 9999 3 (.int .i64 x) (.int .i64 y)).run Try.prog w = .ok (x == y) w := by rw [run_equalIn_int w 9998 3 .i64 .i64 x y Try.underlying3]
set_option maxRecDepth 100000 in
theorem eql_dir (a b c d : Int) (w : World) : (binOp .eql 46 (.agg #[.int .i64 a, .int .i64 b]) (.agg #[.int .i64 c, .int .i64 d])).run Try.prog w = .ok (.bool (a == c && b == d)) w := by
  rw [run_eql_struct, run_equalIn_struct w 9999 46 _ _ (by kernel_rfl) (by kernel_rfl), dir_fields]
  have n0 : ("P" ≠ "_") := by decide
  have n1 : ("Q" ≠ "_") := by decide
  unfold Op.eqFields
  rw [if_pos n0]
  simp only [Sem.run_bind, (part2 _ _ _).1, eqInt, Result.andThen_ok, Sem.run_ite]
  cases a == c with
  | false => simp
  | true =>
    unfold Op.eqFields
    rw [if_pos n1]
    simp only [Sem.run_bind, (part2 _ _ _).2, eqInt, Result.andThen_ok, Sem.run_ite]
    unfold Op.eqFields
    by_cases h : b = d <;> simp [h]

set_option maxHeartbeats 2000000 in
theorem checkDir_ok (p q : Int) (w : World) (h0 : p ≠ 0 ∨ q ≠ 0) (h1 : inB p (-1048576) 1048576 = true) (h2 : inB q (-1048576) 1048576 = true) : Calls Try.prog 48 #[.agg #[.int .i64 p, .int .i64 q]] w (RetInt 0 w) := by
  have hal := (Below.refl w.heap.size w).alloc (Nat.le_refl _) (.cells #[.int .i64 p, .int .i64 q] 46)
  have hB0 := blk_new w #[.int .i64 p, .int .i64 q] 46
  have he := eql_dir p q 0 0
  have e0 : (p == 0 && q == 0) = false := by
    rcases h0 with h | h
    · rw [beq_eq_false_iff_ne.2 h]; rfl
    · rw [beq_eq_false_iff_ne.2 h]; simp
  rw [e0] at he
  have H1 := Lib.hid h1
  have H2 := Lib.hid h2
  clear h0 h1 h2 e0
  go_enter Try.func48, Try.ntmps48
  go_wp2_with fail
  refine (within_any p _ _ _).mono ?_
  rw [H1.out]
  rintro e w1 ⟨rfl, hb1⟩
  have c1 := blk_cell (blk_keep hB0 hb1 (blk_lt hB0)) 1 (.int .i64 q) rfl
  have hx1 := ext_trans hal hb1
  clear hal hB0 hb1
  go_wp2_with fail
  refine (within_any q _ _ _).mono ?_
  rw [H2.out]
  rintro e w2 ⟨rfl, hb2⟩
  go_wp2_with fail
  go_ret
  exact ⟨rfl, ext_trans hx1 hb2⟩

def RetPt (p : Pt) (w : World) (e : Ending) (w' : World) : Prop := e = .returned (.tuple #[.agg #[.int .i64 p.1, .int .i64 p.2], .int .i64 0]) ∧ Below w.heap.size w w'
set_option maxRecDepth 100000 in
set_option maxHeartbeats 4000000 in
theorem turned_ok (d p : Pt) (w : World) (h0 : d.1 ≠ 0 ∨ d.2 ≠ 0) (h1 : inB d.1 (-1048576) 1048576 = true) (h2 : inB d.2 (-1048576) 1048576 = true) (h3 : inB p.1 (-1048576) 1048576 = true) (h4 : inB p.2 (-1048576) 1048576 = true) :
    Calls Try.prog 19 #[.agg #[.int .i64 d.1, .int .i64 d.2], .agg #[.int .i64 p.1, .int .i64 p.2]] w (RetPt (turnI d p) w) := by
  have r1 : -1048576 ≤ d.1 ∧ d.1 ≤ 1048576 := by simpa [inB] using h1
  have r2 : -1048576 ≤ d.2 ∧ d.2 ≤ 1048576 := by simpa [inB] using h2
  have r3 : -1048576 ≤ p.1 ∧ p.1 ≤ 1048576 := by simpa [inB] using h3
  have r4 : -1048576 ≤ p.2 ∧ p.2 ≤ 1048576 := by simpa [inB] using h4
  have m1 := mul_absI r1 r3
  have m2 := mul_absI r2 r4
  have m3 := mul_absI r1 r4
  have m4 := mul_absI r2 r3
  have Hx : Hid ((turnI d p).1 = d.1 * p.1 + d.2 * p.2) := rfl
  have Hy : Hid ((turnI d p).2 = d.1 * p.2 - d.2 * p.1) := rfl
  have HC := Lib.hid (fun W => checkDir_ok d.1 d.2 W h0 h1 h2)
  have H3 := Lib.hid h3
  have H4 := Lib.hid h4
  clear h0 h1 h2 h3 h4 r1 r2 r3 r4
  obtain ⟨tx, htx⟩ : ∃ tx, tx = (turnI d p).1 := ⟨_, rfl⟩
  obtain ⟨ty, hty⟩ : ∃ ty, ty = (turnI d p).2 := ⟨_, rfl⟩
  rw [← htx] at Hx
  rw [← hty] at Hy
  have HTX := Lib.hid htx
  have HTY := Lib.hid hty
  clear htx hty
  generalize turnI d p = tp at *
  generalize d.1 = a at *
  generalize d.2 = b at *
  generalize p.1 = x at *
  generalize p.2 = y at *
  have e1 : IntKind.i64.wrap (a * x) = a * x := IntWalk.i64_in _ (by omega)
  have e2 : IntKind.i64.wrap (b * y) = b * y := IntWalk.i64_in _ (by omega)
  have e3 : IntKind.i64.wrap (a * y) = a * y := IntWalk.i64_in _ (by omega)
  have e4 : IntKind.i64.wrap (b * x) = b * x := IntWalk.i64_in _ (by omega)
  have e5 : IntKind.i64.wrap (a * x + b * y) = tx := by rw [Hx.out]; exact IntWalk.i64_in _ (by omega)
  have e6 : IntKind.i64.wrap (a * y - b * x) = ty := by rw [Hy.out]; exact IntWalk.i64_in _ (by omega)
  clear m1 m2 m3 m4
  have hA1 := (Below.refl w.heap.size w).alloc (Nat.le_refl _) (.cells #[.int .i64 a, .int .i64 b] 46)
  have hB1 := blk_new w #[.int .i64 a, .int .i64 b] 46
  have hA2 := hA1.alloc hA1.size (.cells #[.int .i64 x, .int .i64 y] 55)
  have hB1' := blk_keep hB1 ((Below.refl _ _).alloc (Nat.le_refl _) (.cells #[.int .i64 x, .int .i64 y] 55)) (blk_lt hB1)
  have hB2 := blk_new (w.alloc (.cells #[.int .i64 a, .int .i64 b] 46)) #[.int .i64 x, .int .i64 y] 55
  rw [World.size_alloc] at hB2
  have hA3 := hA2.alloc hA2.size (.cells #[.int .i64 0, .int .i64 0] 55)
  have hB1'' := blk_keep hB1' ((Below.refl _ _).alloc (Nat.le_refl _) (.cells #[.int .i64 0, .int .i64 0] 55)) (blk_lt hB1')
  have hB2' := blk_keep hB2 ((Below.refl _ _).alloc (Nat.le_refl _) (.cells #[.int .i64 0, .int .i64 0] 55)) (blk_lt hB2)
  have hB3 := blk_new ((w.alloc (.cells #[.int .i64 a, .int .i64 b] 46)).alloc (.cells #[.int .i64 x, .int .i64 y] 55)) #[.int .i64 0, .int .i64 0] 55
  rw [World.size_alloc, World.size_alloc] at hB3
  go_enter Try.func19, Try.ntmps19
  go_wp2_with fail
  generalize ((w.alloc (.cells #[.int .i64 a, .int .i64 b] 46)).alloc (.cells #[.int .i64 x, .int .i64 y] 55)).alloc (.cells #[.int .i64 0, .int .i64 0] 55) = W at *
  clear hA1 hA2 hB1 hB1' hB2
  refine (HC.out _).mono ?_
  rintro e w1 ⟨rfl, hb1⟩
  have k1 := blk_keep hB1'' hb1 (blk_lt hB1'')
  have k2 := blk_keep hB2' hb1 (blk_lt hB2')
  have k3 := blk_keep hB3 hb1 (blk_lt hB3)
  have hx1 := ext_trans hA3 hb1
  have q0 := blk_cell k2 0 (.int .i64 x) rfl
  clear hA3 hB1'' hB2' hB3 hb1
  go_wp2_with fail
  refine (within_any x _ _ _).mono ?_
  rw [H3.out]
  rintro e w2 ⟨rfl, hb2⟩
  have l1 := blk_keep k1 hb2 (blk_lt k1)
  have l2 := blk_keep k2 hb2 (blk_lt k2)
  have l3 := blk_keep k3 hb2 (blk_lt k3)
  have hx2 := ext_trans hx1 hb2
  have q1 := blk_cell l2 1 (.int .i64 y) rfl
  clear k1 k2 k3 hx1 hb2 q0
  go_wp2_with fail
  refine (within_any y _ _ _).mono ?_
  rw [H4.out]
  rintro e w3 ⟨rfl, hb3⟩
  have m1 := blk_keep l1 hb3 (blk_lt l1)
  have m2 := blk_keep l2 hb3 (blk_lt l2)
  have m3 := blk_keep l3 hb3 (blk_lt l3)
  have hx3 := ext_trans hx2 hb3
  have s0 := blk_cell m1 0 (.int .i64 a) rfl
  have s1 := blk_cell m1 1 (.int .i64 b) rfl
  have s2 := blk_cell m2 0 (.int .i64 x) rfl
  have s3 := blk_cell m2 1 (.int .i64 y) rfl
  have s4 := blk_cell m3 0 (.int .i64 0) rfl
  have s5 := blk_cell m3 1 (.int .i64 0) rfl
  have f0 := blk_frozen m3 0
  have f1 := blk_frozen m3 1
  have hl3 := blk_lt m3
  clear l1 l2 l3 hx2 hb3 q1 m1 m2 m3
  go_wp2_with fail
  refine bodyPost_ret (v := .tuple #[.agg #[.int .i64 tx, .int .i64 ty], .int .i64 0]) (by simp [results, Try.results19, go_sem, s4, s5]; first | done | exact ⟨rfl, rfl⟩ | rfl) rfl ⟨by rw [HTX.out, HTY.out], (hx3.setCell (p := ⟨w.heap.size + 2, 0, none⟩) (by show _ ≤ w.heap.size + 2; omega) _).setCell (p := ⟨w.heap.size + 2, 1, none⟩) (by show _ ≤ w.heap.size + 2; omega) _⟩

end Go.Proofs.Ytkdcgkafjkklcaa

/- LAYER 3: the walks of vertices, area, Area. -/
namespace Go.Proofs.Ytkdcgkafjkklcaa
open Go.RowKit

theorem IsRat.grownL {w w' : World} {v : Value} {q : Rat} {row : Option Nat} (h : IsRat w v q) (hg : w.grownBy w' row) (hr : ∀ g, row = some g → NoDig w g) : IsRat w' v q := by
  obtain ⟨vn, vd, rfl, h1, h2⟩ := h
  exact ⟨vn, vd, rfl, IsRow.grown (.inl rfl) h1 hg hr, IsRow.grown (.inl rfl) h2 hg hr⟩
theorem ownBlock_low {w : World} {base : Nat} {e : TypeId} {size : Nat} {v : Value} {n : Nat} {xs : List Value} (h : w.ownsRow base e size v n xs) : ∀ k, v.ownBlock = some k → base ≤ k := by
  intro k hk
  rcases h.2 with ⟨rfl, _⟩ | ⟨g, cap, cur, rfl, hb, _⟩
  · simp [Value.ownBlock] at hk
  · simp [Value.ownBlock] at hk
    omega
/-- Six cells read as a corner with fractions. -/
def VtxAt (w : World) (b o : Nat) (p : Rat × Rat) : Prop :=
  ∃ v0 v1 v2 v3 v4 v5, w.cell? ⟨b, o, none⟩ = some v0 ∧ w.cell? ⟨b, o + 1, none⟩ = some v1 ∧ w.cell? ⟨b, o + 2, none⟩ = some v2 ∧ w.cell? ⟨b, o + 3, none⟩ = some v3 ∧ w.cell? ⟨b, o + 4, none⟩ = some v4 ∧ w.cell? ⟨b, o + 5, none⟩ = some v5 ∧
    IsRat w (.agg #[v0, v1, v2]) p.1 ∧ IsRat w (.agg #[v3, v4, v5]) p.2
def VtxOf (w : World) (v : Value) (vs : List (Rat × Rat)) : Prop :=
  ∃ ao cap, v = .slice ao vs.length cap ∧ (0 < vs.length → ∃ b off, ao = some ⟨b, off, none⟩ ∧ b < w.heap.size ∧ ∀ i, i < vs.length → VtxAt w b (off + i * 6) (vs.getD i (0, 0)))
theorem VtxAt.below {w w' : World} {b o : Nat} {p : Rat × Rat} (h : VtxAt w b o p) (hb : Below w.heap.size w w') (hl : b < w.heap.size) : VtxAt w' b o p := by
  obtain ⟨v0, v1, v2, v3, v4, v5, h0, h1, h2, h3, h4, h5, h6, h7⟩ := h
  have c : ∀ j v, w.cell? ⟨b, j, none⟩ = some v → w'.cell? ⟨b, j, none⟩ = some v := fun j v h => (hb.cell (p := ⟨b, j, none⟩) hl).trans h
  exact ⟨v0, v1, v2, v3, v4, v5, c _ _ h0, c _ _ h1, c _ _ h2, c _ _ h3, c _ _ h4, c _ _ h5, h6.below hb, h7.below hb⟩
theorem VtxOf.below {w w' : World} {v : Value} {vs : List (Rat × Rat)} (h : VtxOf w v vs) (hb : Below w.heap.size w w') : VtxOf w' v vs := by
  obtain ⟨ao, cap, rfl, h⟩ := h
  refine ⟨ao, cap, rfl, fun hl => ?_⟩
  obtain ⟨b, off, rfl, hlt, h⟩ := h hl
  exact ⟨b, off, rfl, Nat.lt_of_lt_of_le hlt hb.size, fun i hi => (h i hi).below hb hlt⟩
/-- The values xs, six by six, read as corners. -/
def VtxRow (w : World) (xs : List Value) (vs : List (Rat × Rat)) : Prop :=
  xs.length = vs.length * 6 ∧ ∀ j, j < vs.length → ∃ v0 v1 v2 v3 v4 v5, xs[j * 6]? = some v0 ∧ xs[j * 6 + 1]? = some v1 ∧ xs[j * 6 + 2]? = some v2 ∧ xs[j * 6 + 3]? = some v3 ∧ xs[j * 6 + 4]? = some v4 ∧ xs[j * 6 + 5]? = some v5 ∧
    IsRat w (.agg #[v0, v1, v2]) (vs.getD j (0, 0)).1 ∧ IsRat w (.agg #[v3, v4, v5]) (vs.getD j (0, 0)).2
theorem VtxRow.mono {w w' : World} {xs : List Value} {vs : List (Rat × Rat)} (h : VtxRow w xs vs) (hr : ∀ v q, IsRat w v q → IsRat w' v q) : VtxRow w' xs vs :=
  ⟨h.1, fun j hj => by obtain ⟨v0, v1, v2, v3, v4, v5, h0, h1, h2, h3, h4, h5, h6, h7⟩ := h.2 j hj; exact ⟨v0, v1, v2, v3, v4, v5, h0, h1, h2, h3, h4, h5, hr _ _ h6, hr _ _ h7⟩⟩
theorem VtxRow.nil (w : World) : VtxRow w [] [] := ⟨rfl, fun j hj => absurd hj (by simp)⟩
theorem VtxRow.snoc {w : World} {xs : List Value} {vs : List (Rat × Rat)} (h : VtxRow w xs vs) {v0 v1 v2 v3 v4 v5 : Value} {p q : Rat} (hp : IsRat w (.agg #[v0, v1, v2]) p) (hq : IsRat w (.agg #[v3, v4, v5]) q) :
    VtxRow w (xs ++ [v0, v1, v2, v3, v4, v5]) (vs ++ [(p, q)]) := by
  obtain ⟨hl, h⟩ := h
  refine ⟨by simp [hl]; omega, fun j hj => ?_⟩
  rcases Nat.lt_or_ge j vs.length with h1 | h1
  · obtain ⟨u0, u1, u2, u3, u4, u5, k0, k1, k2, k3, k4, k5, k6, k7⟩ := h j h1
    have e : ∀ k, k < 6 → (xs ++ [v0, v1, v2, v3, v4, v5])[j * 6 + k]? = xs[j * 6 + k]? := fun k hk => List.getElem?_append_left (by omega)
    have e2 : (vs ++ [(p, q)]).getD j (0, 0) = vs.getD j (0, 0) := by simp [List.getD, List.getElem?_append_left h1]
    rw [e2]
    exact ⟨u0, u1, u2, u3, u4, u5, by rw [← k0]; exact e 0 (by omega), by rw [← k1]; exact e 1 (by omega), by rw [← k2]; exact e 2 (by omega), by rw [← k3]; exact e 3 (by omega), by rw [← k4]; exact e 4 (by omega), by rw [← k5]; exact e 5 (by omega), k6, k7⟩
  · obtain rfl : j = vs.length := by simp at hj; omega
    have e : ∀ k, (xs ++ [v0, v1, v2, v3, v4, v5])[vs.length * 6 + k]? = ([v0, v1, v2, v3, v4, v5] : List Value)[k]? := fun k => by rw [List.getElem?_append_right (by omega), hl]; congr 1; omega
    have e2 : (vs ++ [(p, q)]).getD vs.length (0, 0) = (p, q) := by simp [List.getD]
    rw [e2]
    exact ⟨v0, v1, v2, v3, v4, v5, e 0, e 1, e 2, e 3, e 4, e 5, hp, hq⟩
theorem VtxOf.ofRow {w : World} {base : Nat} {e : TypeId} {v : Value} {xs : List Value} {vs : List (Rat × Rat)} (h : LRow w base e 6 v vs.length xs) (ht : VtxRow w xs vs) : VtxOf w v vs := by
  rcases Nat.eq_zero_or_pos vs.length with h0 | hp
  · rcases h.1.2 with ⟨rfl, _⟩ | ⟨g, cap, cur, rfl, _⟩
    · exact ⟨none, 0, by rw [h0], fun h => absurd h (by omega)⟩
    · exact ⟨_, _, rfl, fun h => absurd h (by omega)⟩
  · obtain ⟨g, cap, rfl⟩ := ownsRow_some h.1 hp
    have hc : ∀ j u, xs[j]? = some u → w.cell? ((⟨g, 0, none⟩ : Addr).add j) = some u := h.1.cells (g := g) rfl
    have hlt : g < w.heap.size := (h.lt rfl).1
    refine ⟨_, _, rfl, fun _ => ⟨g, 0, rfl, hlt, fun i hi => ?_⟩⟩
    obtain ⟨v0, v1, v2, v3, v4, v5, h0, h1, h2, h3, h4, h5, h6, h7⟩ := ht.2 i hi
    have ea : ∀ j, (⟨g, 0, none⟩ : Addr).add j = ⟨g, 0 + j, none⟩ := fun j => by unfold Addr.add; split <;> simp_all
    refine ⟨v0, v1, v2, v3, v4, v5, ?_, ?_, ?_, ?_, ?_, ?_, h6, h7⟩
    · rw [← ea]; exact hc _ _ h0
    all_goals rw [Nat.add_assoc, ← ea]
    · exact hc _ _ h1
    · exact hc _ _ h2
    · exact hc _ _ h3
    · exact hc _ _ h4
    · exact hc _ _ h5
/-- The corners so far. -/
structure VS (w0 w : World) (va : Value) (xs : List Value) (vs : List (Rat × Rat)) : Prop where
  x : Below w0.heap.size w0 w
  la : LRow w w0.heap.size 182 6 va vs.length xs
  ta : VtxRow w xs vs
theorem VS.below {w0 w w' : World} {va : Value} {xs : List Value} {vs : List (Rat × Rat)} (h : VS w0 w va xs vs) (hb : Below w.heap.size w w') : VS w0 w' va xs vs :=
  ⟨ext_trans h.x hb, h.la.below hb, h.ta.mono fun _ _ hr => hr.below hb⟩
theorem VS.alloc {w0 w : World} {va : Value} {xs : List Value} {vs : List (Rat × Rat)} (h : VS w0 w va xs vs) (o : Obj) : VS w0 (w.alloc o) va xs vs := h.below ((Below.refl _ _).alloc (Nat.le_refl _) _)
theorem VS.append {w0 w w' : World} {va va' : Value} {xs : List Value} {vs : List (Rat × Rat)} (h : VS w0 w va xs vs) {v0 v1 v2 v3 v4 v5 : Value} {p q : Rat} (hp : IsRat w (.agg #[v0, v1, v2]) p) (hq : IsRat w (.agg #[v3, v4, v5]) q)
    (hL : LRow w' w0.heap.size 182 6 va' (vs.length + 1) (xs ++ [v0, v1, v2, v3, v4, v5])) (hg : w.grownBy w' va.ownBlock) : VS w0 w' va' (xs ++ [v0, v1, v2, v3, v4, v5]) (vs ++ [(p, q)]) := by
  have hnd : ∀ g, va.ownBlock = some g → NoDig w g := h.la.2
  exact ⟨h.x.grown hg h.x.size (ownBlock_low h.la.1), by rw [List.length_append]; exact hL, (h.ta.mono fun _ _ hr => hr.grownL hg hnd).snoc (hp.grownL hg hnd) (hq.grownL hg hnd)⟩
theorem cell_new6 (w : World) (a b c d e f : Value) (t : TypeId) : ∀ j u, [a, b, c, d, e, f][j]? = some u → (w.alloc (.cells #[a, b, c, d, e, f] t)).cell? ((⟨w.heap.size, 0, none⟩ : Addr).add j) = some u := by
  intro j u hj
  match j, hj with
  | 0, hj => simp at hj; subst hj; simp [Addr.add]
  | 1, hj => simp at hj; subst hj; simp [Addr.add]
  | 2, hj => simp at hj; subst hj; simp [Addr.add]
  | 3, hj => simp at hj; subst hj; simp [Addr.add]
  | 4, hj => simp at hj; subst hj; simp [Addr.add]
  | 5, hj => simp at hj; subst hj; simp [Addr.add]
  | j + 6, hj => simp at hj
theorem info_vertex : (Try.prog.info? 182).map (fun i => (i.zero, i.size, i.bytes)) = some (some (.agg #[.bool false, .slice none 0 0, .slice none 0 0, .bool false, .slice none 0 0, .slice none 0 0]), 6, 112) := by kernel_rfl
/-- A boxed point. -/
def boxP (x y : Int) (B : Nat) (w : World) : Prop := w.heap[B]? = some (.cells #[.int .i64 x, .int .i64 y] 55 (0, 0))
theorem boxP.all {x y : Int} {B : Nat} {w : World} (h : boxP x y B w) : boxP x y B w ∧ w.cell? ⟨B, 0, none⟩ = some (.int .i64 x) ∧ w.cell? ⟨B, 1, none⟩ = some (.int .i64 y) := ⟨h, blk_cell h 0 _ rfl, blk_cell h 1 _ rfl⟩
theorem boxP.below {x y : Int} {B : Nat} {a b : World} (hb : Below a.heap.size a b) (h : boxP x y B a ∧ a.cell? ⟨B, 0, none⟩ = some (.int .i64 x) ∧ a.cell? ⟨B, 1, none⟩ = some (.int .i64 y)) : boxP x y B b ∧ b.cell? ⟨B, 0, none⟩ = some (.int .i64 x) ∧ b.cell? ⟨B, 1, none⟩ = some (.int .i64 y) :=
  boxP.all (blk_keep h.1 hb (blk_lt h.1))
theorem boxP.grown {x y : Int} {B : Nat} {a b : World} {row : Option Nat} (hg : a.grownBy b row) (hne : some B ≠ row) (h : boxP x y B a ∧ a.cell? ⟨B, 0, none⟩ = some (.int .i64 x) ∧ a.cell? ⟨B, 1, none⟩ = some (.int .i64 y)) : boxP x y B b ∧ b.cell? ⟨B, 0, none⟩ = some (.int .i64 x) ∧ b.cell? ⟨B, 1, none⟩ = some (.int .i64 y) :=
  boxP.all ((hg.block B (blk_lt h.1) hne).trans h.1)

def ratPt (p : Pt) : Rat × Rat := ((p.1 : Rat), (p.2 : Rat))
def ratPts (l : List Pt) : List (Rat × Rat) := l.map ratPt
theorem ratPts_take (l : List Pt) (i : Nat) (hi : i < l.length) : ratPts (l.take (i + 1)) = ratPts (l.take i) ++ [(((l.getD i (0, 0)).1 : Rat), ((l.getD i (0, 0)).2 : Rat))] := by
  unfold ratPts
  rw [List.take_add_one, List.map_append]
  simp [hi, ratPt]
theorem ratPts_length (l : List Pt) (i : Nat) (hi : i ≤ l.length) : (ratPts (l.take i)).length = i := by simp [ratPts]; omega
def RetVtx (vs : List (Rat × Rat)) (w : World) (e : Ending) (w' : World) : Prop := ∃ v, e = .returned v ∧ VtxOf w' v vs ∧ Below w.heap.size w w'

set_option maxRecDepth 100000 in
set_option maxHeartbeats 4000000 in
theorem vertices_any (l : List Pt) (v : Value) (w : World) (h : PairsOf w v l) (hr : ptsOk l = true) (hl : l.length ≤ 1000000) : Calls Try.prog 58 #[v] w (RetVtx (ratPts l) w) := by
  obtain ⟨ao, cap, rfl, hE⟩ := h
  have HE := Lib.hid hE
  have HR := Lib.hid hr
  obtain ⟨iA, hiA, hzA, hsA, hyA⟩ := info_parts info_vertex
  have hzd : ∀ u ∈ (Value.agg #[.bool false, .slice none 0 0, .slice none 0 0, .bool false, .slice none 0 0, .slice none 0 0]).cells.toList, noDig u := by
    intro u hu
    simp [Value.cells] at hu
    rcases hu with rfl | rfl | rfl | rfl
    · exact noDig_bool _
    · exact noDig_slice _ _ _
    · exact noDig_bool _
    · exact noDig_slice _ _ _
  clear hE hr
  go_enter Try.func58, Try.ntmps58
  go_wp2_with fail
  go_loopw [3, 8] (fun va iv wr => ∃ (i : Nat) (xs : List Value), i ≤ l.length ∧ iv = .int .i64 i ∧ VS w wr va xs (ratPts (l.take i)))
    (fun _ iv _ => l.length - (intOf iv).toNat)
  case atStart => exact ⟨0, [], Nat.zero_le _, rfl, Below.refl _ _, LRow.nil _ _ _ _, VtxRow.nil _⟩
  case round =>
    obtain ⟨i, xs, hi, rfl, hT⟩ := hrel
    have HT := Lib.hid hT
    by_cases hlt : i < l.length
    · obtain ⟨b, off, rfl, hbl, hEE⟩ := HE.out (by omega)
      obtain ⟨g0, g1⟩ := (hEE i hlt).below hT.x hbl
      have hlt' : (i : Int) < l.length := by omega
      have hge' : (0 : Int) ≤ i := by omega
      have hbl2 : b < wr.heap.size := Nat.lt_of_lt_of_le hbl hT.x.size
      have Htk := Lib.hid (ratPts_take l i hlt)
      have hln := ratPts_length l i hi
      have hpo := ptOk_range (ptsOk_get HR.out i hlt)
      have hx1 : -4398046511104 ≤ (l.getD i (0, 0)).1 ∧ (l.getD i (0, 0)).1 ≤ 4398046511104 := hpo.1
      have hy1 : -4398046511104 ≤ (l.getD i (0, 0)).2 ∧ (l.getD i (0, 0)).2 ≤ 4398046511104 := hpo.2
      clear hEE hT hpo
      generalize (l.getD i (0, 0)).1 = x at *
      generalize (l.getD i (0, 0)).2 = y at *
      generalize ratPts (l.take i) = vs at *
      have HWX := Lib.hid (fun W => whole_any x W (by omega) (by omega))
      have HWY := Lib.hid (fun W => whole_any y W (by omega) (by omega))
      have hvs : vs.length ≤ 1000000 := by omega
      clear hln hx1 hy1
      have hN : boxP x y wr.heap.size (wr.alloc (.cells #[.int .i64 x, .int .i64 y] 55)).drew := blk_new wr #[.int .i64 x, .int .i64 y] 55
      have HT0 := Lib.hid (HT.out.below (((Below.refl wr.heap.size wr).alloc (Nat.le_refl _) (.cells #[.int .i64 x, .int .i64 y] 55)).drew))
      have hAlt := Lib.hid (fun g (hg : u3.ownBlock = some g) => (HT.out.la.lt hg).1)
      go_wp2_with fail
      go_region_held3 (fun w' => boxP x y wr.heap.size w' ∧ w'.cell? ⟨wr.heap.size, 0, none⟩ = some (.int .i64 x) ∧ w'.cell? ⟨wr.heap.size, 1, none⟩ = some (.int .i64 y))
        (first | exact hN.all | assumption | (refine boxP.below hbB ?_; assumption) | (refine boxP.below hbA ?_; assumption) | (refine boxP.below ((Below.refl _ _).alloc (Nat.le_refl _) _) ?_; assumption) | (refine boxP.grown hgrA (fun e => Nat.lt_irrefl _ (hAlt.out _ e.symm)) ?_; assumption))
        (first
          | (go_at_call_of 66 (Value.int .i64 x); refine (HWX.out _).mono ?_; rintro e wA ⟨vA, rfl, hvA, hbA⟩; obtain ⟨a1, c1, a2, c2, rfl, _, _⟩ := hvA.opened; have HVA := Lib.hid hvA; have HT1 := Lib.hid (HT0.out.below hbA); clear hvA)
          | (go_at_call_of 66 (Value.int .i64 y); refine (HWY.out _).mono ?_; rintro e wB ⟨vB, rfl, hvB, hbB⟩; obtain ⟨a3, c3, a4, c4, rfl, _, _⟩ := hvB.opened; have HVB := Lib.hid hvB; have HVA2 := Lib.hid (HVA.out.below hbB); have HT2 := Lib.hid (HT1.out.below hbB); clear hvB)
          | (refine step_append_lrow _ rfl (.tmp 12) (.tmp 20) 146 rfl w.heap.size 182 iA _ 6 112 Try.underlying146 hiA hzA hsA hyA rfl (by decide) hzd _ _ _ rfl (HT2.out.alloc _).la ⟨wB.heap.size, 0, none⟩ 1 1 [.bool (decide ((x : Rat).num < 0)), .slice a1 (dig b64 (x : Rat).num.natAbs).length c1, .slice a2 (dig b64 (dn (x : Rat).den)).length c2, .bool (decide ((y : Rat).num < 0)), .slice a3 (dig b64 (y : Rat).num.natAbs).length c3, .slice a4 (dig b64 (dn (y : Rat).den)).length c4] rfl rfl (cell_new6 _ _ _ _ _ _ _ _) (by simp [Value.oneCell']) (by intro u hu; simp at hu; rcases hu with rfl | rfl | rfl | rfl | rfl | rfl; exact noDig_bool _; exact noDig_slice _ _ _; exact noDig_slice _ _ _; exact noDig_bool _; exact noDig_slice _ _ _; exact noDig_slice _ _ _) (by omega) (by unfold maxLen; omega) (by omega) (HT2.out.alloc _).x.size ?_; intro gA capA w3 hL3 hgrA hatA; have HT3 := Lib.hid ((HT2.out.alloc _).append (HVA2.out.below ((Below.refl _ _).alloc (Nat.le_refl _) _)) (HVB.out.below ((Below.refl _ _).alloc (Nat.le_refl _) _)) hL3 hgrA)))
      clear HT HT0 HT1 HT2 HVA HVB HVA2 hL3 hgrA
      go_wp2_with fail
      exact ⟨⟨i + 1, _, by omega, by go_num, by rw [Htk.out]; exact HT3.out⟩, meas_up hlt⟩
    · obtain rfl : i = l.length := by omega
      rw [List.take_length] at hT HT
      have hln : (ratPts l).length = l.length := by simp [ratPts]
      clear hT
      go_wp2_with fail
      go_ret
      exact ⟨_, rfl, VtxOf.ofRow HT.out.la HT.out.ta, HT.out.x⟩

/-- The sum of the edges' parts. -/
def sumTo (vs : List (Rat × Rat)) : Nat → Rat
  | 0 => 0
  | i + 1 => sumTo vs i + (vs.getD i (0, 0)).1 * (vs.getD ((i + 1) % vs.length) (0, 0)).2 - (vs.getD i (0, 0)).2 * (vs.getD ((i + 1) % vs.length) (0, 0)).1
def SzV (vs : List (Rat × Rat)) : Prop := ∀ i, i < vs.length → szR (vs.getD i (0, 0)).1 1000 ∧ szR (vs.getD i (0, 0)).2 1000
theorem sumTo_size {vs : List (Rat × Rat)} (h : SzV vs) (i : Nat) (hi : i ≤ vs.length) : szR (sumTo vs i) (1 + 4002 * i) := by
  induction i with
  | zero => exact ⟨by simp [sumTo, dig_zero], dig_length_le b64_two 1 _ (by simp [sumTo]; unfold b64; omega)⟩
  | succ i ih =>
    have h1 := h i (by omega)
    have h2 := h ((i + 1) % vs.length) (Nat.mod_lt _ (by omega))
    have a := szR_add (ih (by omega)) (szR_mul h1.1 h2.2)
    have b := szR_sub a (szR_mul h1.2 h2.1)
    exact szR_mono b (by omega)
/-- Block B is a fraction's box that reads as q. -/
def BoxQ (w : World) (B : Nat) (q : Rat) : Prop := ∃ b x i j y k l T, w.heap[B]? = some (.cells #[.bool b, .slice x i j, .slice y k l] T (0, 0)) ∧ IsRat w (.agg #[.bool b, .slice x i j, .slice y k l]) q
theorem BoxQ.rb {w : World} {B : Nat} {q : Rat} (h : BoxQ w B q) : RB w B := by
  obtain ⟨b, x, i, j, y, k, l, T, h, _⟩ := h; exact ⟨b, x, i, j, y, k, l, T, h⟩
theorem BoxQ.stored {w : World} {B : Nat} {neg : Bool} {x1 y1 : Option Addr} {i1 j1 k1 l1 : Nat} {q : Rat} (hB : RB w B) (h : IsRat w (.agg #[.bool neg, .slice x1 i1 j1, .slice y1 k1 l1]) q) :
    BoxQ (((w.setCell ⟨B, 0, none⟩ (.bool neg)).setCell ⟨B, 1, none⟩ (.slice x1 i1 j1)).setCell ⟨B, 2, none⟩ (.slice y1 k1 l1)) B q := by
  obtain ⟨vn, vd, e, h1, h2⟩ := h
  simp only [Value.agg.injEq, Array.mk.injEq, List.cons.injEq, Value.bool.injEq, and_true] at e
  obtain ⟨rfl, rfl, rfl⟩ := e
  obtain ⟨b, x, i, j, y, k, l, T, hB⟩ := hB
  exact ⟨_, x1, i1, j1, y1, k1, l1, T, by exact blk_set (blk_set (blk_set hB 0 _) 1 _) 2 _, _, _, rfl, store3 hB h1, store3 hB h2⟩
theorem RB.other {w : World} {B B' : Nat} (h : RB w B') (hne : B' ≠ B) (u0 u1 u2 : Value) : RB (((w.setCell ⟨B, 0, none⟩ u0).setCell ⟨B, 1, none⟩ u1).setCell ⟨B, 2, none⟩ u2) B' := by
  obtain ⟨b, x, i, j, y, k, l, T, h⟩ := h
  refine ⟨b, x, i, j, y, k, l, T, ?_⟩
  rw [heap_setCell_other _ ⟨B, 2, none⟩ B' _ hne, heap_setCell_other _ ⟨B, 1, none⟩ B' _ hne, heap_setCell_other _ ⟨B, 0, none⟩ B' _ hne]
  exact h
theorem keep12 {n : Nat} {W a b : World} {VB WB : Nat} {x0 x1 x2 x3 x4 x5 y0 y1 y2 y3 y4 y5 : Value} (hn : n ≤ W.heap.size) (hb : Below a.heap.size a b) (h : Below n W a ∧ a.cell? ⟨VB, 0, none⟩ = some x0 ∧ a.cell? ⟨VB, 1, none⟩ = some x1 ∧ a.cell? ⟨VB, 2, none⟩ = some x2 ∧ a.cell? ⟨VB, 3, none⟩ = some x3 ∧ a.cell? ⟨VB, 4, none⟩ = some x4 ∧ a.cell? ⟨VB, 5, none⟩ = some x5 ∧ a.cell? ⟨WB, 0, none⟩ = some y0 ∧ a.cell? ⟨WB, 1, none⟩ = some y1 ∧ a.cell? ⟨WB, 2, none⟩ = some y2 ∧ a.cell? ⟨WB, 3, none⟩ = some y3 ∧ a.cell? ⟨WB, 4, none⟩ = some y4 ∧ a.cell? ⟨WB, 5, none⟩ = some y5) : Below n W b ∧ b.cell? ⟨VB, 0, none⟩ = some x0 ∧ b.cell? ⟨VB, 1, none⟩ = some x1 ∧ b.cell? ⟨VB, 2, none⟩ = some x2 ∧ b.cell? ⟨VB, 3, none⟩ = some x3 ∧ b.cell? ⟨VB, 4, none⟩ = some x4 ∧ b.cell? ⟨VB, 5, none⟩ = some x5 ∧ b.cell? ⟨WB, 0, none⟩ = some y0 ∧ b.cell? ⟨WB, 1, none⟩ = some y1 ∧ b.cell? ⟨WB, 2, none⟩ = some y2 ∧ b.cell? ⟨WB, 3, none⟩ = some y3 ∧ b.cell? ⟨WB, 4, none⟩ = some y4 ∧ b.cell? ⟨WB, 5, none⟩ = some y5 := by
  obtain ⟨h0, h1, h2, h3, h4, h5, h6, k1, k2, k3, k4, k5, k6⟩ := h
  have e : ∀ B j v, a.cell? ⟨B, j, none⟩ = some v → b.cell? ⟨B, j, none⟩ = some v := fun B j v h => (hb.cell (p := ⟨B, j, none⟩) (World.block_lt_of_cell? (h := h))).trans h
  have := h0.size
  exact ⟨h0.trans (hb.mono (by omega)), e _ _ _ h1, e _ _ _ h2, e _ _ _ h3, e _ _ _ h4, e _ _ _ h5, e _ _ _ h6, e _ _ _ k1, e _ _ _ k2, e _ _ _ k3, e _ _ _ k4, e _ _ _ k5, e _ _ _ k6⟩
theorem keep12s {n : Nat} {W a : World} {VB WB B : Nat} {x0 x1 x2 x3 x4 x5 y0 y1 y2 y3 y4 y5 u0 u1 u2 : Value} (hn : n ≤ B) (hv : VB ≠ B) (hw : WB ≠ B) (h : Below n W a ∧ a.cell? ⟨VB, 0, none⟩ = some x0 ∧ a.cell? ⟨VB, 1, none⟩ = some x1 ∧ a.cell? ⟨VB, 2, none⟩ = some x2 ∧ a.cell? ⟨VB, 3, none⟩ = some x3 ∧ a.cell? ⟨VB, 4, none⟩ = some x4 ∧ a.cell? ⟨VB, 5, none⟩ = some x5 ∧ a.cell? ⟨WB, 0, none⟩ = some y0 ∧ a.cell? ⟨WB, 1, none⟩ = some y1 ∧ a.cell? ⟨WB, 2, none⟩ = some y2 ∧ a.cell? ⟨WB, 3, none⟩ = some y3 ∧ a.cell? ⟨WB, 4, none⟩ = some y4 ∧ a.cell? ⟨WB, 5, none⟩ = some y5) (b : World) (hb : b = ((a.setCell ⟨B, 0, none⟩ u0).setCell ⟨B, 1, none⟩ u1).setCell ⟨B, 2, none⟩ u2) : Below n W b ∧ b.cell? ⟨VB, 0, none⟩ = some x0 ∧ b.cell? ⟨VB, 1, none⟩ = some x1 ∧ b.cell? ⟨VB, 2, none⟩ = some x2 ∧ b.cell? ⟨VB, 3, none⟩ = some x3 ∧ b.cell? ⟨VB, 4, none⟩ = some x4 ∧ b.cell? ⟨VB, 5, none⟩ = some x5 ∧ b.cell? ⟨WB, 0, none⟩ = some y0 ∧ b.cell? ⟨WB, 1, none⟩ = some y1 ∧ b.cell? ⟨WB, 2, none⟩ = some y2 ∧ b.cell? ⟨WB, 3, none⟩ = some y3 ∧ b.cell? ⟨WB, 4, none⟩ = some y4 ∧ b.cell? ⟨WB, 5, none⟩ = some y5 := by
  subst hb
  obtain ⟨h0, h1, h2, h3, h4, h5, h6, k1, k2, k3, k4, k5, k6⟩ := h
  have e : ∀ B1 j v, B1 ≠ B → a.cell? ⟨B1, j, none⟩ = some v → (((a.setCell ⟨B, 0, none⟩ u0).setCell ⟨B, 1, none⟩ u1).setCell ⟨B, 2, none⟩ u2).cell? ⟨B1, j, none⟩ = some v := fun B1 j v hne h => by
    rw [World.cell?_setCell_other, World.cell?_setCell_other, World.cell?_setCell_other, h]
    all_goals intro e; cases e; exact hne rfl
  exact ⟨below_store3 h0 hn, e _ _ _ hv h1, e _ _ _ hv h2, e _ _ _ hv h3, e _ _ _ hv h4, e _ _ _ hv h5, e _ _ _ hv h6, e _ _ _ hw k1, e _ _ _ hw k2, e _ _ _ hw k3, e _ _ _ hw k4, e _ _ _ hw k5, e _ _ _ hw k6⟩

set_option maxRecDepth 100000 in
set_option maxHeartbeats 16000000 in
theorem area_any (vs : List (Rat × Rat)) (v : Value) (w : World) (h : VtxOf w v vs) (hs : SzV vs) (hl : vs.length ≤ 1000) : Calls Try.prog 57 #[v] w (RetRat (sumTo vs vs.length / 2) w) := by
  have H := Lib.hid h
  obtain ⟨ao, cap, rfl, hE⟩ := h
  have HE := Lib.hid hE
  have HS := Lib.hid hs
  have HSS := Lib.hid (fun i hi => sumTo_size hs i hi)
  clear hE hs
  have hB1 := blk_new w #[.bool false, .slice none 0 0, .slice none 0 0] 50
  have hA1 := (Below.refl w.heap.size w).alloc (Nat.le_refl _) (.cells #[.bool false, .slice none 0 0, .slice none 0 0] 50)
  have hB2 := blk_new (w.alloc (.cells #[.bool false, .slice none 0 0, .slice none 0 0] 50)) #[.bool false, .slice none 0 0, .slice none 0 0] 50
  rw [World.size_alloc] at hB2
  have hB12 := blk_keep hB1 ((Below.refl _ _).alloc (Nat.le_refl _) (.cells #[.bool false, .slice none 0 0, .slice none 0 0] 50)) (blk_lt hB1)
  have hA2 := hA1.alloc hA1.size (.cells #[.bool false, .slice none 0 0, .slice none 0 0] 50)
  go_enter Try.func57, Try.ntmps57
  go_wp2_with fail
  generalize (w.alloc (.cells #[.bool false, .slice none 0 0, .slice none 0 0] 50)).alloc (.cells #[.bool false, .slice none 0 0, .slice none 0 0] 50) = W0 at *
  have HRB0 : Hid (RB W0 w.heap.size) := ⟨false, none, 0, 0, none, 0, 0, _, hB12⟩
  have HBQ0 : Hid (BoxQ W0 (w.heap.size + 1) (sumTo vs 0)) := ⟨false, none, 0, 0, none, 0, 0, _, hB2, IsRat.zero _⟩
  clear hB1 hB2 hB12 hA1
  go_loopw [9] (fun iv wr => ∃ (i : Nat), i ≤ vs.length ∧ iv = .int .i64 i ∧ Hid (RB wr w.heap.size) ∧ Hid (BoxQ wr (w.heap.size + 1) (sumTo vs i)) ∧ Below w.heap.size w wr) (fun iv _ => vs.length - (intOf iv).toNat)
  case atStart => exact ⟨0, Nat.zero_le _, rfl, HRB0, HBQ0, hA2⟩
  case round =>
    clear HRB0 HBQ0 hA2
    obtain ⟨i, hi, rfl, hRB, hBQ, hbel⟩ := hrel
    have Hl1 := Lib.hid hRB.out.lt
    have Hl2 := Lib.hid hBQ.out.rb.lt
    by_cases hlt : i < vs.length
    · obtain ⟨b, off, rfl, hbl, hEE⟩ := HE.out (by omega)
      have hjl : (i + 1) % vs.length < vs.length := Nat.mod_lt _ (by omega)
      obtain ⟨v0, v1, v2, v3, v4, v5, g0, g1, g2, g3, g4, g5, hr1, hr2⟩ := hEE i hlt
      obtain ⟨u0, u1, u2, u3, u4, u5, k0, k1, k2, k3, k4, k5, ht1, ht2⟩ := hEE ((i + 1) % vs.length) hjl
      have HsI := Lib.hid (HSS.out i (by omega))
      have HsJ := Lib.hid (HSS.out (i + 1) (by omega))
      have Hst : Hid (sumTo vs i + (vs.getD i (0, 0)).1 * (vs.getD ((i + 1) % vs.length) (0, 0)).2 - (vs.getD i (0, 0)).2 * (vs.getD ((i + 1) % vs.length) (0, 0)).1 = sumTo vs (i + 1)) := rfl
      have Hz1 := Lib.hid (HS.out i hlt)
      have Hz2 := Lib.hid (HS.out ((i + 1) % vs.length) hjl)
      have ej : IntKind.i64.wrap ((i : Int) + 1) = (i : Int) + 1 := IntWalk.i64_in _ (by omega)
      have em : ((i : Int) + 1) % (vs.length : Int) = (((i + 1) % vs.length : Nat) : Int) := by rw [Int.natCast_emod]; rfl
      have em2 : ((i : Int) + 1).tmod (vs.length : Int) = (((i + 1) % vs.length : Nat) : Int) := by rw [Int.tmod_eq_emod_of_nonneg (by omega)]; exact em
      have ew : IntKind.i64.wrap (((i + 1) % vs.length : Nat) : Int) = (((i + 1) % vs.length : Nat) : Int) := IntWalk.i64_in _ (by omega)
      have hnz : ((vs.length : Int) == 0) = false := beq_eq_false_iff_ne.2 (by omega)
      have hlt' : (i : Int) < vs.length := by omega
      have hge' : (0 : Int) ≤ i := by omega
      have hjl' : ((((i + 1) % vs.length : Nat)) : Int) < vs.length := by omega
      have hbl2 : b < wr.heap.size := Nat.lt_of_lt_of_le hbl hbel.size
      have hj0 : (0 : Int) ≤ (((i + 1) % vs.length : Nat) : Int) := by omega
      clear hEE
      generalize (vs.getD i (0, 0)).1 = x1 at *
      generalize (vs.getD i (0, 0)).2 = y1 at *
      generalize (vs.getD ((i + 1) % vs.length) (0, 0)).1 = x2 at *
      generalize (vs.getD ((i + 1) % vs.length) (0, 0)).2 = y2 at *
      generalize (i + 1) % vs.length = j at *
      obtain ⟨p1a, p1b, p1c, p1d, hag, _, _⟩ := hr1.opened
      simp only [Value.agg.injEq, Array.mk.injEq, List.cons.injEq, and_true] at hag
      obtain ⟨rfl, rfl, rfl⟩ := hag
      obtain ⟨q1a, q1b, q1c, q1d, hag, _, _⟩ := hr2.opened
      simp only [Value.agg.injEq, Array.mk.injEq, List.cons.injEq, and_true] at hag
      obtain ⟨rfl, rfl, rfl⟩ := hag
      obtain ⟨p2a, p2b, p2c, p2d, hag, _, _⟩ := ht1.opened
      simp only [Value.agg.injEq, Array.mk.injEq, List.cons.injEq, and_true] at hag
      obtain ⟨rfl, rfl, rfl⟩ := hag
      obtain ⟨q2a, q2b, q2c, q2d, hag, _, _⟩ := ht2.opened
      simp only [Value.agg.injEq, Array.mk.injEq, List.cons.injEq, and_true] at hag
      obtain ⟨rfl, rfl, rfl⟩ := hag
      have HV1 := Lib.hid hr1
      have HV2 := Lib.hid hr2
      have HW1 := Lib.hid ht1
      have HW2 := Lib.hid ht2
      have c : ∀ o v, w.cell? ⟨b, o, none⟩ = some v → wr.cell? ⟨b, o, none⟩ = some v := fun o v h => (hbel.cell (p := ⟨b, o, none⟩) hbl).trans h
      replace g0 := c _ _ g0
      replace g1 := c _ _ g1
      replace g2 := c _ _ g2
      replace g3 := c _ _ g3
      replace g4 := c _ _ g4
      replace g5 := c _ _ g5
      have hal1 := (Below.refl wr.heap.size wr).alloc (Nat.le_refl _) (.cells #[.bool (decide (x1.num < 0)), .slice p1a (dig b64 x1.num.natAbs).length p1b, .slice p1c (dig b64 (dn x1.den)).length p1d, .bool (decide (y1.num < 0)), .slice q1a (dig b64 y1.num.natAbs).length q1b, .slice q1c (dig b64 (dn y1.den)).length q1d] 182)
      have d : ∀ o v, w.cell? ⟨b, o, none⟩ = some v → (wr.alloc (.cells #[.bool (decide (x1.num < 0)), .slice p1a (dig b64 x1.num.natAbs).length p1b, .slice p1c (dig b64 (dn x1.den)).length p1d, .bool (decide (y1.num < 0)), .slice q1a (dig b64 y1.num.natAbs).length q1b, .slice q1c (dig b64 (dn y1.den)).length q1d] 182)).cell? ⟨b, o, none⟩ = some v := fun o v h => (hal1.cell (p := ⟨b, o, none⟩) hbl2).trans (c _ _ h)
      replace k0 := d _ _ k0
      replace k1 := d _ _ k1
      replace k2 := d _ _ k2
      replace k3 := d _ _ k3
      replace k4 := d _ _ k4
      replace k5 := d _ _ k5
      clear c d hr1 hr2 ht1 ht2
      have hV := blk_new wr #[.bool (decide (x1.num < 0)), .slice p1a (dig b64 x1.num.natAbs).length p1b, .slice p1c (dig b64 (dn x1.den)).length p1d, .bool (decide (y1.num < 0)), .slice q1a (dig b64 y1.num.natAbs).length q1b, .slice q1c (dig b64 (dn y1.den)).length q1d] 182
      have hV2 := blk_keep hV ((Below.refl _ _).alloc (Nat.le_refl _) (.cells #[.bool (decide (x2.num < 0)), .slice p2a (dig b64 x2.num.natAbs).length p2b, .slice p2c (dig b64 (dn x2.den)).length p2d, .bool (decide (y2.num < 0)), .slice q2a (dig b64 y2.num.natAbs).length q2b, .slice q2c (dig b64 (dn y2.den)).length q2d] 182)) (blk_lt hV)
      have hWb := blk_new (wr.alloc (.cells #[.bool (decide (x1.num < 0)), .slice p1a (dig b64 x1.num.natAbs).length p1b, .slice p1c (dig b64 (dn x1.den)).length p1d, .bool (decide (y1.num < 0)), .slice q1a (dig b64 y1.num.natAbs).length q1b, .slice q1c (dig b64 (dn y1.den)).length q1d] 182)) #[.bool (decide (x2.num < 0)), .slice p2a (dig b64 x2.num.natAbs).length p2b, .slice p2c (dig b64 (dn x2.den)).length p2d, .bool (decide (y2.num < 0)), .slice q2a (dig b64 y2.num.natAbs).length q2b, .slice q2c (dig b64 (dn y2.den)).length q2d] 182
      rw [World.size_alloc] at hWb
      have hal2 := hal1.alloc hal1.size (.cells #[.bool (decide (x2.num < 0)), .slice p2a (dig b64 x2.num.natAbs).length p2b, .slice p2c (dig b64 (dn x2.den)).length p2d, .bool (decide (y2.num < 0)), .slice q2a (dig b64 y2.num.natAbs).length q2b, .slice q2c (dig b64 (dn y2.den)).length q2d] 182)
      have hbl3 : b < (wr.alloc (.cells #[.bool (decide (x1.num < 0)), .slice p1a (dig b64 x1.num.natAbs).length p1b, .slice p1c (dig b64 (dn x1.den)).length p1d, .bool (decide (y1.num < 0)), .slice q1a (dig b64 y1.num.natAbs).length q1b, .slice q1c (dig b64 (dn y1.den)).length q1d] 182)).heap.size := by simp; omega
      clear hal1 hV
      go_wp2_with fail
      have hx2 : Below w.heap.size w ((wr.alloc (.cells #[.bool (decide (x1.num < 0)), .slice p1a (dig b64 x1.num.natAbs).length p1b, .slice p1c (dig b64 (dn x1.den)).length p1d, .bool (decide (y1.num < 0)), .slice q1a (dig b64 y1.num.natAbs).length q1b, .slice q1c (dig b64 (dn y1.den)).length q1d] 182)).alloc (.cells #[.bool (decide (x2.num < 0)), .slice p2a (dig b64 x2.num.natAbs).length p2b, .slice p2c (dig b64 (dn x2.den)).length p2d, .bool (decide (y2.num < 0)), .slice q2a (dig b64 y2.num.natAbs).length q2b, .slice q2c (dig b64 (dn y2.den)).length q2d] 182)).drew := (ext_trans hbel hal2).drew
      have HRB2 := Lib.hid (hRB.out.keep hal2 Hl1.out)
      obtain ⟨sb, sx, si, sj, sy, sk, sl, T, hbs, hqs⟩ := hBQ.out
      have hS2 := blk_keep hbs hal2 Hl2.out
      have HQ2 := Lib.hid (hqs.below hal2)
      have hVW : wr.heap.size ≠ w.heap.size + 1 ∧ wr.heap.size + 1 ≠ w.heap.size + 1 := by have := Hl2.out; omega
      generalize (wr.alloc (.cells #[.bool (decide (x1.num < 0)), .slice p1a (dig b64 x1.num.natAbs).length p1b, .slice p1c (dig b64 (dn x1.den)).length p1d, .bool (decide (y1.num < 0)), .slice q1a (dig b64 y1.num.natAbs).length q1b, .slice q1c (dig b64 (dn y1.den)).length q1d] 182)).alloc (.cells #[.bool (decide (x2.num < 0)), .slice p2a (dig b64 x2.num.natAbs).length p2b, .slice p2c (dig b64 (dn x2.den)).length p2d, .bool (decide (y2.num < 0)), .slice q2a (dig b64 y2.num.natAbs).length q2b, .slice q2c (dig b64 (dn y2.den)).length q2d] 182) = W2 at *
      generalize wr.heap.size + 1 = WB at *
      generalize wr.heap.size = VB at *
      obtain ⟨hVn, hWn⟩ := hVW
      have z0 : W2.drew.cell? ⟨VB, 0, none⟩ = some (.bool (decide (x1.num < 0))) := blk_cell hV2 0 _ rfl
      have z1 : W2.drew.cell? ⟨VB, 1, none⟩ = some (.slice p1a (dig b64 x1.num.natAbs).length p1b) := blk_cell hV2 1 _ rfl
      have z2 : W2.drew.cell? ⟨VB, 2, none⟩ = some (.slice p1c (dig b64 (dn x1.den)).length p1d) := blk_cell hV2 2 _ rfl
      have z3 : W2.drew.cell? ⟨VB, 3, none⟩ = some (.bool (decide (y1.num < 0))) := blk_cell hV2 3 _ rfl
      have z4 : W2.drew.cell? ⟨VB, 4, none⟩ = some (.slice q1a (dig b64 y1.num.natAbs).length q1b) := blk_cell hV2 4 _ rfl
      have z5 : W2.drew.cell? ⟨VB, 5, none⟩ = some (.slice q1c (dig b64 (dn y1.den)).length q1d) := blk_cell hV2 5 _ rfl
      have t0 : W2.drew.cell? ⟨WB, 0, none⟩ = some (.bool (decide (x2.num < 0))) := blk_cell hWb 0 _ rfl
      have t1 : W2.drew.cell? ⟨WB, 1, none⟩ = some (.slice p2a (dig b64 x2.num.natAbs).length p2b) := blk_cell hWb 1 _ rfl
      have t2 : W2.drew.cell? ⟨WB, 2, none⟩ = some (.slice p2c (dig b64 (dn x2.den)).length p2d) := blk_cell hWb 2 _ rfl
      have t3 : W2.drew.cell? ⟨WB, 3, none⟩ = some (.bool (decide (y2.num < 0))) := blk_cell hWb 3 _ rfl
      have t4 : W2.drew.cell? ⟨WB, 4, none⟩ = some (.slice q2a (dig b64 y2.num.natAbs).length q2b) := blk_cell hWb 4 _ rfl
      have t5 : W2.drew.cell? ⟨WB, 5, none⟩ = some (.slice q2c (dig b64 (dn y2.den)).length q2d) := blk_cell hWb 5 _ rfl
      have hSd : W2.drew.heap[w.heap.size + 1]? = some (.cells #[.bool sb, .slice sx si sj, .slice sy sk sl] T (0, 0)) := hS2
      have s0 := blk_cell hSd 0 (.bool sb) rfl
      have s1 := blk_cell hSd 1 (.slice sx si sj) rfl
      have s2 := blk_cell hSd 2 (.slice sy sk sl) rfl
      have hn1 : w.heap.size ≤ w.heap.size + 1 := Nat.le_succ _
      have HZ1 := Lib.hid (szR_mono Hz1.out.1 (show 1000 ≤ 68719476736 by omega))
      have HZ2 := Lib.hid (szR_mono Hz1.out.2 (show 1000 ≤ 68719476736 by omega))
      have HZ3 := Lib.hid (szR_mono Hz2.out.1 (show 1000 ≤ 68719476736 by omega))
      have HZ4 := Lib.hid (szR_mono Hz2.out.2 (show 1000 ≤ 68719476736 by omega))
      have HZ5 := Lib.hid (szR_mono HsI.out (show 1 + 4002 * i ≤ 68719476736 by omega))
      have HZ6 := Lib.hid (szR_mono (szR_mul Hz1.out.1 Hz2.out.2) (show 1000 + 1000 ≤ 68719476736 by omega))
      have HZ7 := Lib.hid (szR_mono (szR_mul Hz1.out.2 Hz2.out.1) (show 1000 + 1000 ≤ 68719476736 by omega))
      have HZ8 := Lib.hid (szR_mono (szR_add HsI.out (szR_mul Hz1.out.1 Hz2.out.2)) (show 1 + 4002 * i + (1000 + 1000) + 1 ≤ 68719476736 by omega))
      clear hRB hBQ hbs hqs hal2 hV2 hWb g0 g1 g2 g3 g4 g5 k0 k1 k2 k3 k4 k5 hbl3 hS2 hbel
      generalize hss : sumTo vs i = s at *
      generalize hss2 : sumTo vs (i + 1) = s' at *
      have Hs2 := Lib.hid hss2
      clear hss hss2
      refine wp_region_held_drew (S := (fun w' => Below w.heap.size w w' ∧ w'.cell? ⟨VB, 0, none⟩ = some (.bool (decide (x1.num < 0))) ∧ w'.cell? ⟨VB, 1, none⟩ = some (.slice p1a (dig b64 x1.num.natAbs).length p1b) ∧ w'.cell? ⟨VB, 2, none⟩ = some (.slice p1c (dig b64 (dn x1.den)).length p1d) ∧ w'.cell? ⟨VB, 3, none⟩ = some (.bool (decide (y1.num < 0))) ∧ w'.cell? ⟨VB, 4, none⟩ = some (.slice q1a (dig b64 y1.num.natAbs).length q1b) ∧ w'.cell? ⟨VB, 5, none⟩ = some (.slice q1c (dig b64 (dn y1.den)).length q1d) ∧ w'.cell? ⟨WB, 0, none⟩ = some (.bool (decide (x2.num < 0))) ∧ w'.cell? ⟨WB, 1, none⟩ = some (.slice p2a (dig b64 x2.num.natAbs).length p2b) ∧ w'.cell? ⟨WB, 2, none⟩ = some (.slice p2c (dig b64 (dn x2.den)).length p2d) ∧ w'.cell? ⟨WB, 3, none⟩ = some (.bool (decide (y2.num < 0))) ∧ w'.cell? ⟨WB, 4, none⟩ = some (.slice q2a (dig b64 y2.num.natAbs).length q2b) ∧ w'.cell? ⟨WB, 5, none⟩ = some (.slice q2c (dig b64 (dn y2.den)).length q2d))) (by kernel_rfl) ⟨hx2, z0, z1, z2, z3, z4, z5, t0, t1, t2, t3, t4, t5⟩ (fun hh0 => ?_)
      refine wpAnyH_take (i := 1) (v := ?vp1) rfl (by kernel_rfl) (by kernel_rfl) (by kernel_rfl) (fun _ _ _ h => h) (Or.inl ⟨by rfl, ?hyp1⟩) (by assumption) ?rep1
      case hyp1 => first | (intro w hSw; (try dsimp only at hSw); go_simp; done) | (intro w hSw; (try dsimp only at hSw); go_simp; with_reducible rfl)
      try simp only [List.getElem_toArray, List.getElem_cons_zero, List.getElem_cons_succ, Act.put, List.setIfInBounds_toArray, List.set_cons_zero, List.set_cons_succ]
      refine wpAnyH_take (i := 2) (v := ?vp2) rfl (by kernel_rfl) (by kernel_rfl) (by kernel_rfl) (fun _ _ _ h => h) (Or.inl ⟨by rfl, ?hyp2⟩) (by assumption) ?rep2
      case hyp2 => first | (intro w hSw; (try dsimp only at hSw); go_simp; done) | (intro w hSw; (try dsimp only at hSw); go_simp; with_reducible rfl)
      try simp only [List.getElem_toArray, List.getElem_cons_zero, List.getElem_cons_succ, Act.put, List.setIfInBounds_toArray, List.set_cons_zero, List.set_cons_succ]
      refine wpAnyH_take (i := 3) (v := ?vp3) rfl (by kernel_rfl) (by kernel_rfl) (by kernel_rfl) (fun _ _ _ h => h) (Or.inl ⟨by rfl, ?hyp3⟩) (by assumption) ?rep3
      case hyp3 => first | (intro w hSw; (try dsimp only at hSw); go_simp; done) | (intro w hSw; (try dsimp only at hSw); go_simp; with_reducible rfl)
      try simp only [List.getElem_toArray, List.getElem_cons_zero, List.getElem_cons_succ, Act.put, List.setIfInBounds_toArray, List.set_cons_zero, List.set_cons_succ]
      refine wpAnyH_take (i := 4) (v := ?vp4) rfl (by kernel_rfl) (by kernel_rfl) (by kernel_rfl) (fun _ _ _ h => h) (Or.inl ⟨by rfl, ?hyp4⟩) (by assumption) ?rep4
      case hyp4 => first | (intro w hSw; (try dsimp only at hSw); go_simp; done) | (intro w hSw; (try dsimp only at hSw); go_simp; with_reducible rfl)
      try simp only [List.getElem_toArray, List.getElem_cons_zero, List.getElem_cons_succ, Act.put, List.setIfInBounds_toArray, List.set_cons_zero, List.set_cons_succ]
      refine wpAnyH_take (i := 7) (v := ?vp7) rfl (by kernel_rfl) (by kernel_rfl) (by kernel_rfl) (fun _ _ _ h => h) (Or.inl ⟨by rfl, ?hyp7⟩) (by assumption) ?rep7
      case hyp7 => first | (intro w hSw; (try dsimp only at hSw); go_simp; done) | (intro w hSw; (try dsimp only at hSw); go_simp; with_reducible rfl)
      try simp only [List.getElem_toArray, List.getElem_cons_zero, List.getElem_cons_succ, Act.put, List.setIfInBounds_toArray, List.set_cons_zero, List.set_cons_succ]
      refine wpAnyH_take (i := 8) (v := ?vp8) rfl (by kernel_rfl) (by kernel_rfl) (by kernel_rfl) (fun _ _ _ h => h) (Or.inl ⟨by rfl, ?hyp8⟩) (by assumption) ?rep8
      case hyp8 => first | (intro w hSw; (try dsimp only at hSw); go_simp; done) | (intro w hSw; (try dsimp only at hSw); go_simp; with_reducible rfl)
      try simp only [List.getElem_toArray, List.getElem_cons_zero, List.getElem_cons_succ, Act.put, List.setIfInBounds_toArray, List.set_cons_zero, List.set_cons_succ]
      refine wpAnyH_take (i := 9) (v := ?vp9) rfl (by kernel_rfl) (by kernel_rfl) (by kernel_rfl) (fun _ _ _ h => h) (Or.inl ⟨by rfl, ?hyp9⟩) (by assumption) ?rep9
      case hyp9 => first | (intro w hSw; (try dsimp only at hSw); go_simp; done) | (intro w hSw; (try dsimp only at hSw); go_simp; with_reducible rfl)
      try simp only [List.getElem_toArray, List.getElem_cons_zero, List.getElem_cons_succ, Act.put, List.setIfInBounds_toArray, List.set_cons_zero, List.set_cons_succ]
      refine wpAnyH_take (i := 10) (v := ?vp10) rfl (by kernel_rfl) (by kernel_rfl) (by kernel_rfl) (fun _ _ _ h => h) (Or.inl ⟨by rfl, ?hyp10⟩) (by assumption) ?rep10
      case hyp10 => first | (intro w hSw; (try dsimp only at hSw); go_simp; done) | (intro w hSw; (try dsimp only at hSw); go_simp; with_reducible rfl)
      try simp only [List.getElem_toArray, List.getElem_cons_zero, List.getElem_cons_succ, Act.put, List.setIfInBounds_toArray, List.set_cons_zero, List.set_cons_succ]
      refine wpAnyH_ready (rs := [0, 5]) (by kernel_rfl) (by simp) ?_
      refine AllReadyH.cons rfl (fun K hK => ?_) (AllReadyH.cons rfl (fun K hK => ?_) AllReadyH.nil)
      · go_simp
        refine hK.out _ _ hh0 (fun hh1 => ?_)
        clear hK K hh0
        try simp only [List.getElem_toArray, List.getElem_cons_zero, List.getElem_cons_succ, Act.put, List.setIfInBounds_toArray, List.set_cons_zero, List.set_cons_succ]
        refine wpAnyH_ready (rs := [5]) (by kernel_rfl) (by simp) ?_
        refine AllReadyH.cons rfl (fun K hK => ?_) AllReadyH.nil
        go_simp
        go_wp2_with (go_at_call_of 21 (Value.agg #[.bool (decide (x1.num < 0)), .slice p1a (dig b64 x1.num.natAbs).length p1b, .slice p1c (dig b64 (dn x1.den)).length p1d]); refine (mulRat_any x1 y2 _ _ _ (HV1.out.below (And.left (by assumption))) (HW2.out.below (And.left (by assumption))) HZ1.out HZ4.out).mono ?_; rintro e wA ⟨vA, rfl, hvA, hbA⟩; have kA := blk_keep hSd hbA (blk_lt hSd); have skA0 := blk_cell kA 0 (.bool sb) rfl; have skA1 := blk_cell kA 1 (.slice sx si sj) rfl; have skA2 := blk_cell kA 2 (.slice sy sk sl) rfl; have fkA0 := blk_frozen kA 0; have fkA1 := blk_frozen kA 1; have fkA2 := blk_frozen kA 2)
        refine hK.out _ _ (keep12 (Nat.le_refl _) hbA hh1) (fun hh2 => ?_)
        clear hK K hh1
        try simp only [List.getElem_toArray, List.getElem_cons_zero, List.getElem_cons_succ, Act.put, List.setIfInBounds_toArray, List.set_cons_zero, List.set_cons_succ]
        refine wpAnyH_ready (rs := [6]) (by kernel_rfl) (by simp) ?_
        refine AllReadyH.cons rfl (fun K hK => ?_) AllReadyH.nil
        go_simp
        go_wp2_with (go_at_call 22; refine (addRat_any s (x1 * y2) _ _ _ (HQ2.out.below (ext_trans (show Below W2.heap.size W2 W2.drew from (Below.refl _ _).drew) hbA)) hvA HZ5.out HZ6.out).mono ?_; rintro e wB ⟨vB, rfl, hvB, hbB⟩; have kB := blk_keep kA hbB (blk_lt kA); have skB0 := blk_cell kB 0 (.bool sb) rfl; have skB1 := blk_cell kB 1 (.slice sx si sj) rfl; have skB2 := blk_cell kB 2 (.slice sy sk sl) rfl; have fkB0 := blk_frozen kB 0; have fkB1 := blk_frozen kB 1; have fkB2 := blk_frozen kB 2)
        refine hK.out _ _ (keep12 (Nat.le_refl _) hbB hh2) (fun hh3 => ?_)
        clear hK K hh2
        try simp only [List.getElem_toArray, List.getElem_cons_zero, List.getElem_cons_succ, Act.put, List.setIfInBounds_toArray, List.set_cons_zero, List.set_cons_succ]
        refine wpAnyH_ready (rs := [11]) (by kernel_rfl) (by simp) ?_
        refine AllReadyH.cons rfl (fun K hK => ?_) AllReadyH.nil
        go_simp
        go_wp2_with (go_at_call_of 21 (Value.agg #[.bool (decide (y1.num < 0)), .slice q1a (dig b64 y1.num.natAbs).length q1b, .slice q1c (dig b64 (dn y1.den)).length q1d]); refine (mulRat_any y1 x2 _ _ _ (HV2.out.below (And.left (by assumption))) (HW1.out.below (And.left (by assumption))) HZ2.out HZ3.out).mono ?_; rintro e wC ⟨vC, rfl, hvC, hbC⟩; have kC := blk_keep kB hbC (blk_lt kB); have skC0 := blk_cell kC 0 (.bool sb) rfl; have skC1 := blk_cell kC 1 (.slice sx si sj) rfl; have skC2 := blk_cell kC 2 (.slice sy sk sl) rfl; have fkC0 := blk_frozen kC 0; have fkC1 := blk_frozen kC 1; have fkC2 := blk_frozen kC 2)
        refine hK.out _ _ (keep12 (Nat.le_refl _) hbC hh3) (fun hh4 => ?_)
        clear hK K hh3
        try simp only [List.getElem_toArray, List.getElem_cons_zero, List.getElem_cons_succ, Act.put, List.setIfInBounds_toArray, List.set_cons_zero, List.set_cons_succ]
        refine wpAnyH_ready (rs := [12]) (by kernel_rfl) (by simp) ?_
        refine AllReadyH.cons rfl (fun K hK => ?_) AllReadyH.nil
        go_simp
        go_wp2_with (go_at_call 95; refine (subRat_any (s + x1 * y2) (y1 * x2) _ _ _ (hvB.below hbC) hvC HZ8.out HZ7.out).mono ?_; rw [Hst.out]; rintro e wD ⟨vD, rfl, hvD, hbD⟩; obtain ⟨r1, r2, r3, r4, rfl, _, _⟩ := IsRat.opened hvD; have kD := blk_keep kC hbD (blk_lt kC); have skD0 := blk_cell kD 0 (.bool sb) rfl; have skD1 := blk_cell kD 1 (.slice sx si sj) rfl; have skD2 := blk_cell kD 2 (.slice sy sk sl) rfl; have fkD0 := blk_frozen kD 0; have fkD1 := blk_frozen kD 1; have fkD2 := blk_frozen kD 2)
        refine hK.out _ _ (keep12 (Nat.le_refl _) hbD hh4) (fun hh5 => ?_)
        clear hK K hh4
        try simp only [List.getElem_toArray, List.getElem_cons_zero, List.getElem_cons_succ, Act.put, List.setIfInBounds_toArray, List.set_cons_zero, List.set_cons_succ]
        refine wpAnyH_ready (rs := [13]) (by kernel_rfl) (by simp) ?_
        refine AllReadyH.cons rfl (fun K hK => ?_) AllReadyH.nil
        go_simp
        refine hK.out _ _ (keep12s hn1 hVn hWn hh5 _ rfl) (fun hS1 => ?_)
        clear hK K hh5
        try simp only [List.getElem_toArray, List.getElem_cons_zero, List.getElem_cons_succ, Act.put, List.setIfInBounds_toArray, List.set_cons_zero, List.set_cons_succ]
        refine wpAnyH_done (by kernel_rfl) ?_ _
        have HRB3 : Hid (RB wD w.heap.size) := RB.keep (a := W2.drew) HRB2.out (ext_trans (ext_trans (ext_trans hbA hbB) hbC) hbD) HRB2.out.lt
        have HRB4 := Lib.hid (RB.other HRB3.out (show w.heap.size ≠ w.heap.size + 1 by omega) (.bool (decide (s'.num < 0))) (.slice r1 (dig b64 s'.num.natAbs).length r2) (.slice r3 (dig b64 (dn s'.den)).length r4))
        have HBQ4 := Lib.hid (BoxQ.stored (B := w.heap.size + 1) ⟨sb, sx, si, sj, sy, sk, sl, T, kD⟩ hvD)
        have hx5 := hS1.1
        clear hS1
        go_wp2_with fail
        exact ⟨⟨i + 1, by omega, by go_num, HRB4.out, by rw [Hs2.out]; exact HBQ4.out, hx5⟩, meas_up hlt⟩
      · go_simp
        go_wp2_with (go_at_call_of 21 (Value.agg #[.bool (decide (x1.num < 0)), .slice p1a (dig b64 x1.num.natAbs).length p1b, .slice p1c (dig b64 (dn x1.den)).length p1d]); refine (mulRat_any x1 y2 _ _ _ (HV1.out.below (And.left (by assumption))) (HW2.out.below (And.left (by assumption))) HZ1.out HZ4.out).mono ?_; rintro e wA ⟨vA, rfl, hvA, hbA⟩; have kA := blk_keep hSd hbA (blk_lt hSd); have skA0 := blk_cell kA 0 (.bool sb) rfl; have skA1 := blk_cell kA 1 (.slice sx si sj) rfl; have skA2 := blk_cell kA 2 (.slice sy sk sl) rfl; have fkA0 := blk_frozen kA 0; have fkA1 := blk_frozen kA 1; have fkA2 := blk_frozen kA 2)
        refine hK.out _ _ (keep12 (Nat.le_refl _) hbA hh0) (fun hh1 => ?_)
        clear hK K hh0
        try simp only [List.getElem_toArray, List.getElem_cons_zero, List.getElem_cons_succ, Act.put, List.setIfInBounds_toArray, List.set_cons_zero, List.set_cons_succ]
        refine wpAnyH_ready (rs := [0]) (by kernel_rfl) (by simp) ?_
        refine AllReadyH.cons rfl (fun K hK => ?_) AllReadyH.nil
        go_simp
        refine hK.out _ _ hh1 (fun hh2 => ?_)
        clear hK K hh1
        try simp only [List.getElem_toArray, List.getElem_cons_zero, List.getElem_cons_succ, Act.put, List.setIfInBounds_toArray, List.set_cons_zero, List.set_cons_succ]
        refine wpAnyH_ready (rs := [6]) (by kernel_rfl) (by simp) ?_
        refine AllReadyH.cons rfl (fun K hK => ?_) AllReadyH.nil
        go_simp
        go_wp2_with (go_at_call 22; refine (addRat_any s (x1 * y2) _ _ _ (HQ2.out.below (ext_trans (show Below W2.heap.size W2 W2.drew from (Below.refl _ _).drew) hbA)) hvA HZ5.out HZ6.out).mono ?_; rintro e wB ⟨vB, rfl, hvB, hbB⟩; have kB := blk_keep kA hbB (blk_lt kA); have skB0 := blk_cell kB 0 (.bool sb) rfl; have skB1 := blk_cell kB 1 (.slice sx si sj) rfl; have skB2 := blk_cell kB 2 (.slice sy sk sl) rfl; have fkB0 := blk_frozen kB 0; have fkB1 := blk_frozen kB 1; have fkB2 := blk_frozen kB 2)
        refine hK.out _ _ (keep12 (Nat.le_refl _) hbB hh2) (fun hh3 => ?_)
        clear hK K hh2
        try simp only [List.getElem_toArray, List.getElem_cons_zero, List.getElem_cons_succ, Act.put, List.setIfInBounds_toArray, List.set_cons_zero, List.set_cons_succ]
        refine wpAnyH_ready (rs := [11]) (by kernel_rfl) (by simp) ?_
        refine AllReadyH.cons rfl (fun K hK => ?_) AllReadyH.nil
        go_simp
        go_wp2_with (go_at_call_of 21 (Value.agg #[.bool (decide (y1.num < 0)), .slice q1a (dig b64 y1.num.natAbs).length q1b, .slice q1c (dig b64 (dn y1.den)).length q1d]); refine (mulRat_any y1 x2 _ _ _ (HV2.out.below (And.left (by assumption))) (HW1.out.below (And.left (by assumption))) HZ2.out HZ3.out).mono ?_; rintro e wC ⟨vC, rfl, hvC, hbC⟩; have kC := blk_keep kB hbC (blk_lt kB); have skC0 := blk_cell kC 0 (.bool sb) rfl; have skC1 := blk_cell kC 1 (.slice sx si sj) rfl; have skC2 := blk_cell kC 2 (.slice sy sk sl) rfl; have fkC0 := blk_frozen kC 0; have fkC1 := blk_frozen kC 1; have fkC2 := blk_frozen kC 2)
        refine hK.out _ _ (keep12 (Nat.le_refl _) hbC hh3) (fun hh4 => ?_)
        clear hK K hh3
        try simp only [List.getElem_toArray, List.getElem_cons_zero, List.getElem_cons_succ, Act.put, List.setIfInBounds_toArray, List.set_cons_zero, List.set_cons_succ]
        refine wpAnyH_ready (rs := [12]) (by kernel_rfl) (by simp) ?_
        refine AllReadyH.cons rfl (fun K hK => ?_) AllReadyH.nil
        go_simp
        go_wp2_with (go_at_call 95; refine (subRat_any (s + x1 * y2) (y1 * x2) _ _ _ (hvB.below hbC) hvC HZ8.out HZ7.out).mono ?_; rw [Hst.out]; rintro e wD ⟨vD, rfl, hvD, hbD⟩; obtain ⟨r1, r2, r3, r4, rfl, _, _⟩ := IsRat.opened hvD; have kD := blk_keep kC hbD (blk_lt kC); have skD0 := blk_cell kD 0 (.bool sb) rfl; have skD1 := blk_cell kD 1 (.slice sx si sj) rfl; have skD2 := blk_cell kD 2 (.slice sy sk sl) rfl; have fkD0 := blk_frozen kD 0; have fkD1 := blk_frozen kD 1; have fkD2 := blk_frozen kD 2)
        refine hK.out _ _ (keep12 (Nat.le_refl _) hbD hh4) (fun hh5 => ?_)
        clear hK K hh4
        try simp only [List.getElem_toArray, List.getElem_cons_zero, List.getElem_cons_succ, Act.put, List.setIfInBounds_toArray, List.set_cons_zero, List.set_cons_succ]
        refine wpAnyH_ready (rs := [13]) (by kernel_rfl) (by simp) ?_
        refine AllReadyH.cons rfl (fun K hK => ?_) AllReadyH.nil
        go_simp
        refine hK.out _ _ (keep12s hn1 hVn hWn hh5 _ rfl) (fun hS1 => ?_)
        clear hK K hh5
        try simp only [List.getElem_toArray, List.getElem_cons_zero, List.getElem_cons_succ, Act.put, List.setIfInBounds_toArray, List.set_cons_zero, List.set_cons_succ]
        refine wpAnyH_done (by kernel_rfl) ?_ _
        have HRB3 : Hid (RB wD w.heap.size) := RB.keep (a := W2.drew) HRB2.out (ext_trans (ext_trans (ext_trans hbA hbB) hbC) hbD) HRB2.out.lt
        have HRB4 := Lib.hid (RB.other HRB3.out (show w.heap.size ≠ w.heap.size + 1 by omega) (.bool (decide (s'.num < 0))) (.slice r1 (dig b64 s'.num.natAbs).length r2) (.slice r3 (dig b64 (dn s'.den)).length r4))
        have HBQ4 := Lib.hid (BoxQ.stored (B := w.heap.size + 1) ⟨sb, sx, si, sj, sy, sk, sl, T, kD⟩ hvD)
        have hx5 := hS1.1
        clear hS1
        go_wp2_with fail
        exact ⟨⟨i + 1, by omega, by go_num, HRB4.out, by rw [Hs2.out]; exact HBQ4.out, hx5⟩, meas_up hlt⟩
    · obtain rfl : i = vs.length := by omega
      obtain ⟨sb, sx, si, sj, sy, sk, sl, T, hbs, hqs⟩ := hBQ.out
      have s0 := blk_cell hbs 0 (.bool sb) rfl
      have s1 := blk_cell hbs 1 (.slice sx si sj) rfl
      have s2 := blk_cell hbs 2 (.slice sy sk sl) rfl
      have HH := Lib.hid (half_any (sumTo vs vs.length) (.agg #[.bool sb, .slice sx si sj, .slice sy sk sl]) wr hqs (szR_mono (HSS.out vs.length (Nat.le_refl _)) (by omega)))
      clear hbs hqs hBQ
      generalize sumTo vs vs.length / 2 = q at *
      go_wp2_with fail
      refine HH.out.mono ?_
      rintro e w3 ⟨vh, rfl, hvh, hbh⟩
      have hRB3 := hRB.out.keep hbh Hl1.out
      obtain ⟨a5, c5, a6, c6, rfl, n5, n6⟩ := IsRat.opened hvh
      have hx := ext_trans hbel hbh
      obtain ⟨g0, g1, g2, f0', f1', f2'⟩ := hRB3.cell
      have hBl := hRB3.lt
      clear hvh hbh s0 s1 s2
      go_wp2_with fail
      refine bodyPost_ret (v := .agg #[.bool (decide (q.num < 0)), .slice a5 (dig b64 q.num.natAbs).length _, .slice a6 (dig b64 (dn q.den)).length _]) (by simp [results, Try.results57, go_sem, g0, g1, g2]; first | done | exact ⟨rfl, rfl⟩ | rfl) rfl ⟨_, rfl, ?_, below_store3 hx (by omega)⟩
      exact IsRat.stored hRB3 n5 n6 rfl rfl

end Go.Proofs.Ytkdcgkafjkklcaa

/- LAYER 3: the walk of Area at a right outline. -/
namespace Go.Proofs.Ytkdcgkafjkklcaa
open Go.RowKit

theorem ratPts_get (l : List Pt) (i : Nat) (hi : i < l.length) : (ratPts l).getD i (0, 0) = (((ptAt l i).1 : Rat), ((ptAt l i).2 : Rat)) := by
  unfold ratPts ptAt ratPt
  simp [hi]
theorem sumTo_int (l : List Pt) (n : Nat) (hn : n ≤ l.length) : sumTo (ratPts l) n = ((areaTo l n : Int) : Rat) := by
  induction n with
  | zero => simp [sumTo, areaTo]
  | succ n ih =>
    have hl : (ratPts l).length = l.length := by simp [ratPts]
    have h1 : (n + 1) % l.length < l.length := Nat.mod_lt _ (by omega)
    simp only [sumTo, areaTo]
    rw [ih (by omega), hl, ratPts_get l n (by omega), ratPts_get l _ h1]
    unfold edgeI
    rw [Rat.intCast_add, Rat.intCast_sub, Rat.intCast_mul, Rat.intCast_mul]
    grind
theorem SzV_int (l : List Pt) (h : ptsOk l = true) : SzV (ratPts l) := by
  intro i hi
  have hi' : i < l.length := by simpa [ratPts] using hi
  rw [ratPts_get l i hi']
  have := ptOk_range (ptsOk_get h i hi')
  unfold far at this
  exact ⟨i64_szR _ (by omega) (by omega) 1000 (by omega), i64_szR _ (by omega) (by omega) 1000 (by omega)⟩
theorem outErr_good {l : List Pt} (h : outErr l = 0) : (3 ≤ l.length ∧ l.length ≤ 16) ∧ ptsOk l = true := by
  unfold outErr at h
  split at h
  · cases h
  · rename_i h1
    split at h
    · cases h
    · rename_i h2
      exact ⟨by omega, by simpa using h2⟩
def areaQ (l : List Pt) : Rat := ((areaI l : Int) : Rat) / 2

set_option maxRecDepth 100000 in
set_option maxHeartbeats 4000000 in
theorem layupArea_ok (l : List Pt) (v : Value) (w : World) (h : PairsOf w v l) (h0 : outErr l = 0) : Calls Try.prog 24 #[v] w (RetRatE (areaQ l) 0 w) := by
  have H := Lib.hid h
  obtain ⟨ao, cap, rfl, _⟩ := h
  obtain ⟨⟨_, hl16⟩, hok⟩ := outErr_good h0
  have HC := Lib.hid (fun W (hW : PairsOf W (.slice ao l.length cap) l) => checkOutline_any l _ W hW)
  have HV := Lib.hid (fun W (hW : PairsOf W (.slice ao l.length cap) l) => vertices_any l _ W hW hok (by omega))
  have hlen : (ratPts l).length = l.length := by simp [ratPts]
  have hsum := sumTo_int l l.length (Nat.le_refl _)
  have HA : Hid (∀ v W, VtxOf W v (ratPts l) → Calls Try.prog 57 #[v] W (RetRat (areaQ l) W)) := fun v W hW => by
    have := area_any (ratPts l) v W hW (SzV_int l hok) (by omega)
    rw [hlen, hsum] at this
    exact this
  rw [h0] at HC
  clear h0 hlen hsum hok
  have hB0 := blk_new w #[.bool false, .slice none 0 0, .slice none 0 0] 50
  have hal := (Below.refl w.heap.size w).alloc (Nat.le_refl _) (.cells #[.bool false, .slice none 0 0, .slice none 0 0] 50)
  go_enter Try.func24, Try.ntmps24
  go_wp2_with fail
  refine (HC.out _ (H.out.below hal)).mono ?_
  rintro e w1 ⟨rfl, hb1⟩
  have hB1 := blk_keep hB0 hb1 (blk_lt hB0)
  have hx1 := ext_trans hal hb1
  clear hB0 hal hb1
  go_wp2_with fail
  refine (HV.out _ (H.out.below hx1)).mono ?_
  rintro e w2 ⟨vv, rfl, hvv, hb2⟩
  have hB2 := blk_keep hB1 hb2 (blk_lt hB1)
  have hx2 := ext_trans hx1 hb2
  clear hB1 hx1 hb2
  go_wp2_with fail
  refine (HA.out _ _ hvv).mono ?_
  rintro e w3 ⟨va, rfl, hva, hb3⟩
  have hRB : RB w3 w.heap.size := ⟨false, none, 0, 0, none, 0, 0, _, blk_keep hB2 hb3 (blk_lt hB2)⟩
  obtain ⟨a5, c5, a6, c6, rfl, n5, n6⟩ := IsRat.opened hva
  have hx := ext_trans hx2 hb3
  obtain ⟨g0, g1, g2, f0', f1', f2'⟩ := hRB.cell
  have hBl := hRB.lt
  generalize areaQ l = q at *
  clear hva hvv hb3 hx2 hB2
  go_wp2_with fail
  refine bodyPost_ret (v := .tuple #[.agg #[.bool (decide (q.num < 0)), .slice a5 (dig b64 q.num.natAbs).length _, .slice a6 (dig b64 (dn q.den)).length _], .int .i64 0]) (by simp [results, Try.results24, go_sem, g0, g1, g2]; first | done | exact ⟨⟨rfl, rfl⟩, rfl⟩ | exact ⟨rfl, rfl⟩ | rfl) rfl ⟨_, rfl, ?_, below_store3 hx (by omega)⟩
  exact IsRat.stored hRB n5 n6 rfl rfl

end Go.Proofs.Ytkdcgkafjkklcaa
