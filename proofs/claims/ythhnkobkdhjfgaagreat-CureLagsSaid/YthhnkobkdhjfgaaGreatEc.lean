/- Part c of the lemmas and walks. -/
import Derived.Test.YthhnkobkdhjfgaaGreatEb

namespace Go.Proofs.YthhnkobkdhjfgaaGreat
open Go.RowKit

theorem meet_ans {r : Ru} {x : Rn} {d : Nat} (hg : goes (inPh x) = true) (hv : 0 ≤ r.tb (inPh x) d ∧ r.tb (inPh x) d ≤ 3) : meet r x d = ansR (r.tb (inPh x) d) x := by
 unfold meet ansR
 rw [if_pos hg]
theorem rn8 {w : World} {B : Nat} {x : Rn} (h : w.heap[B]? = some (.cells (rnA x) 147 (0, 0))) :
  w.cell? ⟨B, 0, none⟩ = some (.int .i64 x.ph) ∧ w.cell? ⟨B, 1, none⟩ = some (.int .i64 x.be) ∧ w.cell? ⟨B, 2, none⟩ = some (.int .i64 x.mi) ∧ w.cell? ⟨B, 3, none⟩ = some (.int .i64 x.wa) ∧
  w.cell? ⟨B, 4, none⟩ = some (.bool x.l0) ∧ w.cell? ⟨B, 5, none⟩ = some (.bool x.l1) ∧ w.cell? ⟨B, 6, none⟩ = some (.bool x.l2) ∧ w.cell? ⟨B, 7, none⟩ = some (.bool x.te) :=
 ⟨blk_cell h 0 _ rfl, blk_cell h 1 _ rfl, blk_cell h 2 _ rfl, blk_cell h 3 _ rfl, blk_cell h 4 _ rfl, blk_cell h 5 _ rfl, blk_cell h 6 _ rfl, blk_cell h 7 _ rfl⟩
theorem rnf {w : World} {B : Nat} {x : Rn} (h : w.heap[B]? = some (.cells (rnA x) 147 (0, 0))) :
  w.frozen? ⟨B, 0, none⟩ = false ∧ w.frozen? ⟨B, 1, none⟩ = false ∧ w.frozen? ⟨B, 2, none⟩ = false ∧ w.frozen? ⟨B, 3, none⟩ = false ∧ w.frozen? ⟨B, 4, none⟩ = false ∧ w.frozen? ⟨B, 5, none⟩ = false ∧ w.frozen? ⟨B, 6, none⟩ = false ∧ w.frozen? ⟨B, 7, none⟩ = false :=
 ⟨blk_frozen h 0, blk_frozen h 1, blk_frozen h 2, blk_frozen h 3, blk_frozen h 4, blk_frozen h 5, blk_frozen h 6, blk_frozen h 7⟩

def RN8 (w : World) (B : Nat) : Prop := ∃ c0 c1 c2 c3 c4 c5 c6 c7, w.heap[B]? = some (.cells #[c0, c1, c2, c3, c4, c5, c6, c7] 147 (0, 0))
theorem RN8.lt {w : World} {B : Nat} (h : RN8 w B) : B < w.heap.size := by
 obtain ⟨_, _, _, _, _, _, _, _, h⟩ := h
 exact blk_lt h
theorem RN8.keep {a b : World} {B n : Nat} (h : RN8 a B) (hb : Below n a b) (hB : B < n) : RN8 b B := by
 obtain ⟨c0, c1, c2, c3, c4, c5, c6, c7, h⟩ := h
 exact ⟨c0, c1, c2, c3, c4, c5, c6, c7, blk_keep h hb hB⟩
theorem RN8.cell {w : World} {B : Nat} (h : RN8 w B) : w.cell? ⟨B, 0, none⟩ = some (cellOf w ⟨B, 0, none⟩) ∧ w.cell? ⟨B, 1, none⟩ = some (cellOf w ⟨B, 1, none⟩) ∧ w.cell? ⟨B, 2, none⟩ = some (cellOf w ⟨B, 2, none⟩) ∧ w.cell? ⟨B, 3, none⟩ = some (cellOf w ⟨B, 3, none⟩) ∧ w.cell? ⟨B, 4, none⟩ = some (cellOf w ⟨B, 4, none⟩) ∧ w.cell? ⟨B, 5, none⟩ = some (cellOf w ⟨B, 5, none⟩) ∧ w.cell? ⟨B, 6, none⟩ = some (cellOf w ⟨B, 6, none⟩) ∧ w.cell? ⟨B, 7, none⟩ = some (cellOf w ⟨B, 7, none⟩) ∧ w.frozen? ⟨B, 0, none⟩ = false ∧ w.frozen? ⟨B, 1, none⟩ = false ∧ w.frozen? ⟨B, 2, none⟩ = false ∧ w.frozen? ⟨B, 3, none⟩ = false ∧ w.frozen? ⟨B, 4, none⟩ = false ∧ w.frozen? ⟨B, 5, none⟩ = false ∧ w.frozen? ⟨B, 6, none⟩ = false ∧ w.frozen? ⟨B, 7, none⟩ = false := by
 obtain ⟨c0, c1, c2, c3, c4, c5, c6, c7, h⟩ := h
 have e : ∀ j v, (#[c0, c1, c2, c3, c4, c5, c6, c7] : Array Value)[j]? = some v → w.cell? ⟨B, j, none⟩ = some (cellOf w ⟨B, j, none⟩) := fun j v hv => by
  have := blk_cell h j v hv
  unfold cellOf
  rw [this]
  rfl
 exact ⟨e 0 _ rfl, e 1 _ rfl, e 2 _ rfl, e 3 _ rfl, e 4 _ rfl, e 5 _ rfl, e 6 _ rfl, e 7 _ rfl, blk_frozen h 0, blk_frozen h 1, blk_frozen h 2, blk_frozen h 3, blk_frozen h 4, blk_frozen h 5, blk_frozen h 6, blk_frozen h 7⟩
theorem set8 {w : World} {B T : Nat} {c0 c1 c2 c3 c4 c5 c6 c7 u0 u1 u2 u3 u4 u5 u6 u7 : Value} (h : w.heap[B]? = some (.cells #[c0, c1, c2, c3, c4, c5, c6, c7] T (0, 0))) :
  (((((((((w.setCell ⟨B, 0, none⟩ u0).setCell ⟨B, 1, none⟩ u1).setCell ⟨B, 2, none⟩ u2).setCell ⟨B, 3, none⟩ u3).setCell ⟨B, 4, none⟩ u4).setCell ⟨B, 5, none⟩ u5).setCell ⟨B, 6, none⟩ u6).setCell ⟨B, 7, none⟩ u7)).heap[B]? = some (.cells #[u0, u1, u2, u3, u4, u5, u6, u7] T (0, 0)) := by
 have h0 : (w.setCell ⟨B, 0, none⟩ u0).heap[B]? = some (.cells #[u0, c1, c2, c3, c4, c5, c6, c7] T (0, 0)) := blk_set h 0 _
 have h1 : ((w.setCell ⟨B, 0, none⟩ u0).setCell ⟨B, 1, none⟩ u1).heap[B]? = some (.cells #[u0, u1, c2, c3, c4, c5, c6, c7] T (0, 0)) := blk_set h0 1 _
 have h2 : (((w.setCell ⟨B, 0, none⟩ u0).setCell ⟨B, 1, none⟩ u1).setCell ⟨B, 2, none⟩ u2).heap[B]? = some (.cells #[u0, u1, u2, c3, c4, c5, c6, c7] T (0, 0)) := blk_set h1 2 _
 have h3 : ((((w.setCell ⟨B, 0, none⟩ u0).setCell ⟨B, 1, none⟩ u1).setCell ⟨B, 2, none⟩ u2).setCell ⟨B, 3, none⟩ u3).heap[B]? = some (.cells #[u0, u1, u2, u3, c4, c5, c6, c7] T (0, 0)) := blk_set h2 3 _
 have h4 : (((((w.setCell ⟨B, 0, none⟩ u0).setCell ⟨B, 1, none⟩ u1).setCell ⟨B, 2, none⟩ u2).setCell ⟨B, 3, none⟩ u3).setCell ⟨B, 4, none⟩ u4).heap[B]? = some (.cells #[u0, u1, u2, u3, u4, c5, c6, c7] T (0, 0)) := blk_set h3 4 _
 have h5 : ((((((w.setCell ⟨B, 0, none⟩ u0).setCell ⟨B, 1, none⟩ u1).setCell ⟨B, 2, none⟩ u2).setCell ⟨B, 3, none⟩ u3).setCell ⟨B, 4, none⟩ u4).setCell ⟨B, 5, none⟩ u5).heap[B]? = some (.cells #[u0, u1, u2, u3, u4, u5, c6, c7] T (0, 0)) := blk_set h4 5 _
 have h6 : (((((((w.setCell ⟨B, 0, none⟩ u0).setCell ⟨B, 1, none⟩ u1).setCell ⟨B, 2, none⟩ u2).setCell ⟨B, 3, none⟩ u3).setCell ⟨B, 4, none⟩ u4).setCell ⟨B, 5, none⟩ u5).setCell ⟨B, 6, none⟩ u6).heap[B]? = some (.cells #[u0, u1, u2, u3, u4, u5, u6, c7] T (0, 0)) := blk_set h5 6 _
 have h7 : ((((((((w.setCell ⟨B, 0, none⟩ u0).setCell ⟨B, 1, none⟩ u1).setCell ⟨B, 2, none⟩ u2).setCell ⟨B, 3, none⟩ u3).setCell ⟨B, 4, none⟩ u4).setCell ⟨B, 5, none⟩ u5).setCell ⟨B, 6, none⟩ u6).setCell ⟨B, 7, none⟩ u7).heap[B]? = some (.cells #[u0, u1, u2, u3, u4, u5, u6, u7] T (0, 0)) := blk_set h6 7 _
 exact h7
theorem RN8.store {w : World} {B : Nat} (u0 u1 u2 u3 u4 u5 u6 u7 : Value) (h : RN8 w B) : RN8 (((((((((w.setCell ⟨B, 0, none⟩ u0).setCell ⟨B, 1, none⟩ u1).setCell ⟨B, 2, none⟩ u2).setCell ⟨B, 3, none⟩ u3).setCell ⟨B, 4, none⟩ u4).setCell ⟨B, 5, none⟩ u5).setCell ⟨B, 6, none⟩ u6).setCell ⟨B, 7, none⟩ u7)) B := by
 obtain ⟨_, _, _, _, _, _, _, _, h⟩ := h
 exact ⟨_, _, _, _, _, _, _, _, set8 h⟩
theorem below_set8 {n : Nat} {w0 w : World} {B : Nat} {u0 u1 u2 u3 u4 u5 u6 u7 : Value} (h : Below n w0 w) (hB : n ≤ B) : Below n w0 (((((((((w.setCell ⟨B, 0, none⟩ u0).setCell ⟨B, 1, none⟩ u1).setCell ⟨B, 2, none⟩ u2).setCell ⟨B, 3, none⟩ u3).setCell ⟨B, 4, none⟩ u4).setCell ⟨B, 5, none⟩ u5).setCell ⟨B, 6, none⟩ u6).setCell ⟨B, 7, none⟩ u7)) :=
 (((((((h.setCell (p := ⟨B, 0, none⟩) hB u0).setCell (p := ⟨B, 1, none⟩) hB u1).setCell (p := ⟨B, 2, none⟩) hB u2).setCell (p := ⟨B, 3, none⟩) hB u3).setCell (p := ⟨B, 4, none⟩) hB u4).setCell (p := ⟨B, 5, none⟩) hB u5).setCell (p := ⟨B, 6, none⟩) hB u6).setCell (p := ⟨B, 7, none⟩) hB u7
theorem step_lookup {P : Program} (w : World) {ops : Array Oper} {o : Oper} {a : Act} {K : Act → World → Prop} {Q : Exit → Act → World → Prop} {E : Prop} (hgd : o.guard = none) (m x : Operand) (t : TypeId)
  (hop : o.op = Op.lookup t m x false) (vm vx v : Value) (hm : a.eval m = vm) (hx : a.eval x = vx) (hrun : (Instr.lookup t vm vx false).run P w = .ok v w) (h : K (a.put o.dst v) w) :
  if Region.wanted o (yielded ops a.tmps) = true then Oper.wp P o a w K Q else E := by
 have hw : Region.wanted o (yielded ops a.tmps) = true := by simp [Region.wanted, hgd]
 rw [if_pos hw]
 unfold Oper.wp
 simp [execOp, hop, hm, hx, hrun, Result.andThen]
 exact h
theorem boxesM (w : World) (x : Rn) (r : Ru) (cs : Array Value) (T : Nat) (W : World) (hW : W = ((w.alloc (.cells (rnA x) 147)).alloc (.cells (ruA r) 144)).alloc (.cells cs T)) :
  Below w.heap.size w W ∧ W.heap[w.heap.size]? = some (.cells (rnA x) 147 (0, 0)) ∧ W.heap[w.heap.size + 1]? = some (.cells (ruA r) 144 (0, 0)) ∧ W.heap[w.heap.size + 1 + 1]? = some (.cells cs T (0, 0)) ∧ W.heap.size = w.heap.size + 3 := by
 subst hW
 have e1 : (w.alloc (.cells (rnA x) 147)).heap.size = w.heap.size + 1 := World.size_alloc ..
 have e2 : ((w.alloc (.cells (rnA x) 147)).alloc (.cells (ruA r) 144)).heap.size = w.heap.size + 1 + 1 := by rw [World.size_alloc, e1]
 have a1 := blk_new w (rnA x) 147
 have a2 := blk_new (w.alloc (.cells (rnA x) 147)) (ruA r) 144
 have a3 := blk_new ((w.alloc (.cells (rnA x) 147)).alloc (.cells (ruA r) 144)) cs T
 rw [e1] at a2
 rw [e2] at a3
 have a1' := (heap_alloc_old _ (.cells (ruA r) 144) (blk_lt a1)).trans a1
 exact ⟨ba (below2 _ _ _), (heap_alloc_old _ _ (blk_lt a1')).trans a1', (heap_alloc_old _ _ (blk_lt a2)).trans a2, a3, by rw [World.size_alloc, e2]⟩
theorem keep9 {n : Nat} {W a b : World} {B1 B2 o : Nat} {v0 v1 v2 v3 v4 v5 v6 v7 v8 : Value} (hn : n ≤ W.heap.size) (hb : Below a.heap.size a b)
  (h : Below n W a ∧ a.cell? ⟨B1, 0, none⟩ = some (v0) ∧ a.cell? ⟨B1, 1, none⟩ = some (v1) ∧ a.cell? ⟨B1, 2, none⟩ = some (v2) ∧ a.cell? ⟨B1, 3, none⟩ = some (v3) ∧ a.cell? ⟨B1, 4, none⟩ = some (v4) ∧ a.cell? ⟨B1, 5, none⟩ = some (v5) ∧ a.cell? ⟨B1, 6, none⟩ = some (v6) ∧ a.cell? ⟨B1, 7, none⟩ = some (v7) ∧ a.cell? ⟨B2, o, none⟩ = some v8) : Below n W b ∧ b.cell? ⟨B1, 0, none⟩ = some (v0) ∧ b.cell? ⟨B1, 1, none⟩ = some (v1) ∧ b.cell? ⟨B1, 2, none⟩ = some (v2) ∧ b.cell? ⟨B1, 3, none⟩ = some (v3) ∧ b.cell? ⟨B1, 4, none⟩ = some (v4) ∧ b.cell? ⟨B1, 5, none⟩ = some (v5) ∧ b.cell? ⟨B1, 6, none⟩ = some (v6) ∧ b.cell? ⟨B1, 7, none⟩ = some (v7) ∧ b.cell? ⟨B2, o, none⟩ = some v8 := by
 obtain ⟨h0, k0, k1, k2, k3, k4, k5, k6, k7, k8⟩ := h
 have e : ∀ B j v, a.cell? ⟨B, j, none⟩ = some v → b.cell? ⟨B, j, none⟩ = some v := fun B j v h => (hb.cell (p := ⟨B, j, none⟩) (World.block_lt_of_cell? (h := h))).trans h
 have hs := h0.size
 exact ⟨h0.trans (hb.mono (by omega)), e _ _ _ k0, e _ _ _ k1, e _ _ _ k2, e _ _ _ k3, e _ _ _ k4, e _ _ _ k5, e _ _ _ k6, e _ _ _ k7, e _ _ _ k8⟩
theorem keep9s {n B : Nat} {W a b : World} {B1 B2 o : Nat} {v0 v1 v2 v3 v4 v5 v6 v7 v8 : Value} (hn : n ≤ B) (h1 : B1 < B) (h2 : B2 < B) (hs : B ≤ a.heap.size) (hb : Below B a b)
  (h : Below n W a ∧ a.cell? ⟨B1, 0, none⟩ = some (v0) ∧ a.cell? ⟨B1, 1, none⟩ = some (v1) ∧ a.cell? ⟨B1, 2, none⟩ = some (v2) ∧ a.cell? ⟨B1, 3, none⟩ = some (v3) ∧ a.cell? ⟨B1, 4, none⟩ = some (v4) ∧ a.cell? ⟨B1, 5, none⟩ = some (v5) ∧ a.cell? ⟨B1, 6, none⟩ = some (v6) ∧ a.cell? ⟨B1, 7, none⟩ = some (v7) ∧ a.cell? ⟨B2, o, none⟩ = some v8) : Below n W b ∧ b.cell? ⟨B1, 0, none⟩ = some (v0) ∧ b.cell? ⟨B1, 1, none⟩ = some (v1) ∧ b.cell? ⟨B1, 2, none⟩ = some (v2) ∧ b.cell? ⟨B1, 3, none⟩ = some (v3) ∧ b.cell? ⟨B1, 4, none⟩ = some (v4) ∧ b.cell? ⟨B1, 5, none⟩ = some (v5) ∧ b.cell? ⟨B1, 6, none⟩ = some (v6) ∧ b.cell? ⟨B1, 7, none⟩ = some (v7) ∧ b.cell? ⟨B2, o, none⟩ = some v8 := by
 obtain ⟨h0, k0, k1, k2, k3, k4, k5, k6, k7, k8⟩ := h
 have e : ∀ B' j v, B' < B → a.cell? ⟨B', j, none⟩ = some v → b.cell? ⟨B', j, none⟩ = some v := fun B' j v hl h => (hb.cell (p := ⟨B', j, none⟩) hl).trans h
 exact ⟨h0.trans (hb.mono hn), e _ _ _ h1 k0, e _ _ _ h1 k1, e _ _ _ h1 k2, e _ _ _ h1 k3, e _ _ _ h1 k4, e _ _ _ h1 k5, e _ _ _ h1 k6, e _ _ _ h1 k7, e _ _ _ h2 k8⟩
/-! WALKS -/
set_option maxRecDepth 100000 in
set_option maxHeartbeats 1000000 in
theorem meet_go0 (r : Ru) (ph be mi wa : Int) (l0 l1 l2 te : Bool) (d : Nat) (h4 : ¬ ph = 4) (hp : 1 ≤ ph ∧ ph ≤ 3) (y : Rn) (j : Nat) (t : Int) (w : World)
  (HL : Hid (∀ w M, AnsMap w M → (Instr.lookup 262 (.map (some M)) (.int .i64 t) false).run Tryz.prog w = .ok (.func (.func 189) #[] #[]) w))
  (HC : Hid (∀ w, Calls Tryz.prog 189 #[rnV ⟨ph, be, mi, wa, l0, l1, l2, te⟩] w (RetRn y w)))
  (HT : Hid ((ruA r)[4 + j * 3 + d]? = some (.int .i64 t))) (hw : IntKind.i64.wrap (ph - 1) = (j : Int)) (hj0 : (0 : Int) ≤ j) (hj : (j : Int) < 3) (hd0 : (0 : Int) ≤ d) (hd : (d : Int) < 3) :
  Calls Tryz.prog 146 #[rnV ⟨ph, be, mi, wa, l0, l1, l2, te⟩, ruV r, .int .i64 d] w (RetRn y w) := by
 have t1 : (ph == 4) = false := by simp [h4]
 have hin : inR ph 1 3 = true := goes_yes hp
 clear h4 hp
 go_enter Tryz.func146, Tryz.ntmps146
 go_wp2_with fail
 refine (in_any _ _ _ _).mono ?_
 rintro e w' ⟨rfl, rfl⟩
 rw [hin]
 clear hin t1
 go_wp2_with fail
 generalize hW0 : ((w.alloc (.cells (rnA ⟨ph, be, mi, wa, l0, l1, l2, te⟩) 147)).alloc (.cells (ruA r) 144)).alloc (.cells _ _) = W at *
 obtain ⟨hal, hB1, hB2, hB3, hWs⟩ := boxesM w _ _ _ _ W hW0.symm
 clear hW0
 obtain ⟨k0, k1, k2, k3, k4, k5, k6, k7⟩ := rn8 hB1
 have k8 : W.cell? ⟨w.heap.size + 1, 4 + j * 3 + d, none⟩ = some (.int .i64 t) := blk_cell hB2 _ _ (HT.out)
 have HB3 := Lib.hid hB3
 have N3 : Hid (w.heap.size + 1 + 1 ≤ W.heap.size) := by show _ ≤ _; omega
 have HAL := Lib.hid hal
 clear hB1 hB2 hB3 hWs hal
 refine wp_region_held_drew (S := (fun w' => Below (w.heap.size + 1 + 1) W w' ∧ w'.cell? ⟨w.heap.size, 0, none⟩ = some (.int .i64 ph) ∧ w'.cell? ⟨w.heap.size, 1, none⟩ = some (.int .i64 be) ∧ w'.cell? ⟨w.heap.size, 2, none⟩ = some (.int .i64 mi) ∧ w'.cell? ⟨w.heap.size, 3, none⟩ = some (.int .i64 wa) ∧ w'.cell? ⟨w.heap.size, 4, none⟩ = some (.bool l0) ∧ w'.cell? ⟨w.heap.size, 5, none⟩ = some (.bool l1) ∧ w'.cell? ⟨w.heap.size, 6, none⟩ = some (.bool l2) ∧ w'.cell? ⟨w.heap.size, 7, none⟩ = some (.bool te) ∧ w'.cell? ⟨w.heap.size + 1, 4 + j * 3 + d, none⟩ = some (.int .i64 t))) (by kernel_rfl) ⟨(Below.refl _ _).drew, k0, k1, k2, k3, k4, k5, k6, k7, k8⟩ (fun hh0 => ?_)
 clear k0 k1 k2 k3 k4 k5 k6 k7 k8
 refine tk0 (i := 1) (v := ?vp1) rfl (Or.inl ⟨by rfl, ?hyp1⟩) (by assumption) ?rep1
 case hyp1 => intro w hSw; (try dsimp only at hSw); (go_simp <;> with_reducible rfl)
 try simp only [na1, na2, na3, Act.put, na4, na5, na6]
 refine tk0 (i := 2) (v := ?vp2) rfl (Or.inl ⟨by rfl, ?hyp2⟩) (by assumption) ?rep2
 case hyp2 => intro w hSw; (try dsimp only at hSw); (go_simp <;> with_reducible rfl)
 try simp only [na1, na2, na3, Act.put, na4, na5, na6]
 refine tk0 (i := 3) (v := ?vp3) rfl (Or.inl ⟨by rfl, ?hyp3⟩) (by assumption) ?rep3
 case hyp3 => intro w hSw; (try dsimp only at hSw); (go_simp <;> with_reducible rfl)
 try simp only [na1, na2, na3, Act.put, na4, na5, na6]
 refine tk0 (i := 4) (v := ?vp4) rfl (Or.inl ⟨by rfl, ?hyp4⟩) (by assumption) ?rep4
 case hyp4 => intro w hSw; (try dsimp only at hSw); (go_simp <;> with_reducible rfl)
 try simp only [na1, na2, na3, Act.put, na4, na5, na6]
 refine tk0 (i := 5) (v := ?vp5) rfl (Or.inl ⟨by rfl, ?hyp5⟩) (by assumption) ?rep5
 case hyp5 => intro w hSw; (try dsimp only at hSw); (go_simp <;> with_reducible rfl)
 try simp only [na1, na2, na3, Act.put, na4, na5, na6]
 refine tk0 (i := 6) (v := ?vp6) rfl (Or.inl ⟨by rfl, ?hyp6⟩) (by assumption) ?rep6
 case hyp6 => intro w hSw; (try dsimp only at hSw); (go_simp <;> with_reducible rfl)
 try simp only [na1, na2, na3, Act.put, na4, na5, na6]
 refine tk0 (i := 7) (v := ?vp7) rfl (Or.inl ⟨by rfl, ?hyp7⟩) (by assumption) ?rep7
 case hyp7 => intro w hSw; (try dsimp only at hSw); (go_simp <;> with_reducible rfl)
 try simp only [na1, na2, na3, Act.put, na4, na5, na6]
 refine tk0 (i := 9) (v := ?vp9) rfl (Or.inl ⟨by rfl, ?hyp9⟩) (by assumption) ?rep9
 case hyp9 => intro w hSw; (try dsimp only at hSw); (go_simp <;> with_reducible rfl)
 try simp only [na1, na2, na3, Act.put, na4, na5, na6]
 refine rd1 (i := 0) rfl (fun K hK => ?_)
 go_simp
 go_wp2_with (go_at_call 174; (with_reducible refine (answers_any _).mono ?_); rintro e wA ⟨MA, rfl, hMA, hbA⟩)
 refine hK.out _ _ (keep9 N3.out hbA hh0) (fun hh1 => ?_)
 clear hK K hh0
 try simp only [na1, na2, na3, Act.put, na4, na5, na6]
 have hLA := HL.out _ _ hMA
 clear hMA
 refine rd1 (i := 8) rfl (fun K hK => ?_)
 refine step_lookup _ rfl (.tmp 18) (.tmp 25) 262 rfl (.map (some MA)) (.int .i64 t) (.func (.func 189) #[] #[]) rfl rfl hLA ?_
 refine hK.out _ _ hh1 (fun hh2 => ?_)
 clear hK K hh1 hLA
 try simp only [na1, na2, na3, Act.put, na4, na5, na6]
 refine rd1 (i := 10) rfl (fun K hK => ?_)
 go_simp
 go_wp2_with ((with_reducible refine (HC.out _).mono ?_); rintro e wB ⟨rfl, hbB⟩)
 refine hK.out _ _ (keep9 N3.out hbB hh2) (fun hh3 => ?_)
 clear hK K hh2
 try simp only [na1, na2, na3, Act.put, na4, na5, na6]
 have hB3 : W.drew.heap[w.heap.size + 1 + 1]? = _ := HB3.out
 have hA3 := blk_keep (w' := wA) hB3 hbA (blk_lt hB3)
 have hC3 := blk_keep hA3 hbB (blk_lt hA3)
 have bx : Below W.heap.size W wB := ((Below.refl _ _).drew.trans hbA).trans (hbB.mono ((Below.refl _ _).drew.trans hbA).size)
 have g0 := blk_cell hC3 0 _ rfl
 have g1 := blk_cell hC3 1 _ rfl
 have g2 := blk_cell hC3 2 _ rfl
 have g3 := blk_cell hC3 3 _ rfl
 have g4 := blk_cell hC3 4 _ rfl
 have g5 := blk_cell hC3 5 _ rfl
 have g6 := blk_cell hC3 6 _ rfl
 have g7 := blk_cell hC3 7 _ rfl
 have f0 := blk_frozen hC3 0
 have f1 := blk_frozen hC3 1
 have f2 := blk_frozen hC3 2
 have f3 := blk_frozen hC3 3
 have f4 := blk_frozen hC3 4
 have f5 := blk_frozen hC3 5
 have f6 := blk_frozen hC3 6
 have f7 := blk_frozen hC3 7
 have HC3 := Lib.hid hC3
 have BX := Lib.hid bx
 clear hB3 hA3 hC3 bx hbA hbB
 refine rd1 (i := 11) rfl (fun K hK => ?_)
 go_simp
 refine hK.out _ _ ?_ (fun hh4 => ?_)
 ·
  exact keep9s (Nat.le_refl _) (by omega) (by omega) (by have := blk_lt HC3.out; omega) (below_set8 (Below.refl _ _) (Nat.le_refl _)) hh3
 clear hK K hh3 g0 g1 g2 g3 g4 g5 g6 g7 f0 f1 f2 f3 f4 f5 f6 f7
 try simp only [na1, na2, na3, Act.put, na4, na5, na6]
 refine wpAnyH_done (by kernel_rfl) ?_ _
 have hS := set8 (u0 := .int .i64 y.ph) (u1 := .int .i64 y.be) (u2 := .int .i64 y.mi) (u3 := .int .i64 y.wa) (u4 := .bool y.l0) (u5 := .bool y.l1) (u6 := .bool y.l2) (u7 := .bool y.te) HC3.out
 obtain ⟨g0, g1, g2, g3, g4, g5, g6, g7⟩ := rn8 (x := y) hS
 have HS := Lib.hid (blk_lt hS)
 clear hS
 go_wp2_with fail
 refine bodyPost_ret (v := rnV y) (by simp [results, Tryz.results146, go_sem, g0, g1, g2, g3, g4, g5, g6, g7]) rfl ⟨rfl, ?_⟩
 exact HAL.out.trans (below_set8 (BX.out.mono HAL.out.size) (by omega))
set_option maxRecDepth 100000 in
set_option maxHeartbeats 1000000 in
theorem meet_go1 (r : Ru) (ph be mi wa : Int) (l0 l1 l2 te : Bool) (d : Nat) (h4 : ¬ ph = 4) (hp : 1 ≤ ph ∧ ph ≤ 3) (y : Rn) (j : Nat) (t : Int) (w : World)
  (HL : Hid (∀ w M, AnsMap w M → (Instr.lookup 262 (.map (some M)) (.int .i64 t) false).run Tryz.prog w = .ok (.func (.func 190) #[] #[]) w))
  (HC : Hid (∀ w, Calls Tryz.prog 190 #[rnV ⟨ph, be, mi, wa, l0, l1, l2, te⟩] w (RetRn y w)))
  (HT : Hid ((ruA r)[4 + j * 3 + d]? = some (.int .i64 t))) (hw : IntKind.i64.wrap (ph - 1) = (j : Int)) (hj0 : (0 : Int) ≤ j) (hj : (j : Int) < 3) (hd0 : (0 : Int) ≤ d) (hd : (d : Int) < 3) :
  Calls Tryz.prog 146 #[rnV ⟨ph, be, mi, wa, l0, l1, l2, te⟩, ruV r, .int .i64 d] w (RetRn y w) := by
 have t1 : (ph == 4) = false := by simp [h4]
 have hin : inR ph 1 3 = true := goes_yes hp
 clear h4 hp
 go_enter Tryz.func146, Tryz.ntmps146
 go_wp2_with fail
 refine (in_any _ _ _ _).mono ?_
 rintro e w' ⟨rfl, rfl⟩
 rw [hin]
 clear hin t1
 go_wp2_with fail
 generalize hW0 : ((w.alloc (.cells (rnA ⟨ph, be, mi, wa, l0, l1, l2, te⟩) 147)).alloc (.cells (ruA r) 144)).alloc (.cells _ _) = W at *
 obtain ⟨hal, hB1, hB2, hB3, hWs⟩ := boxesM w _ _ _ _ W hW0.symm
 clear hW0
 obtain ⟨k0, k1, k2, k3, k4, k5, k6, k7⟩ := rn8 hB1
 have k8 : W.cell? ⟨w.heap.size + 1, 4 + j * 3 + d, none⟩ = some (.int .i64 t) := blk_cell hB2 _ _ (HT.out)
 have HB3 := Lib.hid hB3
 have N3 : Hid (w.heap.size + 1 + 1 ≤ W.heap.size) := by show _ ≤ _; omega
 have HAL := Lib.hid hal
 clear hB1 hB2 hB3 hWs hal
 refine wp_region_held_drew (S := (fun w' => Below (w.heap.size + 1 + 1) W w' ∧ w'.cell? ⟨w.heap.size, 0, none⟩ = some (.int .i64 ph) ∧ w'.cell? ⟨w.heap.size, 1, none⟩ = some (.int .i64 be) ∧ w'.cell? ⟨w.heap.size, 2, none⟩ = some (.int .i64 mi) ∧ w'.cell? ⟨w.heap.size, 3, none⟩ = some (.int .i64 wa) ∧ w'.cell? ⟨w.heap.size, 4, none⟩ = some (.bool l0) ∧ w'.cell? ⟨w.heap.size, 5, none⟩ = some (.bool l1) ∧ w'.cell? ⟨w.heap.size, 6, none⟩ = some (.bool l2) ∧ w'.cell? ⟨w.heap.size, 7, none⟩ = some (.bool te) ∧ w'.cell? ⟨w.heap.size + 1, 4 + j * 3 + d, none⟩ = some (.int .i64 t))) (by kernel_rfl) ⟨(Below.refl _ _).drew, k0, k1, k2, k3, k4, k5, k6, k7, k8⟩ (fun hh0 => ?_)
 clear k0 k1 k2 k3 k4 k5 k6 k7 k8
 refine tk0 (i := 1) (v := ?vp1) rfl (Or.inl ⟨by rfl, ?hyp1⟩) (by assumption) ?rep1
 case hyp1 => intro w hSw; (try dsimp only at hSw); (go_simp <;> with_reducible rfl)
 try simp only [na1, na2, na3, Act.put, na4, na5, na6]
 refine tk0 (i := 2) (v := ?vp2) rfl (Or.inl ⟨by rfl, ?hyp2⟩) (by assumption) ?rep2
 case hyp2 => intro w hSw; (try dsimp only at hSw); (go_simp <;> with_reducible rfl)
 try simp only [na1, na2, na3, Act.put, na4, na5, na6]
 refine tk0 (i := 3) (v := ?vp3) rfl (Or.inl ⟨by rfl, ?hyp3⟩) (by assumption) ?rep3
 case hyp3 => intro w hSw; (try dsimp only at hSw); (go_simp <;> with_reducible rfl)
 try simp only [na1, na2, na3, Act.put, na4, na5, na6]
 refine tk0 (i := 4) (v := ?vp4) rfl (Or.inl ⟨by rfl, ?hyp4⟩) (by assumption) ?rep4
 case hyp4 => intro w hSw; (try dsimp only at hSw); (go_simp <;> with_reducible rfl)
 try simp only [na1, na2, na3, Act.put, na4, na5, na6]
 refine tk0 (i := 5) (v := ?vp5) rfl (Or.inl ⟨by rfl, ?hyp5⟩) (by assumption) ?rep5
 case hyp5 => intro w hSw; (try dsimp only at hSw); (go_simp <;> with_reducible rfl)
 try simp only [na1, na2, na3, Act.put, na4, na5, na6]
 refine tk0 (i := 6) (v := ?vp6) rfl (Or.inl ⟨by rfl, ?hyp6⟩) (by assumption) ?rep6
 case hyp6 => intro w hSw; (try dsimp only at hSw); (go_simp <;> with_reducible rfl)
 try simp only [na1, na2, na3, Act.put, na4, na5, na6]
 refine tk0 (i := 7) (v := ?vp7) rfl (Or.inl ⟨by rfl, ?hyp7⟩) (by assumption) ?rep7
 case hyp7 => intro w hSw; (try dsimp only at hSw); (go_simp <;> with_reducible rfl)
 try simp only [na1, na2, na3, Act.put, na4, na5, na6]
 refine tk0 (i := 9) (v := ?vp9) rfl (Or.inl ⟨by rfl, ?hyp9⟩) (by assumption) ?rep9
 case hyp9 => intro w hSw; (try dsimp only at hSw); (go_simp <;> with_reducible rfl)
 try simp only [na1, na2, na3, Act.put, na4, na5, na6]
 refine rd1 (i := 0) rfl (fun K hK => ?_)
 go_simp
 go_wp2_with (go_at_call 174; (with_reducible refine (answers_any _).mono ?_); rintro e wA ⟨MA, rfl, hMA, hbA⟩)
 refine hK.out _ _ (keep9 N3.out hbA hh0) (fun hh1 => ?_)
 clear hK K hh0
 try simp only [na1, na2, na3, Act.put, na4, na5, na6]
 have hLA := HL.out _ _ hMA
 clear hMA
 refine rd1 (i := 8) rfl (fun K hK => ?_)
 refine step_lookup _ rfl (.tmp 18) (.tmp 25) 262 rfl (.map (some MA)) (.int .i64 t) (.func (.func 190) #[] #[]) rfl rfl hLA ?_
 refine hK.out _ _ hh1 (fun hh2 => ?_)
 clear hK K hh1 hLA
 try simp only [na1, na2, na3, Act.put, na4, na5, na6]
 refine rd1 (i := 10) rfl (fun K hK => ?_)
 go_simp
 go_wp2_with ((with_reducible refine (HC.out _).mono ?_); rintro e wB ⟨rfl, hbB⟩)
 refine hK.out _ _ (keep9 N3.out hbB hh2) (fun hh3 => ?_)
 clear hK K hh2
 try simp only [na1, na2, na3, Act.put, na4, na5, na6]
 have hB3 : W.drew.heap[w.heap.size + 1 + 1]? = _ := HB3.out
 have hA3 := blk_keep (w' := wA) hB3 hbA (blk_lt hB3)
 have hC3 := blk_keep hA3 hbB (blk_lt hA3)
 have bx : Below W.heap.size W wB := ((Below.refl _ _).drew.trans hbA).trans (hbB.mono ((Below.refl _ _).drew.trans hbA).size)
 have g0 := blk_cell hC3 0 _ rfl
 have g1 := blk_cell hC3 1 _ rfl
 have g2 := blk_cell hC3 2 _ rfl
 have g3 := blk_cell hC3 3 _ rfl
 have g4 := blk_cell hC3 4 _ rfl
 have g5 := blk_cell hC3 5 _ rfl
 have g6 := blk_cell hC3 6 _ rfl
 have g7 := blk_cell hC3 7 _ rfl
 have f0 := blk_frozen hC3 0
 have f1 := blk_frozen hC3 1
 have f2 := blk_frozen hC3 2
 have f3 := blk_frozen hC3 3
 have f4 := blk_frozen hC3 4
 have f5 := blk_frozen hC3 5
 have f6 := blk_frozen hC3 6
 have f7 := blk_frozen hC3 7
 have HC3 := Lib.hid hC3
 have BX := Lib.hid bx
 clear hB3 hA3 hC3 bx hbA hbB
 refine rd1 (i := 11) rfl (fun K hK => ?_)
 go_simp
 refine hK.out _ _ ?_ (fun hh4 => ?_)
 ·
  exact keep9s (Nat.le_refl _) (by omega) (by omega) (by have := blk_lt HC3.out; omega) (below_set8 (Below.refl _ _) (Nat.le_refl _)) hh3
 clear hK K hh3 g0 g1 g2 g3 g4 g5 g6 g7 f0 f1 f2 f3 f4 f5 f6 f7
 try simp only [na1, na2, na3, Act.put, na4, na5, na6]
 refine wpAnyH_done (by kernel_rfl) ?_ _
 have hS := set8 (u0 := .int .i64 y.ph) (u1 := .int .i64 y.be) (u2 := .int .i64 y.mi) (u3 := .int .i64 y.wa) (u4 := .bool y.l0) (u5 := .bool y.l1) (u6 := .bool y.l2) (u7 := .bool y.te) HC3.out
 obtain ⟨g0, g1, g2, g3, g4, g5, g6, g7⟩ := rn8 (x := y) hS
 have HS := Lib.hid (blk_lt hS)
 clear hS
 go_wp2_with fail
 refine bodyPost_ret (v := rnV y) (by simp [results, Tryz.results146, go_sem, g0, g1, g2, g3, g4, g5, g6, g7]) rfl ⟨rfl, ?_⟩
 exact HAL.out.trans (below_set8 (BX.out.mono HAL.out.size) (by omega))
set_option maxRecDepth 100000 in
set_option maxHeartbeats 1000000 in
theorem meet_go2 (r : Ru) (ph be mi wa : Int) (l0 l1 l2 te : Bool) (d : Nat) (h4 : ¬ ph = 4) (hp : 1 ≤ ph ∧ ph ≤ 3) (y : Rn) (j : Nat) (t : Int) (w : World)
  (HL : Hid (∀ w M, AnsMap w M → (Instr.lookup 262 (.map (some M)) (.int .i64 t) false).run Tryz.prog w = .ok (.func (.func 191) #[] #[]) w))
  (HC : Hid (∀ w, Calls Tryz.prog 191 #[rnV ⟨ph, be, mi, wa, l0, l1, l2, te⟩] w (RetRn y w)))
  (HT : Hid ((ruA r)[4 + j * 3 + d]? = some (.int .i64 t))) (hw : IntKind.i64.wrap (ph - 1) = (j : Int)) (hj0 : (0 : Int) ≤ j) (hj : (j : Int) < 3) (hd0 : (0 : Int) ≤ d) (hd : (d : Int) < 3) :
  Calls Tryz.prog 146 #[rnV ⟨ph, be, mi, wa, l0, l1, l2, te⟩, ruV r, .int .i64 d] w (RetRn y w) := by
 have t1 : (ph == 4) = false := by simp [h4]
 have hin : inR ph 1 3 = true := goes_yes hp
 clear h4 hp
 go_enter Tryz.func146, Tryz.ntmps146
 go_wp2_with fail
 refine (in_any _ _ _ _).mono ?_
 rintro e w' ⟨rfl, rfl⟩
 rw [hin]
 clear hin t1
 go_wp2_with fail
 generalize hW0 : ((w.alloc (.cells (rnA ⟨ph, be, mi, wa, l0, l1, l2, te⟩) 147)).alloc (.cells (ruA r) 144)).alloc (.cells _ _) = W at *
 obtain ⟨hal, hB1, hB2, hB3, hWs⟩ := boxesM w _ _ _ _ W hW0.symm
 clear hW0
 obtain ⟨k0, k1, k2, k3, k4, k5, k6, k7⟩ := rn8 hB1
 have k8 : W.cell? ⟨w.heap.size + 1, 4 + j * 3 + d, none⟩ = some (.int .i64 t) := blk_cell hB2 _ _ (HT.out)
 have HB3 := Lib.hid hB3
 have N3 : Hid (w.heap.size + 1 + 1 ≤ W.heap.size) := by show _ ≤ _; omega
 have HAL := Lib.hid hal
 clear hB1 hB2 hB3 hWs hal
 refine wp_region_held_drew (S := (fun w' => Below (w.heap.size + 1 + 1) W w' ∧ w'.cell? ⟨w.heap.size, 0, none⟩ = some (.int .i64 ph) ∧ w'.cell? ⟨w.heap.size, 1, none⟩ = some (.int .i64 be) ∧ w'.cell? ⟨w.heap.size, 2, none⟩ = some (.int .i64 mi) ∧ w'.cell? ⟨w.heap.size, 3, none⟩ = some (.int .i64 wa) ∧ w'.cell? ⟨w.heap.size, 4, none⟩ = some (.bool l0) ∧ w'.cell? ⟨w.heap.size, 5, none⟩ = some (.bool l1) ∧ w'.cell? ⟨w.heap.size, 6, none⟩ = some (.bool l2) ∧ w'.cell? ⟨w.heap.size, 7, none⟩ = some (.bool te) ∧ w'.cell? ⟨w.heap.size + 1, 4 + j * 3 + d, none⟩ = some (.int .i64 t))) (by kernel_rfl) ⟨(Below.refl _ _).drew, k0, k1, k2, k3, k4, k5, k6, k7, k8⟩ (fun hh0 => ?_)
 clear k0 k1 k2 k3 k4 k5 k6 k7 k8
 refine tk0 (i := 1) (v := ?vp1) rfl (Or.inl ⟨by rfl, ?hyp1⟩) (by assumption) ?rep1
 case hyp1 => intro w hSw; (try dsimp only at hSw); (go_simp <;> with_reducible rfl)
 try simp only [na1, na2, na3, Act.put, na4, na5, na6]
 refine tk0 (i := 2) (v := ?vp2) rfl (Or.inl ⟨by rfl, ?hyp2⟩) (by assumption) ?rep2
 case hyp2 => intro w hSw; (try dsimp only at hSw); (go_simp <;> with_reducible rfl)
 try simp only [na1, na2, na3, Act.put, na4, na5, na6]
 refine tk0 (i := 3) (v := ?vp3) rfl (Or.inl ⟨by rfl, ?hyp3⟩) (by assumption) ?rep3
 case hyp3 => intro w hSw; (try dsimp only at hSw); (go_simp <;> with_reducible rfl)
 try simp only [na1, na2, na3, Act.put, na4, na5, na6]
 refine tk0 (i := 4) (v := ?vp4) rfl (Or.inl ⟨by rfl, ?hyp4⟩) (by assumption) ?rep4
 case hyp4 => intro w hSw; (try dsimp only at hSw); (go_simp <;> with_reducible rfl)
 try simp only [na1, na2, na3, Act.put, na4, na5, na6]
 refine tk0 (i := 5) (v := ?vp5) rfl (Or.inl ⟨by rfl, ?hyp5⟩) (by assumption) ?rep5
 case hyp5 => intro w hSw; (try dsimp only at hSw); (go_simp <;> with_reducible rfl)
 try simp only [na1, na2, na3, Act.put, na4, na5, na6]
 refine tk0 (i := 6) (v := ?vp6) rfl (Or.inl ⟨by rfl, ?hyp6⟩) (by assumption) ?rep6
 case hyp6 => intro w hSw; (try dsimp only at hSw); (go_simp <;> with_reducible rfl)
 try simp only [na1, na2, na3, Act.put, na4, na5, na6]
 refine tk0 (i := 7) (v := ?vp7) rfl (Or.inl ⟨by rfl, ?hyp7⟩) (by assumption) ?rep7
 case hyp7 => intro w hSw; (try dsimp only at hSw); (go_simp <;> with_reducible rfl)
 try simp only [na1, na2, na3, Act.put, na4, na5, na6]
 refine tk0 (i := 9) (v := ?vp9) rfl (Or.inl ⟨by rfl, ?hyp9⟩) (by assumption) ?rep9
 case hyp9 => intro w hSw; (try dsimp only at hSw); (go_simp <;> with_reducible rfl)
 try simp only [na1, na2, na3, Act.put, na4, na5, na6]
 refine rd1 (i := 0) rfl (fun K hK => ?_)
 go_simp
 go_wp2_with (go_at_call 174; (with_reducible refine (answers_any _).mono ?_); rintro e wA ⟨MA, rfl, hMA, hbA⟩)
 refine hK.out _ _ (keep9 N3.out hbA hh0) (fun hh1 => ?_)
 clear hK K hh0
 try simp only [na1, na2, na3, Act.put, na4, na5, na6]
 have hLA := HL.out _ _ hMA
 clear hMA
 refine rd1 (i := 8) rfl (fun K hK => ?_)
 refine step_lookup _ rfl (.tmp 18) (.tmp 25) 262 rfl (.map (some MA)) (.int .i64 t) (.func (.func 191) #[] #[]) rfl rfl hLA ?_
 refine hK.out _ _ hh1 (fun hh2 => ?_)
 clear hK K hh1 hLA
 try simp only [na1, na2, na3, Act.put, na4, na5, na6]
 refine rd1 (i := 10) rfl (fun K hK => ?_)
 go_simp
 go_wp2_with ((with_reducible refine (HC.out _).mono ?_); rintro e wB ⟨rfl, hbB⟩)
 refine hK.out _ _ (keep9 N3.out hbB hh2) (fun hh3 => ?_)
 clear hK K hh2
 try simp only [na1, na2, na3, Act.put, na4, na5, na6]
 have hB3 : W.drew.heap[w.heap.size + 1 + 1]? = _ := HB3.out
 have hA3 := blk_keep (w' := wA) hB3 hbA (blk_lt hB3)
 have hC3 := blk_keep hA3 hbB (blk_lt hA3)
 have bx : Below W.heap.size W wB := ((Below.refl _ _).drew.trans hbA).trans (hbB.mono ((Below.refl _ _).drew.trans hbA).size)
 have g0 := blk_cell hC3 0 _ rfl
 have g1 := blk_cell hC3 1 _ rfl
 have g2 := blk_cell hC3 2 _ rfl
 have g3 := blk_cell hC3 3 _ rfl
 have g4 := blk_cell hC3 4 _ rfl
 have g5 := blk_cell hC3 5 _ rfl
 have g6 := blk_cell hC3 6 _ rfl
 have g7 := blk_cell hC3 7 _ rfl
 have f0 := blk_frozen hC3 0
 have f1 := blk_frozen hC3 1
 have f2 := blk_frozen hC3 2
 have f3 := blk_frozen hC3 3
 have f4 := blk_frozen hC3 4
 have f5 := blk_frozen hC3 5
 have f6 := blk_frozen hC3 6
 have f7 := blk_frozen hC3 7
 have HC3 := Lib.hid hC3
 have BX := Lib.hid bx
 clear hB3 hA3 hC3 bx hbA hbB
 refine rd1 (i := 11) rfl (fun K hK => ?_)
 go_simp
 refine hK.out _ _ ?_ (fun hh4 => ?_)
 ·
  exact keep9s (Nat.le_refl _) (by omega) (by omega) (by have := blk_lt HC3.out; omega) (below_set8 (Below.refl _ _) (Nat.le_refl _)) hh3
 clear hK K hh3 g0 g1 g2 g3 g4 g5 g6 g7 f0 f1 f2 f3 f4 f5 f6 f7
 try simp only [na1, na2, na3, Act.put, na4, na5, na6]
 refine wpAnyH_done (by kernel_rfl) ?_ _
 have hS := set8 (u0 := .int .i64 y.ph) (u1 := .int .i64 y.be) (u2 := .int .i64 y.mi) (u3 := .int .i64 y.wa) (u4 := .bool y.l0) (u5 := .bool y.l1) (u6 := .bool y.l2) (u7 := .bool y.te) HC3.out
 obtain ⟨g0, g1, g2, g3, g4, g5, g6, g7⟩ := rn8 (x := y) hS
 have HS := Lib.hid (blk_lt hS)
 clear hS
 go_wp2_with fail
 refine bodyPost_ret (v := rnV y) (by simp [results, Tryz.results146, go_sem, g0, g1, g2, g3, g4, g5, g6, g7]) rfl ⟨rfl, ?_⟩
 exact HAL.out.trans (below_set8 (BX.out.mono HAL.out.size) (by omega))
set_option maxRecDepth 100000 in
set_option maxHeartbeats 1000000 in
theorem meet_go3 (r : Ru) (ph be mi wa : Int) (l0 l1 l2 te : Bool) (d : Nat) (h4 : ¬ ph = 4) (hp : 1 ≤ ph ∧ ph ≤ 3) (y : Rn) (j : Nat) (t : Int) (w : World)
  (HL : Hid (∀ w M, AnsMap w M → (Instr.lookup 262 (.map (some M)) (.int .i64 t) false).run Tryz.prog w = .ok (.func (.func 192) #[] #[]) w))
  (HC : Hid (∀ w, Calls Tryz.prog 192 #[rnV ⟨ph, be, mi, wa, l0, l1, l2, te⟩] w (RetRn y w)))
  (HT : Hid ((ruA r)[4 + j * 3 + d]? = some (.int .i64 t))) (hw : IntKind.i64.wrap (ph - 1) = (j : Int)) (hj0 : (0 : Int) ≤ j) (hj : (j : Int) < 3) (hd0 : (0 : Int) ≤ d) (hd : (d : Int) < 3) :
  Calls Tryz.prog 146 #[rnV ⟨ph, be, mi, wa, l0, l1, l2, te⟩, ruV r, .int .i64 d] w (RetRn y w) := by
 have t1 : (ph == 4) = false := by simp [h4]
 have hin : inR ph 1 3 = true := goes_yes hp
 clear h4 hp
 go_enter Tryz.func146, Tryz.ntmps146
 go_wp2_with fail
 refine (in_any _ _ _ _).mono ?_
 rintro e w' ⟨rfl, rfl⟩
 rw [hin]
 clear hin t1
 go_wp2_with fail
 generalize hW0 : ((w.alloc (.cells (rnA ⟨ph, be, mi, wa, l0, l1, l2, te⟩) 147)).alloc (.cells (ruA r) 144)).alloc (.cells _ _) = W at *
 obtain ⟨hal, hB1, hB2, hB3, hWs⟩ := boxesM w _ _ _ _ W hW0.symm
 clear hW0
 obtain ⟨k0, k1, k2, k3, k4, k5, k6, k7⟩ := rn8 hB1
 have k8 : W.cell? ⟨w.heap.size + 1, 4 + j * 3 + d, none⟩ = some (.int .i64 t) := blk_cell hB2 _ _ (HT.out)
 have HB3 := Lib.hid hB3
 have N3 : Hid (w.heap.size + 1 + 1 ≤ W.heap.size) := by show _ ≤ _; omega
 have HAL := Lib.hid hal
 clear hB1 hB2 hB3 hWs hal
 refine wp_region_held_drew (S := (fun w' => Below (w.heap.size + 1 + 1) W w' ∧ w'.cell? ⟨w.heap.size, 0, none⟩ = some (.int .i64 ph) ∧ w'.cell? ⟨w.heap.size, 1, none⟩ = some (.int .i64 be) ∧ w'.cell? ⟨w.heap.size, 2, none⟩ = some (.int .i64 mi) ∧ w'.cell? ⟨w.heap.size, 3, none⟩ = some (.int .i64 wa) ∧ w'.cell? ⟨w.heap.size, 4, none⟩ = some (.bool l0) ∧ w'.cell? ⟨w.heap.size, 5, none⟩ = some (.bool l1) ∧ w'.cell? ⟨w.heap.size, 6, none⟩ = some (.bool l2) ∧ w'.cell? ⟨w.heap.size, 7, none⟩ = some (.bool te) ∧ w'.cell? ⟨w.heap.size + 1, 4 + j * 3 + d, none⟩ = some (.int .i64 t))) (by kernel_rfl) ⟨(Below.refl _ _).drew, k0, k1, k2, k3, k4, k5, k6, k7, k8⟩ (fun hh0 => ?_)
 clear k0 k1 k2 k3 k4 k5 k6 k7 k8
 refine tk0 (i := 1) (v := ?vp1) rfl (Or.inl ⟨by rfl, ?hyp1⟩) (by assumption) ?rep1
 case hyp1 => intro w hSw; (try dsimp only at hSw); (go_simp <;> with_reducible rfl)
 try simp only [na1, na2, na3, Act.put, na4, na5, na6]
 refine tk0 (i := 2) (v := ?vp2) rfl (Or.inl ⟨by rfl, ?hyp2⟩) (by assumption) ?rep2
 case hyp2 => intro w hSw; (try dsimp only at hSw); (go_simp <;> with_reducible rfl)
 try simp only [na1, na2, na3, Act.put, na4, na5, na6]
 refine tk0 (i := 3) (v := ?vp3) rfl (Or.inl ⟨by rfl, ?hyp3⟩) (by assumption) ?rep3
 case hyp3 => intro w hSw; (try dsimp only at hSw); (go_simp <;> with_reducible rfl)
 try simp only [na1, na2, na3, Act.put, na4, na5, na6]
 refine tk0 (i := 4) (v := ?vp4) rfl (Or.inl ⟨by rfl, ?hyp4⟩) (by assumption) ?rep4
 case hyp4 => intro w hSw; (try dsimp only at hSw); (go_simp <;> with_reducible rfl)
 try simp only [na1, na2, na3, Act.put, na4, na5, na6]
 refine tk0 (i := 5) (v := ?vp5) rfl (Or.inl ⟨by rfl, ?hyp5⟩) (by assumption) ?rep5
 case hyp5 => intro w hSw; (try dsimp only at hSw); (go_simp <;> with_reducible rfl)
 try simp only [na1, na2, na3, Act.put, na4, na5, na6]
 refine tk0 (i := 6) (v := ?vp6) rfl (Or.inl ⟨by rfl, ?hyp6⟩) (by assumption) ?rep6
 case hyp6 => intro w hSw; (try dsimp only at hSw); (go_simp <;> with_reducible rfl)
 try simp only [na1, na2, na3, Act.put, na4, na5, na6]
 refine tk0 (i := 7) (v := ?vp7) rfl (Or.inl ⟨by rfl, ?hyp7⟩) (by assumption) ?rep7
 case hyp7 => intro w hSw; (try dsimp only at hSw); (go_simp <;> with_reducible rfl)
 try simp only [na1, na2, na3, Act.put, na4, na5, na6]
 refine tk0 (i := 9) (v := ?vp9) rfl (Or.inl ⟨by rfl, ?hyp9⟩) (by assumption) ?rep9
 case hyp9 => intro w hSw; (try dsimp only at hSw); (go_simp <;> with_reducible rfl)
 try simp only [na1, na2, na3, Act.put, na4, na5, na6]
 refine rd1 (i := 0) rfl (fun K hK => ?_)
 go_simp
 go_wp2_with (go_at_call 174; (with_reducible refine (answers_any _).mono ?_); rintro e wA ⟨MA, rfl, hMA, hbA⟩)
 refine hK.out _ _ (keep9 N3.out hbA hh0) (fun hh1 => ?_)
 clear hK K hh0
 try simp only [na1, na2, na3, Act.put, na4, na5, na6]
 have hLA := HL.out _ _ hMA
 clear hMA
 refine rd1 (i := 8) rfl (fun K hK => ?_)
 refine step_lookup _ rfl (.tmp 18) (.tmp 25) 262 rfl (.map (some MA)) (.int .i64 t) (.func (.func 192) #[] #[]) rfl rfl hLA ?_
 refine hK.out _ _ hh1 (fun hh2 => ?_)
 clear hK K hh1 hLA
 try simp only [na1, na2, na3, Act.put, na4, na5, na6]
 refine rd1 (i := 10) rfl (fun K hK => ?_)
 go_simp
 go_wp2_with ((with_reducible refine (HC.out _).mono ?_); rintro e wB ⟨rfl, hbB⟩)
 refine hK.out _ _ (keep9 N3.out hbB hh2) (fun hh3 => ?_)
 clear hK K hh2
 try simp only [na1, na2, na3, Act.put, na4, na5, na6]
 have hB3 : W.drew.heap[w.heap.size + 1 + 1]? = _ := HB3.out
 have hA3 := blk_keep (w' := wA) hB3 hbA (blk_lt hB3)
 have hC3 := blk_keep hA3 hbB (blk_lt hA3)
 have bx : Below W.heap.size W wB := ((Below.refl _ _).drew.trans hbA).trans (hbB.mono ((Below.refl _ _).drew.trans hbA).size)
 have g0 := blk_cell hC3 0 _ rfl
 have g1 := blk_cell hC3 1 _ rfl
 have g2 := blk_cell hC3 2 _ rfl
 have g3 := blk_cell hC3 3 _ rfl
 have g4 := blk_cell hC3 4 _ rfl
 have g5 := blk_cell hC3 5 _ rfl
 have g6 := blk_cell hC3 6 _ rfl
 have g7 := blk_cell hC3 7 _ rfl
 have f0 := blk_frozen hC3 0
 have f1 := blk_frozen hC3 1
 have f2 := blk_frozen hC3 2
 have f3 := blk_frozen hC3 3
 have f4 := blk_frozen hC3 4
 have f5 := blk_frozen hC3 5
 have f6 := blk_frozen hC3 6
 have f7 := blk_frozen hC3 7
 have HC3 := Lib.hid hC3
 have BX := Lib.hid bx
 clear hB3 hA3 hC3 bx hbA hbB
 refine rd1 (i := 11) rfl (fun K hK => ?_)
 go_simp
 refine hK.out _ _ ?_ (fun hh4 => ?_)
 ·
  exact keep9s (Nat.le_refl _) (by omega) (by omega) (by have := blk_lt HC3.out; omega) (below_set8 (Below.refl _ _) (Nat.le_refl _)) hh3
 clear hK K hh3 g0 g1 g2 g3 g4 g5 g6 g7 f0 f1 f2 f3 f4 f5 f6 f7
 try simp only [na1, na2, na3, Act.put, na4, na5, na6]
 refine wpAnyH_done (by kernel_rfl) ?_ _
 have hS := set8 (u0 := .int .i64 y.ph) (u1 := .int .i64 y.be) (u2 := .int .i64 y.mi) (u3 := .int .i64 y.wa) (u4 := .bool y.l0) (u5 := .bool y.l1) (u6 := .bool y.l2) (u7 := .bool y.te) HC3.out
 obtain ⟨g0, g1, g2, g3, g4, g5, g6, g7⟩ := rn8 (x := y) hS
 have HS := Lib.hid (blk_lt hS)
 clear hS
 go_wp2_with fail
 refine bodyPost_ret (v := rnV y) (by simp [results, Tryz.results146, go_sem, g0, g1, g2, g3, g4, g5, g6, g7]) rfl ⟨rfl, ?_⟩
 exact HAL.out.trans (below_set8 (BX.out.mono HAL.out.size) (by omega))
set_option maxRecDepth 100000 in
set_option maxHeartbeats 1000000 in
theorem meet_go0w (r : Ru) (be mi wa : Int) (l0 l1 l2 te : Bool) (d : Nat) (hp : 1 ≤ be ∧ be ≤ 3) (y : Rn) (j : Nat) (t : Int) (w : World)
  (HL : Hid (∀ w M, AnsMap w M → (Instr.lookup 262 (.map (some M)) (.int .i64 t) false).run Tryz.prog w = .ok (.func (.func 189) #[] #[]) w))
  (HC : Hid (∀ w, Calls Tryz.prog 189 #[rnV ⟨4, be, mi, wa, l0, l1, l2, te⟩] w (RetRn y w)))
  (HT : Hid ((ruA r)[4 + j * 3 + d]? = some (.int .i64 t))) (hw : IntKind.i64.wrap (be - 1) = (j : Int)) (hj0 : (0 : Int) ≤ j) (hj : (j : Int) < 3) (hd0 : (0 : Int) ≤ d) (hd : (d : Int) < 3) :
  Calls Tryz.prog 146 #[rnV ⟨4, be, mi, wa, l0, l1, l2, te⟩, ruV r, .int .i64 d] w (RetRn y w) := by
 have hin : inR be 1 3 = true := goes_yes hp
 clear hp
 go_enter Tryz.func146, Tryz.ntmps146
 go_wp2_with fail
 refine (in_any _ _ _ _).mono ?_
 rintro e w' ⟨rfl, rfl⟩
 rw [hin]
 clear hin
 go_wp2_with fail
 generalize hW0 : ((w.alloc (.cells (rnA ⟨4, be, mi, wa, l0, l1, l2, te⟩) 147)).alloc (.cells (ruA r) 144)).alloc (.cells _ _) = W at *
 obtain ⟨hal, hB1, hB2, hB3, hWs⟩ := boxesM w _ _ _ _ W hW0.symm
 clear hW0
 obtain ⟨k0, k1, k2, k3, k4, k5, k6, k7⟩ := rn8 hB1
 have k8 : W.cell? ⟨w.heap.size + 1, 4 + j * 3 + d, none⟩ = some (.int .i64 t) := blk_cell hB2 _ _ (HT.out)
 have HB3 := Lib.hid hB3
 have N3 : Hid (w.heap.size + 1 + 1 ≤ W.heap.size) := by show _ ≤ _; omega
 have HAL := Lib.hid hal
 clear hB1 hB2 hB3 hWs hal
 refine wp_region_held_drew (S := (fun w' => Below (w.heap.size + 1 + 1) W w' ∧ w'.cell? ⟨w.heap.size, 0, none⟩ = some (.int .i64 4) ∧ w'.cell? ⟨w.heap.size, 1, none⟩ = some (.int .i64 be) ∧ w'.cell? ⟨w.heap.size, 2, none⟩ = some (.int .i64 mi) ∧ w'.cell? ⟨w.heap.size, 3, none⟩ = some (.int .i64 wa) ∧ w'.cell? ⟨w.heap.size, 4, none⟩ = some (.bool l0) ∧ w'.cell? ⟨w.heap.size, 5, none⟩ = some (.bool l1) ∧ w'.cell? ⟨w.heap.size, 6, none⟩ = some (.bool l2) ∧ w'.cell? ⟨w.heap.size, 7, none⟩ = some (.bool te) ∧ w'.cell? ⟨w.heap.size + 1, 4 + j * 3 + d, none⟩ = some (.int .i64 t))) (by kernel_rfl) ⟨(Below.refl _ _).drew, k0, k1, k2, k3, k4, k5, k6, k7, k8⟩ (fun hh0 => ?_)
 clear k0 k1 k2 k3 k4 k5 k6 k7 k8
 refine tk0 (i := 1) (v := ?vp1) rfl (Or.inl ⟨by rfl, ?hyp1⟩) (by assumption) ?rep1
 case hyp1 => intro w hSw; (try dsimp only at hSw); (go_simp <;> with_reducible rfl)
 try simp only [na1, na2, na3, Act.put, na4, na5, na6]
 refine tk0 (i := 2) (v := ?vp2) rfl (Or.inl ⟨by rfl, ?hyp2⟩) (by assumption) ?rep2
 case hyp2 => intro w hSw; (try dsimp only at hSw); (go_simp <;> with_reducible rfl)
 try simp only [na1, na2, na3, Act.put, na4, na5, na6]
 refine tk0 (i := 3) (v := ?vp3) rfl (Or.inl ⟨by rfl, ?hyp3⟩) (by assumption) ?rep3
 case hyp3 => intro w hSw; (try dsimp only at hSw); (go_simp <;> with_reducible rfl)
 try simp only [na1, na2, na3, Act.put, na4, na5, na6]
 refine tk0 (i := 4) (v := ?vp4) rfl (Or.inl ⟨by rfl, ?hyp4⟩) (by assumption) ?rep4
 case hyp4 => intro w hSw; (try dsimp only at hSw); (go_simp <;> with_reducible rfl)
 try simp only [na1, na2, na3, Act.put, na4, na5, na6]
 refine tk0 (i := 5) (v := ?vp5) rfl (Or.inl ⟨by rfl, ?hyp5⟩) (by assumption) ?rep5
 case hyp5 => intro w hSw; (try dsimp only at hSw); (go_simp <;> with_reducible rfl)
 try simp only [na1, na2, na3, Act.put, na4, na5, na6]
 refine tk0 (i := 6) (v := ?vp6) rfl (Or.inl ⟨by rfl, ?hyp6⟩) (by assumption) ?rep6
 case hyp6 => intro w hSw; (try dsimp only at hSw); (go_simp <;> with_reducible rfl)
 try simp only [na1, na2, na3, Act.put, na4, na5, na6]
 refine tk0 (i := 7) (v := ?vp7) rfl (Or.inl ⟨by rfl, ?hyp7⟩) (by assumption) ?rep7
 case hyp7 => intro w hSw; (try dsimp only at hSw); (go_simp <;> with_reducible rfl)
 try simp only [na1, na2, na3, Act.put, na4, na5, na6]
 refine tk0 (i := 9) (v := ?vp9) rfl (Or.inl ⟨by rfl, ?hyp9⟩) (by assumption) ?rep9
 case hyp9 => intro w hSw; (try dsimp only at hSw); (go_simp <;> with_reducible rfl)
 try simp only [na1, na2, na3, Act.put, na4, na5, na6]
 refine rd1 (i := 0) rfl (fun K hK => ?_)
 go_simp
 go_wp2_with (go_at_call 174; (with_reducible refine (answers_any _).mono ?_); rintro e wA ⟨MA, rfl, hMA, hbA⟩)
 refine hK.out _ _ (keep9 N3.out hbA hh0) (fun hh1 => ?_)
 clear hK K hh0
 try simp only [na1, na2, na3, Act.put, na4, na5, na6]
 have hLA := HL.out _ _ hMA
 clear hMA
 refine rd1 (i := 8) rfl (fun K hK => ?_)
 refine step_lookup _ rfl (.tmp 18) (.tmp 25) 262 rfl (.map (some MA)) (.int .i64 t) (.func (.func 189) #[] #[]) rfl rfl hLA ?_
 refine hK.out _ _ hh1 (fun hh2 => ?_)
 clear hK K hh1 hLA
 try simp only [na1, na2, na3, Act.put, na4, na5, na6]
 refine rd1 (i := 10) rfl (fun K hK => ?_)
 go_simp
 go_wp2_with ((with_reducible refine (HC.out _).mono ?_); rintro e wB ⟨rfl, hbB⟩)
 refine hK.out _ _ (keep9 N3.out hbB hh2) (fun hh3 => ?_)
 clear hK K hh2
 try simp only [na1, na2, na3, Act.put, na4, na5, na6]
 have hB3 : W.drew.heap[w.heap.size + 1 + 1]? = _ := HB3.out
 have hA3 := blk_keep (w' := wA) hB3 hbA (blk_lt hB3)
 have hC3 := blk_keep hA3 hbB (blk_lt hA3)
 have bx : Below W.heap.size W wB := ((Below.refl _ _).drew.trans hbA).trans (hbB.mono ((Below.refl _ _).drew.trans hbA).size)
 have g0 := blk_cell hC3 0 _ rfl
 have g1 := blk_cell hC3 1 _ rfl
 have g2 := blk_cell hC3 2 _ rfl
 have g3 := blk_cell hC3 3 _ rfl
 have g4 := blk_cell hC3 4 _ rfl
 have g5 := blk_cell hC3 5 _ rfl
 have g6 := blk_cell hC3 6 _ rfl
 have g7 := blk_cell hC3 7 _ rfl
 have f0 := blk_frozen hC3 0
 have f1 := blk_frozen hC3 1
 have f2 := blk_frozen hC3 2
 have f3 := blk_frozen hC3 3
 have f4 := blk_frozen hC3 4
 have f5 := blk_frozen hC3 5
 have f6 := blk_frozen hC3 6
 have f7 := blk_frozen hC3 7
 have HC3 := Lib.hid hC3
 have BX := Lib.hid bx
 clear hB3 hA3 hC3 bx hbA hbB
 refine rd1 (i := 11) rfl (fun K hK => ?_)
 go_simp
 refine hK.out _ _ ?_ (fun hh4 => ?_)
 ·
  exact keep9s (Nat.le_refl _) (by omega) (by omega) (by have := blk_lt HC3.out; omega) (below_set8 (Below.refl _ _) (Nat.le_refl _)) hh3
 clear hK K hh3 g0 g1 g2 g3 g4 g5 g6 g7 f0 f1 f2 f3 f4 f5 f6 f7
 try simp only [na1, na2, na3, Act.put, na4, na5, na6]
 refine wpAnyH_done (by kernel_rfl) ?_ _
 have hS := set8 (u0 := .int .i64 y.ph) (u1 := .int .i64 y.be) (u2 := .int .i64 y.mi) (u3 := .int .i64 y.wa) (u4 := .bool y.l0) (u5 := .bool y.l1) (u6 := .bool y.l2) (u7 := .bool y.te) HC3.out
 obtain ⟨g0, g1, g2, g3, g4, g5, g6, g7⟩ := rn8 (x := y) hS
 have HS := Lib.hid (blk_lt hS)
 clear hS
 go_wp2_with fail
 refine bodyPost_ret (v := rnV y) (by simp [results, Tryz.results146, go_sem, g0, g1, g2, g3, g4, g5, g6, g7]) rfl ⟨rfl, ?_⟩
 exact HAL.out.trans (below_set8 (BX.out.mono HAL.out.size) (by omega))
set_option maxRecDepth 100000 in
set_option maxHeartbeats 1000000 in
theorem meet_go1w (r : Ru) (be mi wa : Int) (l0 l1 l2 te : Bool) (d : Nat) (hp : 1 ≤ be ∧ be ≤ 3) (y : Rn) (j : Nat) (t : Int) (w : World)
  (HL : Hid (∀ w M, AnsMap w M → (Instr.lookup 262 (.map (some M)) (.int .i64 t) false).run Tryz.prog w = .ok (.func (.func 190) #[] #[]) w))
  (HC : Hid (∀ w, Calls Tryz.prog 190 #[rnV ⟨4, be, mi, wa, l0, l1, l2, te⟩] w (RetRn y w)))
  (HT : Hid ((ruA r)[4 + j * 3 + d]? = some (.int .i64 t))) (hw : IntKind.i64.wrap (be - 1) = (j : Int)) (hj0 : (0 : Int) ≤ j) (hj : (j : Int) < 3) (hd0 : (0 : Int) ≤ d) (hd : (d : Int) < 3) :
  Calls Tryz.prog 146 #[rnV ⟨4, be, mi, wa, l0, l1, l2, te⟩, ruV r, .int .i64 d] w (RetRn y w) := by
 have hin : inR be 1 3 = true := goes_yes hp
 clear hp
 go_enter Tryz.func146, Tryz.ntmps146
 go_wp2_with fail
 refine (in_any _ _ _ _).mono ?_
 rintro e w' ⟨rfl, rfl⟩
 rw [hin]
 clear hin
 go_wp2_with fail
 generalize hW0 : ((w.alloc (.cells (rnA ⟨4, be, mi, wa, l0, l1, l2, te⟩) 147)).alloc (.cells (ruA r) 144)).alloc (.cells _ _) = W at *
 obtain ⟨hal, hB1, hB2, hB3, hWs⟩ := boxesM w _ _ _ _ W hW0.symm
 clear hW0
 obtain ⟨k0, k1, k2, k3, k4, k5, k6, k7⟩ := rn8 hB1
 have k8 : W.cell? ⟨w.heap.size + 1, 4 + j * 3 + d, none⟩ = some (.int .i64 t) := blk_cell hB2 _ _ (HT.out)
 have HB3 := Lib.hid hB3
 have N3 : Hid (w.heap.size + 1 + 1 ≤ W.heap.size) := by show _ ≤ _; omega
 have HAL := Lib.hid hal
 clear hB1 hB2 hB3 hWs hal
 refine wp_region_held_drew (S := (fun w' => Below (w.heap.size + 1 + 1) W w' ∧ w'.cell? ⟨w.heap.size, 0, none⟩ = some (.int .i64 4) ∧ w'.cell? ⟨w.heap.size, 1, none⟩ = some (.int .i64 be) ∧ w'.cell? ⟨w.heap.size, 2, none⟩ = some (.int .i64 mi) ∧ w'.cell? ⟨w.heap.size, 3, none⟩ = some (.int .i64 wa) ∧ w'.cell? ⟨w.heap.size, 4, none⟩ = some (.bool l0) ∧ w'.cell? ⟨w.heap.size, 5, none⟩ = some (.bool l1) ∧ w'.cell? ⟨w.heap.size, 6, none⟩ = some (.bool l2) ∧ w'.cell? ⟨w.heap.size, 7, none⟩ = some (.bool te) ∧ w'.cell? ⟨w.heap.size + 1, 4 + j * 3 + d, none⟩ = some (.int .i64 t))) (by kernel_rfl) ⟨(Below.refl _ _).drew, k0, k1, k2, k3, k4, k5, k6, k7, k8⟩ (fun hh0 => ?_)
 clear k0 k1 k2 k3 k4 k5 k6 k7 k8
 refine tk0 (i := 1) (v := ?vp1) rfl (Or.inl ⟨by rfl, ?hyp1⟩) (by assumption) ?rep1
 case hyp1 => intro w hSw; (try dsimp only at hSw); (go_simp <;> with_reducible rfl)
 try simp only [na1, na2, na3, Act.put, na4, na5, na6]
 refine tk0 (i := 2) (v := ?vp2) rfl (Or.inl ⟨by rfl, ?hyp2⟩) (by assumption) ?rep2
 case hyp2 => intro w hSw; (try dsimp only at hSw); (go_simp <;> with_reducible rfl)
 try simp only [na1, na2, na3, Act.put, na4, na5, na6]
 refine tk0 (i := 3) (v := ?vp3) rfl (Or.inl ⟨by rfl, ?hyp3⟩) (by assumption) ?rep3
 case hyp3 => intro w hSw; (try dsimp only at hSw); (go_simp <;> with_reducible rfl)
 try simp only [na1, na2, na3, Act.put, na4, na5, na6]
 refine tk0 (i := 4) (v := ?vp4) rfl (Or.inl ⟨by rfl, ?hyp4⟩) (by assumption) ?rep4
 case hyp4 => intro w hSw; (try dsimp only at hSw); (go_simp <;> with_reducible rfl)
 try simp only [na1, na2, na3, Act.put, na4, na5, na6]
 refine tk0 (i := 5) (v := ?vp5) rfl (Or.inl ⟨by rfl, ?hyp5⟩) (by assumption) ?rep5
 case hyp5 => intro w hSw; (try dsimp only at hSw); (go_simp <;> with_reducible rfl)
 try simp only [na1, na2, na3, Act.put, na4, na5, na6]
 refine tk0 (i := 6) (v := ?vp6) rfl (Or.inl ⟨by rfl, ?hyp6⟩) (by assumption) ?rep6
 case hyp6 => intro w hSw; (try dsimp only at hSw); (go_simp <;> with_reducible rfl)
 try simp only [na1, na2, na3, Act.put, na4, na5, na6]
 refine tk0 (i := 7) (v := ?vp7) rfl (Or.inl ⟨by rfl, ?hyp7⟩) (by assumption) ?rep7
 case hyp7 => intro w hSw; (try dsimp only at hSw); (go_simp <;> with_reducible rfl)
 try simp only [na1, na2, na3, Act.put, na4, na5, na6]
 refine tk0 (i := 9) (v := ?vp9) rfl (Or.inl ⟨by rfl, ?hyp9⟩) (by assumption) ?rep9
 case hyp9 => intro w hSw; (try dsimp only at hSw); (go_simp <;> with_reducible rfl)
 try simp only [na1, na2, na3, Act.put, na4, na5, na6]
 refine rd1 (i := 0) rfl (fun K hK => ?_)
 go_simp
 go_wp2_with (go_at_call 174; (with_reducible refine (answers_any _).mono ?_); rintro e wA ⟨MA, rfl, hMA, hbA⟩)
 refine hK.out _ _ (keep9 N3.out hbA hh0) (fun hh1 => ?_)
 clear hK K hh0
 try simp only [na1, na2, na3, Act.put, na4, na5, na6]
 have hLA := HL.out _ _ hMA
 clear hMA
 refine rd1 (i := 8) rfl (fun K hK => ?_)
 refine step_lookup _ rfl (.tmp 18) (.tmp 25) 262 rfl (.map (some MA)) (.int .i64 t) (.func (.func 190) #[] #[]) rfl rfl hLA ?_
 refine hK.out _ _ hh1 (fun hh2 => ?_)
 clear hK K hh1 hLA
 try simp only [na1, na2, na3, Act.put, na4, na5, na6]
 refine rd1 (i := 10) rfl (fun K hK => ?_)
 go_simp
 go_wp2_with ((with_reducible refine (HC.out _).mono ?_); rintro e wB ⟨rfl, hbB⟩)
 refine hK.out _ _ (keep9 N3.out hbB hh2) (fun hh3 => ?_)
 clear hK K hh2
 try simp only [na1, na2, na3, Act.put, na4, na5, na6]
 have hB3 : W.drew.heap[w.heap.size + 1 + 1]? = _ := HB3.out
 have hA3 := blk_keep (w' := wA) hB3 hbA (blk_lt hB3)
 have hC3 := blk_keep hA3 hbB (blk_lt hA3)
 have bx : Below W.heap.size W wB := ((Below.refl _ _).drew.trans hbA).trans (hbB.mono ((Below.refl _ _).drew.trans hbA).size)
 have g0 := blk_cell hC3 0 _ rfl
 have g1 := blk_cell hC3 1 _ rfl
 have g2 := blk_cell hC3 2 _ rfl
 have g3 := blk_cell hC3 3 _ rfl
 have g4 := blk_cell hC3 4 _ rfl
 have g5 := blk_cell hC3 5 _ rfl
 have g6 := blk_cell hC3 6 _ rfl
 have g7 := blk_cell hC3 7 _ rfl
 have f0 := blk_frozen hC3 0
 have f1 := blk_frozen hC3 1
 have f2 := blk_frozen hC3 2
 have f3 := blk_frozen hC3 3
 have f4 := blk_frozen hC3 4
 have f5 := blk_frozen hC3 5
 have f6 := blk_frozen hC3 6
 have f7 := blk_frozen hC3 7
 have HC3 := Lib.hid hC3
 have BX := Lib.hid bx
 clear hB3 hA3 hC3 bx hbA hbB
 refine rd1 (i := 11) rfl (fun K hK => ?_)
 go_simp
 refine hK.out _ _ ?_ (fun hh4 => ?_)
 ·
  exact keep9s (Nat.le_refl _) (by omega) (by omega) (by have := blk_lt HC3.out; omega) (below_set8 (Below.refl _ _) (Nat.le_refl _)) hh3
 clear hK K hh3 g0 g1 g2 g3 g4 g5 g6 g7 f0 f1 f2 f3 f4 f5 f6 f7
 try simp only [na1, na2, na3, Act.put, na4, na5, na6]
 refine wpAnyH_done (by kernel_rfl) ?_ _
 have hS := set8 (u0 := .int .i64 y.ph) (u1 := .int .i64 y.be) (u2 := .int .i64 y.mi) (u3 := .int .i64 y.wa) (u4 := .bool y.l0) (u5 := .bool y.l1) (u6 := .bool y.l2) (u7 := .bool y.te) HC3.out
 obtain ⟨g0, g1, g2, g3, g4, g5, g6, g7⟩ := rn8 (x := y) hS
 have HS := Lib.hid (blk_lt hS)
 clear hS
 go_wp2_with fail
 refine bodyPost_ret (v := rnV y) (by simp [results, Tryz.results146, go_sem, g0, g1, g2, g3, g4, g5, g6, g7]) rfl ⟨rfl, ?_⟩
 exact HAL.out.trans (below_set8 (BX.out.mono HAL.out.size) (by omega))
set_option maxRecDepth 100000 in
set_option maxHeartbeats 1000000 in
theorem meet_go2w (r : Ru) (be mi wa : Int) (l0 l1 l2 te : Bool) (d : Nat) (hp : 1 ≤ be ∧ be ≤ 3) (y : Rn) (j : Nat) (t : Int) (w : World)
  (HL : Hid (∀ w M, AnsMap w M → (Instr.lookup 262 (.map (some M)) (.int .i64 t) false).run Tryz.prog w = .ok (.func (.func 191) #[] #[]) w))
  (HC : Hid (∀ w, Calls Tryz.prog 191 #[rnV ⟨4, be, mi, wa, l0, l1, l2, te⟩] w (RetRn y w)))
  (HT : Hid ((ruA r)[4 + j * 3 + d]? = some (.int .i64 t))) (hw : IntKind.i64.wrap (be - 1) = (j : Int)) (hj0 : (0 : Int) ≤ j) (hj : (j : Int) < 3) (hd0 : (0 : Int) ≤ d) (hd : (d : Int) < 3) :
  Calls Tryz.prog 146 #[rnV ⟨4, be, mi, wa, l0, l1, l2, te⟩, ruV r, .int .i64 d] w (RetRn y w) := by
 have hin : inR be 1 3 = true := goes_yes hp
 clear hp
 go_enter Tryz.func146, Tryz.ntmps146
 go_wp2_with fail
 refine (in_any _ _ _ _).mono ?_
 rintro e w' ⟨rfl, rfl⟩
 rw [hin]
 clear hin
 go_wp2_with fail
 generalize hW0 : ((w.alloc (.cells (rnA ⟨4, be, mi, wa, l0, l1, l2, te⟩) 147)).alloc (.cells (ruA r) 144)).alloc (.cells _ _) = W at *
 obtain ⟨hal, hB1, hB2, hB3, hWs⟩ := boxesM w _ _ _ _ W hW0.symm
 clear hW0
 obtain ⟨k0, k1, k2, k3, k4, k5, k6, k7⟩ := rn8 hB1
 have k8 : W.cell? ⟨w.heap.size + 1, 4 + j * 3 + d, none⟩ = some (.int .i64 t) := blk_cell hB2 _ _ (HT.out)
 have HB3 := Lib.hid hB3
 have N3 : Hid (w.heap.size + 1 + 1 ≤ W.heap.size) := by show _ ≤ _; omega
 have HAL := Lib.hid hal
 clear hB1 hB2 hB3 hWs hal
 refine wp_region_held_drew (S := (fun w' => Below (w.heap.size + 1 + 1) W w' ∧ w'.cell? ⟨w.heap.size, 0, none⟩ = some (.int .i64 4) ∧ w'.cell? ⟨w.heap.size, 1, none⟩ = some (.int .i64 be) ∧ w'.cell? ⟨w.heap.size, 2, none⟩ = some (.int .i64 mi) ∧ w'.cell? ⟨w.heap.size, 3, none⟩ = some (.int .i64 wa) ∧ w'.cell? ⟨w.heap.size, 4, none⟩ = some (.bool l0) ∧ w'.cell? ⟨w.heap.size, 5, none⟩ = some (.bool l1) ∧ w'.cell? ⟨w.heap.size, 6, none⟩ = some (.bool l2) ∧ w'.cell? ⟨w.heap.size, 7, none⟩ = some (.bool te) ∧ w'.cell? ⟨w.heap.size + 1, 4 + j * 3 + d, none⟩ = some (.int .i64 t))) (by kernel_rfl) ⟨(Below.refl _ _).drew, k0, k1, k2, k3, k4, k5, k6, k7, k8⟩ (fun hh0 => ?_)
 clear k0 k1 k2 k3 k4 k5 k6 k7 k8
 refine tk0 (i := 1) (v := ?vp1) rfl (Or.inl ⟨by rfl, ?hyp1⟩) (by assumption) ?rep1
 case hyp1 => intro w hSw; (try dsimp only at hSw); (go_simp <;> with_reducible rfl)
 try simp only [na1, na2, na3, Act.put, na4, na5, na6]
 refine tk0 (i := 2) (v := ?vp2) rfl (Or.inl ⟨by rfl, ?hyp2⟩) (by assumption) ?rep2
 case hyp2 => intro w hSw; (try dsimp only at hSw); (go_simp <;> with_reducible rfl)
 try simp only [na1, na2, na3, Act.put, na4, na5, na6]
 refine tk0 (i := 3) (v := ?vp3) rfl (Or.inl ⟨by rfl, ?hyp3⟩) (by assumption) ?rep3
 case hyp3 => intro w hSw; (try dsimp only at hSw); (go_simp <;> with_reducible rfl)
 try simp only [na1, na2, na3, Act.put, na4, na5, na6]
 refine tk0 (i := 4) (v := ?vp4) rfl (Or.inl ⟨by rfl, ?hyp4⟩) (by assumption) ?rep4
 case hyp4 => intro w hSw; (try dsimp only at hSw); (go_simp <;> with_reducible rfl)
 try simp only [na1, na2, na3, Act.put, na4, na5, na6]
 refine tk0 (i := 5) (v := ?vp5) rfl (Or.inl ⟨by rfl, ?hyp5⟩) (by assumption) ?rep5
 case hyp5 => intro w hSw; (try dsimp only at hSw); (go_simp <;> with_reducible rfl)
 try simp only [na1, na2, na3, Act.put, na4, na5, na6]
 refine tk0 (i := 6) (v := ?vp6) rfl (Or.inl ⟨by rfl, ?hyp6⟩) (by assumption) ?rep6
 case hyp6 => intro w hSw; (try dsimp only at hSw); (go_simp <;> with_reducible rfl)
 try simp only [na1, na2, na3, Act.put, na4, na5, na6]
 refine tk0 (i := 7) (v := ?vp7) rfl (Or.inl ⟨by rfl, ?hyp7⟩) (by assumption) ?rep7
 case hyp7 => intro w hSw; (try dsimp only at hSw); (go_simp <;> with_reducible rfl)
 try simp only [na1, na2, na3, Act.put, na4, na5, na6]
 refine tk0 (i := 9) (v := ?vp9) rfl (Or.inl ⟨by rfl, ?hyp9⟩) (by assumption) ?rep9
 case hyp9 => intro w hSw; (try dsimp only at hSw); (go_simp <;> with_reducible rfl)
 try simp only [na1, na2, na3, Act.put, na4, na5, na6]
 refine rd1 (i := 0) rfl (fun K hK => ?_)
 go_simp
 go_wp2_with (go_at_call 174; (with_reducible refine (answers_any _).mono ?_); rintro e wA ⟨MA, rfl, hMA, hbA⟩)
 refine hK.out _ _ (keep9 N3.out hbA hh0) (fun hh1 => ?_)
 clear hK K hh0
 try simp only [na1, na2, na3, Act.put, na4, na5, na6]
 have hLA := HL.out _ _ hMA
 clear hMA
 refine rd1 (i := 8) rfl (fun K hK => ?_)
 refine step_lookup _ rfl (.tmp 18) (.tmp 25) 262 rfl (.map (some MA)) (.int .i64 t) (.func (.func 191) #[] #[]) rfl rfl hLA ?_
 refine hK.out _ _ hh1 (fun hh2 => ?_)
 clear hK K hh1 hLA
 try simp only [na1, na2, na3, Act.put, na4, na5, na6]
 refine rd1 (i := 10) rfl (fun K hK => ?_)
 go_simp
 go_wp2_with ((with_reducible refine (HC.out _).mono ?_); rintro e wB ⟨rfl, hbB⟩)
 refine hK.out _ _ (keep9 N3.out hbB hh2) (fun hh3 => ?_)
 clear hK K hh2
 try simp only [na1, na2, na3, Act.put, na4, na5, na6]
 have hB3 : W.drew.heap[w.heap.size + 1 + 1]? = _ := HB3.out
 have hA3 := blk_keep (w' := wA) hB3 hbA (blk_lt hB3)
 have hC3 := blk_keep hA3 hbB (blk_lt hA3)
 have bx : Below W.heap.size W wB := ((Below.refl _ _).drew.trans hbA).trans (hbB.mono ((Below.refl _ _).drew.trans hbA).size)
 have g0 := blk_cell hC3 0 _ rfl
 have g1 := blk_cell hC3 1 _ rfl
 have g2 := blk_cell hC3 2 _ rfl
 have g3 := blk_cell hC3 3 _ rfl
 have g4 := blk_cell hC3 4 _ rfl
 have g5 := blk_cell hC3 5 _ rfl
 have g6 := blk_cell hC3 6 _ rfl
 have g7 := blk_cell hC3 7 _ rfl
 have f0 := blk_frozen hC3 0
 have f1 := blk_frozen hC3 1
 have f2 := blk_frozen hC3 2
 have f3 := blk_frozen hC3 3
 have f4 := blk_frozen hC3 4
 have f5 := blk_frozen hC3 5
 have f6 := blk_frozen hC3 6
 have f7 := blk_frozen hC3 7
 have HC3 := Lib.hid hC3
 have BX := Lib.hid bx
 clear hB3 hA3 hC3 bx hbA hbB
 refine rd1 (i := 11) rfl (fun K hK => ?_)
 go_simp
 refine hK.out _ _ ?_ (fun hh4 => ?_)
 ·
  exact keep9s (Nat.le_refl _) (by omega) (by omega) (by have := blk_lt HC3.out; omega) (below_set8 (Below.refl _ _) (Nat.le_refl _)) hh3
 clear hK K hh3 g0 g1 g2 g3 g4 g5 g6 g7 f0 f1 f2 f3 f4 f5 f6 f7
 try simp only [na1, na2, na3, Act.put, na4, na5, na6]
 refine wpAnyH_done (by kernel_rfl) ?_ _
 have hS := set8 (u0 := .int .i64 y.ph) (u1 := .int .i64 y.be) (u2 := .int .i64 y.mi) (u3 := .int .i64 y.wa) (u4 := .bool y.l0) (u5 := .bool y.l1) (u6 := .bool y.l2) (u7 := .bool y.te) HC3.out
 obtain ⟨g0, g1, g2, g3, g4, g5, g6, g7⟩ := rn8 (x := y) hS
 have HS := Lib.hid (blk_lt hS)
 clear hS
 go_wp2_with fail
 refine bodyPost_ret (v := rnV y) (by simp [results, Tryz.results146, go_sem, g0, g1, g2, g3, g4, g5, g6, g7]) rfl ⟨rfl, ?_⟩
 exact HAL.out.trans (below_set8 (BX.out.mono HAL.out.size) (by omega))
set_option maxRecDepth 100000 in
set_option maxHeartbeats 1000000 in
theorem meet_go3w (r : Ru) (be mi wa : Int) (l0 l1 l2 te : Bool) (d : Nat) (hp : 1 ≤ be ∧ be ≤ 3) (y : Rn) (j : Nat) (t : Int) (w : World)
  (HL : Hid (∀ w M, AnsMap w M → (Instr.lookup 262 (.map (some M)) (.int .i64 t) false).run Tryz.prog w = .ok (.func (.func 192) #[] #[]) w))
  (HC : Hid (∀ w, Calls Tryz.prog 192 #[rnV ⟨4, be, mi, wa, l0, l1, l2, te⟩] w (RetRn y w)))
  (HT : Hid ((ruA r)[4 + j * 3 + d]? = some (.int .i64 t))) (hw : IntKind.i64.wrap (be - 1) = (j : Int)) (hj0 : (0 : Int) ≤ j) (hj : (j : Int) < 3) (hd0 : (0 : Int) ≤ d) (hd : (d : Int) < 3) :
  Calls Tryz.prog 146 #[rnV ⟨4, be, mi, wa, l0, l1, l2, te⟩, ruV r, .int .i64 d] w (RetRn y w) := by
 have hin : inR be 1 3 = true := goes_yes hp
 clear hp
 go_enter Tryz.func146, Tryz.ntmps146
 go_wp2_with fail
 refine (in_any _ _ _ _).mono ?_
 rintro e w' ⟨rfl, rfl⟩
 rw [hin]
 clear hin
 go_wp2_with fail
 generalize hW0 : ((w.alloc (.cells (rnA ⟨4, be, mi, wa, l0, l1, l2, te⟩) 147)).alloc (.cells (ruA r) 144)).alloc (.cells _ _) = W at *
 obtain ⟨hal, hB1, hB2, hB3, hWs⟩ := boxesM w _ _ _ _ W hW0.symm
 clear hW0
 obtain ⟨k0, k1, k2, k3, k4, k5, k6, k7⟩ := rn8 hB1
 have k8 : W.cell? ⟨w.heap.size + 1, 4 + j * 3 + d, none⟩ = some (.int .i64 t) := blk_cell hB2 _ _ (HT.out)
 have HB3 := Lib.hid hB3
 have N3 : Hid (w.heap.size + 1 + 1 ≤ W.heap.size) := by show _ ≤ _; omega
 have HAL := Lib.hid hal
 clear hB1 hB2 hB3 hWs hal
 refine wp_region_held_drew (S := (fun w' => Below (w.heap.size + 1 + 1) W w' ∧ w'.cell? ⟨w.heap.size, 0, none⟩ = some (.int .i64 4) ∧ w'.cell? ⟨w.heap.size, 1, none⟩ = some (.int .i64 be) ∧ w'.cell? ⟨w.heap.size, 2, none⟩ = some (.int .i64 mi) ∧ w'.cell? ⟨w.heap.size, 3, none⟩ = some (.int .i64 wa) ∧ w'.cell? ⟨w.heap.size, 4, none⟩ = some (.bool l0) ∧ w'.cell? ⟨w.heap.size, 5, none⟩ = some (.bool l1) ∧ w'.cell? ⟨w.heap.size, 6, none⟩ = some (.bool l2) ∧ w'.cell? ⟨w.heap.size, 7, none⟩ = some (.bool te) ∧ w'.cell? ⟨w.heap.size + 1, 4 + j * 3 + d, none⟩ = some (.int .i64 t))) (by kernel_rfl) ⟨(Below.refl _ _).drew, k0, k1, k2, k3, k4, k5, k6, k7, k8⟩ (fun hh0 => ?_)
 clear k0 k1 k2 k3 k4 k5 k6 k7 k8
 refine tk0 (i := 1) (v := ?vp1) rfl (Or.inl ⟨by rfl, ?hyp1⟩) (by assumption) ?rep1
 case hyp1 => intro w hSw; (try dsimp only at hSw); (go_simp <;> with_reducible rfl)
 try simp only [na1, na2, na3, Act.put, na4, na5, na6]
 refine tk0 (i := 2) (v := ?vp2) rfl (Or.inl ⟨by rfl, ?hyp2⟩) (by assumption) ?rep2
 case hyp2 => intro w hSw; (try dsimp only at hSw); (go_simp <;> with_reducible rfl)
 try simp only [na1, na2, na3, Act.put, na4, na5, na6]
 refine tk0 (i := 3) (v := ?vp3) rfl (Or.inl ⟨by rfl, ?hyp3⟩) (by assumption) ?rep3
 case hyp3 => intro w hSw; (try dsimp only at hSw); (go_simp <;> with_reducible rfl)
 try simp only [na1, na2, na3, Act.put, na4, na5, na6]
 refine tk0 (i := 4) (v := ?vp4) rfl (Or.inl ⟨by rfl, ?hyp4⟩) (by assumption) ?rep4
 case hyp4 => intro w hSw; (try dsimp only at hSw); (go_simp <;> with_reducible rfl)
 try simp only [na1, na2, na3, Act.put, na4, na5, na6]
 refine tk0 (i := 5) (v := ?vp5) rfl (Or.inl ⟨by rfl, ?hyp5⟩) (by assumption) ?rep5
 case hyp5 => intro w hSw; (try dsimp only at hSw); (go_simp <;> with_reducible rfl)
 try simp only [na1, na2, na3, Act.put, na4, na5, na6]
 refine tk0 (i := 6) (v := ?vp6) rfl (Or.inl ⟨by rfl, ?hyp6⟩) (by assumption) ?rep6
 case hyp6 => intro w hSw; (try dsimp only at hSw); (go_simp <;> with_reducible rfl)
 try simp only [na1, na2, na3, Act.put, na4, na5, na6]
 refine tk0 (i := 7) (v := ?vp7) rfl (Or.inl ⟨by rfl, ?hyp7⟩) (by assumption) ?rep7
 case hyp7 => intro w hSw; (try dsimp only at hSw); (go_simp <;> with_reducible rfl)
 try simp only [na1, na2, na3, Act.put, na4, na5, na6]
 refine tk0 (i := 9) (v := ?vp9) rfl (Or.inl ⟨by rfl, ?hyp9⟩) (by assumption) ?rep9
 case hyp9 => intro w hSw; (try dsimp only at hSw); (go_simp <;> with_reducible rfl)
 try simp only [na1, na2, na3, Act.put, na4, na5, na6]
 refine rd1 (i := 0) rfl (fun K hK => ?_)
 go_simp
 go_wp2_with (go_at_call 174; (with_reducible refine (answers_any _).mono ?_); rintro e wA ⟨MA, rfl, hMA, hbA⟩)
 refine hK.out _ _ (keep9 N3.out hbA hh0) (fun hh1 => ?_)
 clear hK K hh0
 try simp only [na1, na2, na3, Act.put, na4, na5, na6]
 have hLA := HL.out _ _ hMA
 clear hMA
 refine rd1 (i := 8) rfl (fun K hK => ?_)
 refine step_lookup _ rfl (.tmp 18) (.tmp 25) 262 rfl (.map (some MA)) (.int .i64 t) (.func (.func 192) #[] #[]) rfl rfl hLA ?_
 refine hK.out _ _ hh1 (fun hh2 => ?_)
 clear hK K hh1 hLA
 try simp only [na1, na2, na3, Act.put, na4, na5, na6]
 refine rd1 (i := 10) rfl (fun K hK => ?_)
 go_simp
 go_wp2_with ((with_reducible refine (HC.out _).mono ?_); rintro e wB ⟨rfl, hbB⟩)
 refine hK.out _ _ (keep9 N3.out hbB hh2) (fun hh3 => ?_)
 clear hK K hh2
 try simp only [na1, na2, na3, Act.put, na4, na5, na6]
 have hB3 : W.drew.heap[w.heap.size + 1 + 1]? = _ := HB3.out
 have hA3 := blk_keep (w' := wA) hB3 hbA (blk_lt hB3)
 have hC3 := blk_keep hA3 hbB (blk_lt hA3)
 have bx : Below W.heap.size W wB := ((Below.refl _ _).drew.trans hbA).trans (hbB.mono ((Below.refl _ _).drew.trans hbA).size)
 have g0 := blk_cell hC3 0 _ rfl
 have g1 := blk_cell hC3 1 _ rfl
 have g2 := blk_cell hC3 2 _ rfl
 have g3 := blk_cell hC3 3 _ rfl
 have g4 := blk_cell hC3 4 _ rfl
 have g5 := blk_cell hC3 5 _ rfl
 have g6 := blk_cell hC3 6 _ rfl
 have g7 := blk_cell hC3 7 _ rfl
 have f0 := blk_frozen hC3 0
 have f1 := blk_frozen hC3 1
 have f2 := blk_frozen hC3 2
 have f3 := blk_frozen hC3 3
 have f4 := blk_frozen hC3 4
 have f5 := blk_frozen hC3 5
 have f6 := blk_frozen hC3 6
 have f7 := blk_frozen hC3 7
 have HC3 := Lib.hid hC3
 have BX := Lib.hid bx
 clear hB3 hA3 hC3 bx hbA hbB
 refine rd1 (i := 11) rfl (fun K hK => ?_)
 go_simp
 refine hK.out _ _ ?_ (fun hh4 => ?_)
 ·
  exact keep9s (Nat.le_refl _) (by omega) (by omega) (by have := blk_lt HC3.out; omega) (below_set8 (Below.refl _ _) (Nat.le_refl _)) hh3
 clear hK K hh3 g0 g1 g2 g3 g4 g5 g6 g7 f0 f1 f2 f3 f4 f5 f6 f7
 try simp only [na1, na2, na3, Act.put, na4, na5, na6]
 refine wpAnyH_done (by kernel_rfl) ?_ _
 have hS := set8 (u0 := .int .i64 y.ph) (u1 := .int .i64 y.be) (u2 := .int .i64 y.mi) (u3 := .int .i64 y.wa) (u4 := .bool y.l0) (u5 := .bool y.l1) (u6 := .bool y.l2) (u7 := .bool y.te) HC3.out
 obtain ⟨g0, g1, g2, g3, g4, g5, g6, g7⟩ := rn8 (x := y) hS
 have HS := Lib.hid (blk_lt hS)
 clear hS
 go_wp2_with fail
 refine bodyPost_ret (v := rnV y) (by simp [results, Tryz.results146, go_sem, g0, g1, g2, g3, g4, g5, g6, g7]) rfl ⟨rfl, ?_⟩
 exact HAL.out.trans (below_set8 (BX.out.mono HAL.out.size) (by omega))

end Go.Proofs.YthhnkobkdhjfgaaGreat

namespace Go.Proofs.YthhnkobkdhjfgaaGreat
open Go.RowKit

theorem ruA_tb (r : Ru) (j d : Nat) (hj : j < 3) (hd : d < 3) : (ruA r)[4 + j * 3 + d]? = some (.int .i64 (r.tb ((j : Int) + 1) d)) := by
 match j, d, hj, hd with
 | 0, 0, _, _ => rfl
 | 0, 1, _, _ => rfl
 | 0, 2, _, _ => rfl
 | 1, 0, _, _ => rfl
 | 1, 1, _, _ => rfl
 | 1, 2, _, _ => rfl
 | 2, 0, _, _ => rfl
 | 2, 1, _, _ => rfl
 | 2, 2, _, _ => rfl
theorem ru13 {w : World} {B : Nat} {r : Ru} (h : w.heap[B]? = some (.cells (ruA r) 144 (0, 0))) :
  w.cell? ⟨B, 0, none⟩ = some (.int .i64 r.m0) ∧ w.cell? ⟨B, 1, none⟩ = some (.int .i64 r.m1) ∧ w.cell? ⟨B, 2, none⟩ = some (.int .i64 r.m2) ∧ w.cell? ⟨B, 3, none⟩ = some (.int .i64 r.pa) ∧
  w.cell? ⟨B, 4, none⟩ = some (.int .i64 r.t00) ∧ w.cell? ⟨B, 5, none⟩ = some (.int .i64 r.t01) ∧ w.cell? ⟨B, 6, none⟩ = some (.int .i64 r.t02) ∧ w.cell? ⟨B, 7, none⟩ = some (.int .i64 r.t10) ∧
  w.cell? ⟨B, 8, none⟩ = some (.int .i64 r.t11) ∧ w.cell? ⟨B, 9, none⟩ = some (.int .i64 r.t12) ∧ w.cell? ⟨B, 10, none⟩ = some (.int .i64 r.t20) ∧ w.cell? ⟨B, 11, none⟩ = some (.int .i64 r.t21) ∧ w.cell? ⟨B, 12, none⟩ = some (.int .i64 r.t22) :=
 ⟨blk_cell h 0 _ rfl, blk_cell h 1 _ rfl, blk_cell h 2 _ rfl, blk_cell h 3 _ rfl, blk_cell h 4 _ rfl, blk_cell h 5 _ rfl, blk_cell h 6 _ rfl, blk_cell h 7 _ rfl, blk_cell h 8 _ rfl, blk_cell h 9 _ rfl, blk_cell h 10 _ rfl, blk_cell h 11 _ rfl, blk_cell h 12 _ rfl⟩
theorem oth1 {w : World} {N M j : Nat} {o : Option Obj} {u : Value} (h : w.heap[N]? = o) (hne : N ≠ M) : (w.setCell ⟨M, j, none⟩ u).heap[N]? = o := by
 rw [heap_setCell_other _ ⟨M, j, none⟩ N _ hne]
 exact h
theorem oth8 {w : World} {N M : Nat} {o : Option Obj} {u0 u1 u2 u3 u4 u5 u6 u7 : Value} (h : w.heap[N]? = o) (hne : N ≠ M) : (((((((((w.setCell ⟨M, 0, none⟩ u0).setCell ⟨M, 1, none⟩ u1).setCell ⟨M, 2, none⟩ u2).setCell ⟨M, 3, none⟩ u3).setCell ⟨M, 4, none⟩ u4).setCell ⟨M, 5, none⟩ u5).setCell ⟨M, 6, none⟩ u6).setCell ⟨M, 7, none⟩ u7)).heap[N]? = o :=
 oth1 (oth1 (oth1 (oth1 (oth1 (oth1 (oth1 (oth1 h hne) hne) hne) hne) hne) hne) hne) hne
theorem wrap3 (p : Int) (j : Nat) (hp : 1 ≤ p ∧ p ≤ 3) (hj : (j : Int) = p - 1) : IntKind.i64.wrap (p - 1) = (j : Int) := by
 rw [hj]
 rcases (show p = 1 ∨ p = 2 ∨ p = 3 by omega) with rfl | rfl | rfl <;> decide
set_option maxRecDepth 100000 in
set_option maxHeartbeats 1000000 in
theorem meet_out (r : Ru) (x : Rn) (d : Nat) (hg : inR (inPh x) 1 3 = false) (w : World) : Calls Tryz.prog 146 #[rnV x, ruV r, .int .i64 d] w (RetRn x w) := by
 obtain ⟨ph, be, mi, wa, l0, l1, l2, te⟩ := x
 by_cases h4 : ph = 4
 ·
  subst h4
  have hin : inR be 1 3 = false := hg
  clear hg
  go_enter Tryz.func146, Tryz.ntmps146
  go_wp2_with fail
  refine (in_any _ _ _ _).mono ?_
  rintro e w' ⟨rfl, rfl⟩
  rw [hin]
  clear hin
  go_wp2_with fail
  refine bodyPost_ret (v := rnV ⟨4, be, mi, wa, l0, l1, l2, te⟩) (by simp [results, Tryz.results146, go_sem]) rfl ⟨rfl, ba (below2 _ _ _)⟩
 ·
  have hin : inR ph 1 3 = false := by
   have e : inPh ⟨ph, be, mi, wa, l0, l1, l2, te⟩ = ph := if_neg h4
   rw [e] at hg
   exact hg
  have t1 : (ph == 4) = false := by simp [h4]
  clear hg h4
  go_enter Tryz.func146, Tryz.ntmps146
  go_wp2_with fail
  refine (in_any _ _ _ _).mono ?_
  rintro e w' ⟨rfl, rfl⟩
  rw [hin]
  clear hin t1
  go_wp2_with fail
  refine bodyPost_ret (v := rnV ⟨ph, be, mi, wa, l0, l1, l2, te⟩) (by simp [results, Tryz.results146, go_sem]) rfl ⟨rfl, ba (below2 _ _ _)⟩
theorem meet_any (r : Ru) (x : Rn) (d : Nat) (hd : d < 3) (G : GoodRules r) (w : World) : Calls Tryz.prog 146 #[rnV x, ruV r, .int .i64 d] w (RetRn (meet r x d) w) := by
 have hv := G.tb (inPh x) d
 by_cases hg : goes (inPh x) = true
 ·
  have hp := (goes_iff _).1 hg
  obtain ⟨j, hj⟩ : ∃ j : Nat, (j : Int) = inPh x - 1 := ⟨(inPh x - 1).toNat, by omega⟩
  have hw := wrap3 _ j hp hj
  have hT := ruA_tb r j d (by omega) hd
  rw [show (j : Int) + 1 = inPh x from by omega] at hT
  rw [meet_ans hg hv]
  generalize r.tb (inPh x) d = t at *
  obtain ⟨ph, be, mi, wa, l0, l1, l2, te⟩ := x
  by_cases h4 : ph = 4
  ·
   subst h4
   have e : inPh ⟨4, be, mi, wa, l0, l1, l2, te⟩ = be := if_pos rfl
   rw [e] at hp hw hj
   rcases (show t = 0 ∨ t = 1 ∨ t = 2 ∨ t = 3 by omega) with rfl | rfl | rfl | rfl
   ·
    exact meet_go0w r be mi wa l0 l1 l2 te d hp _ j 0 w (fun w M h => ans_look h 0 hv) (fun w => ans_any 0 hv _ w) hT hw (by omega) (by omega) (by omega) (by omega)
   ·
    exact meet_go1w r be mi wa l0 l1 l2 te d hp _ j 1 w (fun w M h => ans_look h 1 hv) (fun w => ans_any 1 hv _ w) hT hw (by omega) (by omega) (by omega) (by omega)
   ·
    exact meet_go2w r be mi wa l0 l1 l2 te d hp _ j 2 w (fun w M h => ans_look h 2 hv) (fun w => ans_any 2 hv _ w) hT hw (by omega) (by omega) (by omega) (by omega)
   ·
    exact meet_go3w r be mi wa l0 l1 l2 te d hp _ j 3 w (fun w M h => ans_look h 3 hv) (fun w => ans_any 3 hv _ w) hT hw (by omega) (by omega) (by omega) (by omega)
  ·
   have e : inPh ⟨ph, be, mi, wa, l0, l1, l2, te⟩ = ph := if_neg h4
   rw [e] at hp hw hj
   rcases (show t = 0 ∨ t = 1 ∨ t = 2 ∨ t = 3 by omega) with rfl | rfl | rfl | rfl
   ·
    exact meet_go0 r ph be mi wa l0 l1 l2 te d h4 hp _ j 0 w (fun w M h => ans_look h 0 hv) (fun w => ans_any 0 hv _ w) hT hw (by omega) (by omega) (by omega) (by omega)
   ·
    exact meet_go1 r ph be mi wa l0 l1 l2 te d h4 hp _ j 1 w (fun w M h => ans_look h 1 hv) (fun w => ans_any 1 hv _ w) hT hw (by omega) (by omega) (by omega) (by omega)
   ·
    exact meet_go2 r ph be mi wa l0 l1 l2 te d h4 hp _ j 2 w (fun w M h => ans_look h 2 hv) (fun w => ans_any 2 hv _ w) hT hw (by omega) (by omega) (by omega) (by omega)
   ·
    exact meet_go3 r ph be mi wa l0 l1 l2 te d h4 hp _ j 3 w (fun w M h => ans_look h 3 hv) (fun w => ans_any 3 hv _ w) hT hw (by omega) (by omega) (by omega) (by omega)
 ·
  have e : meet r x d = x := by unfold meet; rw [if_neg hg]
  rw [e]
  exact meet_out r x d (by simpa [goes] using hg) w
def stB (r : Ru) (x : Rn) (p : Int) : Nat → Rn
 | 0 => { x with ph := p, mi := 0 }
 | i + 1 => meetIf r (stB r x p i) i
theorem stB_three (r : Ru) (x : Rn) (p : Int) : stB r x p 3 = begin r x p := rfl
theorem meetIf_lost3 (r : Ru) (x : Rn) (d : Nat) : (meetIf r x d).l0 = x.l0 ∧ (meetIf r x d).l1 = x.l1 ∧ (meetIf r x d).l2 = x.l2 := by
 unfold meetIf
 split
 ·
  unfold meet
  split
  ·
   split
   ·
    exact ⟨rfl, rfl, rfl⟩
   ·
    split
    ·
     exact ⟨rfl, rfl, rfl⟩
    ·
     split
     ·
      split <;> exact ⟨rfl, rfl, rfl⟩
     ·
      exact ⟨rfl, rfl, rfl⟩
  ·
   exact ⟨rfl, rfl, rfl⟩
 ·
  exact ⟨rfl, rfl, rfl⟩
theorem stB_lost (r : Ru) (x : Rn) (p : Int) (d : Nat) : ∀ i, (stB r x p i).lost d = x.lost d
 | 0 => rfl
 | i + 1 => by
  rw [← stB_lost r x p d i]
  obtain ⟨a, b, c⟩ := meetIf_lost3 r (stB r x p i) i
  show (meetIf r (stB r x p i) i).lost d = _
  unfold Rn.lost
  rw [a, b, c]
theorem run_index3 (l0 l1 l2 : Bool) (i : Nat) (hi : i < 3) (w : World) : (Instr.index 145 (.agg #[.bool l0, .bool l1, .bool l2]) (.int .i64 i)).run Tryz.prog w = .ok (.bool (if i = 0 then l0 else if i = 1 then l1 else l2)) w := by
 rcases (show i = 0 ∨ i = 1 ∨ i = 2 by omega) with rfl | rfl | rfl
 ·
  exact (show (Instr.index 145 (.agg #[.bool l0, .bool l1, .bool l2]) (.int .i64 0)).run Tryz.prog w = .ok (.bool l0) w by kernel_rfl)
 ·
  exact (show (Instr.index 145 (.agg #[.bool l0, .bool l1, .bool l2]) (.int .i64 1)).run Tryz.prog w = .ok (.bool l1) w by kernel_rfl)
 ·
  exact (show (Instr.index 145 (.agg #[.bool l0, .bool l1, .bool l2]) (.int .i64 2)).run Tryz.prog w = .ok (.bool l2) w by kernel_rfl)
set_option maxRecDepth 100000 in
set_option maxHeartbeats 1000000 in
theorem begin_any (r : Ru) (x : Rn) (p : Int) (G : GoodRules r) (w : World) : Calls Tryz.prog 145 #[rnV x, ruV r, .int .i64 p] w (RetRn (begin r x p) w) := by
 have HS0 : Hid (stB r x p 0 = { x with ph := p, mi := 0 }) := rfl
 have HG := Lib.hid G
 obtain ⟨ph, be, mi, wa, l0, l1, l2, te⟩ := x
 go_enter Tryz.func145, Tryz.ntmps145
 go_wp2_with fail
 generalize hW0 : ((w.alloc (.cells (rnA ⟨p, be, 0, wa, l0, l1, l2, te⟩) 147)).alloc (.cells (ruA r) 144)).alloc (.cells _ _) = W at *
 obtain ⟨hal, hB1, hB2, hB3, hWs⟩ := boxesM w _ _ _ _ W hW0.symm
 clear hW0 G
 have HAL := Lib.hid hal
 have HB1 := Lib.hid hB1
 have HB2 := Lib.hid hB2
 have HB3 := Lib.hid hB3
 clear hal hB1 hB2 hB3 hWs
 go_loopw [14] (fun iv wr => ∃ (i : Nat), i ≤ 3 ∧ iv = .int .i64 i ∧ Hid (wr.heap[w.heap.size]? = some (.cells (rnA (stB r ⟨ph, be, mi, wa, l0, l1, l2, te⟩ p i)) 147 (0, 0))) ∧ Hid (wr.heap[w.heap.size + 1]? = some (.cells (ruA r) 144 (0, 0))) ∧
   Hid (∃ c, wr.heap[w.heap.size + 1 + 1]? = some (.cells (rnA c) 147 (0, 0))) ∧ Hid (Below w.heap.size w wr))
  (fun iv _ => 3 - (intOf iv).toNat)
 case atStart => exact ⟨0, by omega, rfl, HB1, HB2, ⟨rn0, HB3.out⟩, HAL⟩
 case round =>
  obtain ⟨i, hi, rfl, K1, K2, K3, KB⟩ := hrel
  by_cases hlt : i < 3
  ·
   have hix := run_index3 l0 l1 l2 i hlt wr
   have hlo : (if i = 0 then l0 else if i = 1 then l1 else l2) = (stB r ⟨ph, be, mi, wa, l0, l1, l2, te⟩ p i).lost i := (stB_lost r ⟨ph, be, mi, wa, l0, l1, l2, te⟩ p i i).symm
   rw [hlo] at hix
   have Hst : Hid (stB r ⟨ph, be, mi, wa, l0, l1, l2, te⟩ p (i + 1) = meetIf r (stB r ⟨ph, be, mi, wa, l0, l1, l2, te⟩ p i) i) := rfl
   have hlt' : (i : Int) < 3 := by omega
   have HLT := Lib.hid hlt
   clear hlo hlt
   generalize stB r ⟨ph, be, mi, wa, l0, l1, l2, te⟩ p i = y at *
   cases hl : y.lost i with
   | false =>
    rw [hl] at hix
    have HZ : Hid (stB r ⟨ph, be, mi, wa, l0, l1, l2, te⟩ p (i + 1) = y) := by
     show _ = _
     rw [Hst.out]
     unfold meetIf
     rw [if_neg (by rw [hl]; decide)]
    clear hl Hst
    go_wp2_with fail
    exact ⟨⟨i + 1, by have := HLT.out; omega, by go_num, by rw [HZ.out]; exact K1, K2, K3, KB⟩, meas_up HLT.out⟩
   | true =>
    rw [hl] at hix
    have HZ : Hid (stB r ⟨ph, be, mi, wa, l0, l1, l2, te⟩ p (i + 1) = meet r y i) := by
     show _ = _
     rw [Hst.out]
     unfold meetIf
     rw [if_pos hl]
    clear hl
    have hB1 := K1.out
    have hB2 := K2.out
    obtain ⟨k0, k1, k2, k3, k4, k5, k6, k7⟩ := rn8 hB1
    obtain ⟨m0, m1, m2, m3, m4, m5, m6, m7, m8, m9, m10, m11, m12⟩ := ru13 hB2
    clear hB1 hB2 Hst
    go_wp2_with fail
    refine (meet_any r y i HLT.out HG.out _).mono ?_
    rintro e w1 ⟨rfl, hb⟩
    generalize meet r y i = u at *
    have hB1 := K1.out
    have hB2 := K2.out
    obtain ⟨c, hB3⟩ := K3.out
    have e1 := blk_keep hB1 hb (blk_lt hB1)
    have E2 := Lib.hid (blk_keep hB2 hb (blk_lt hB2))
    have E3 := Lib.hid (blk_keep hB3 hb (blk_lt hB3))
    have HB := Lib.hid (KB.out.trans (hb.mono KB.out.size))
    obtain ⟨g0, g1, g2, g3, g4, g5, g6, g7⟩ := rn8 e1
    obtain ⟨f0, f1, f2, f3, f4, f5, f6, f7⟩ := rnf e1
    have E1 := Lib.hid e1
    clear hB1 hB2 hB3 e1 hb k0 k1 k2 k3 k4 k5 k6 k7 m0 m1 m2 m3 m4 m5 m6 m7 m8 m9 m10 m11 m12
    go_wp2_with fail
    exact ⟨⟨i + 1, by have := HLT.out; omega, by go_num, (by rw [HZ.out]; exact set8 E1.out), oth8 E2.out (by omega), ⟨c, oth8 E3.out (by omega)⟩, below_set8 HB.out (Nat.le_refl _)⟩, meas_up HLT.out⟩
  ·
   obtain rfl : i = 3 := by omega
   rw [stB_three] at K1
   generalize begin r ⟨ph, be, mi, wa, l0, l1, l2, te⟩ p = u at *
   have hB1 := K1.out
   obtain ⟨c, hB3⟩ := K3.out
   obtain ⟨k0, k1, k2, k3, k4, k5, k6, k7⟩ := rn8 hB1
   obtain ⟨g0, g1, g2, g3, g4, g5, g6, g7⟩ := rn8 hB3
   obtain ⟨f0, f1, f2, f3, f4, f5, f6, f7⟩ := rnf hB3
   have E3 := Lib.hid hB3
   clear hB1 hB3
   go_wp2_with fail
   obtain ⟨h0, h1, h2, h3, h4, h5, h6, h7⟩ := rn8 (x := u) (set8 (u0 := .int .i64 u.ph) (u1 := .int .i64 u.be) (u2 := .int .i64 u.mi) (u3 := .int .i64 u.wa) (u4 := .bool u.l0) (u5 := .bool u.l1) (u6 := .bool u.l2) (u7 := .bool u.te) E3.out)
   refine bodyPost_ret (v := rnV u) (by simp [results, Tryz.results145, go_sem, h0, h1, h2, h3, h4, h5, h6, h7]) rfl ⟨rfl, ?_⟩
   exact below_set8 KB.out (by omega)
end Go.Proofs.YthhnkobkdhjfgaaGreat

namespace Go.Proofs.YthhnkobkdhjfgaaGreat
open Go.RowKit

def hB (r : Ru) (x : Rn) (p : Int) (d : Nat) : Bool := x.lost d && decide (r.tb p d = 2)
theorem heldAt_yes {r : Ru} {x : Rn} {p : Int} {d : Nat} (hd : d < 3) (h : hB r x p d = true) : heldAt r x p = true := by
 unfold hB at h
 simp only [Bool.and_eq_true, decide_eq_true_eq] at h
 exact held_of hd h.1 h.2
theorem heldAt_no {r : Ru} {x : Rn} {p : Int} (h : ∀ d, d < 3 → hB r x p d = false) : heldAt r x p = false := by
 have h0 := h 0 (by omega)
 have h1 := h 1 (by omega)
 have h2 := h 2 (by omega)
 unfold hB Rn.lost at h0 h1 h2
 unfold heldAt
 simp only [if_true, if_false, Nat.one_ne_zero] at h0 h1 h2
 rw [h0, h1]
 simpa using h2
theorem boxes2 (w : World) (x : Rn) (r : Ru) (W : World) (hW : W = (w.alloc (.cells (rnA x) 147)).alloc (.cells (ruA r) 144)) :
  Below w.heap.size w W ∧ W.heap[w.heap.size]? = some (.cells (rnA x) 147 (0, 0)) ∧ W.heap[w.heap.size + 1]? = some (.cells (ruA r) 144 (0, 0)) ∧ W.heap.size = w.heap.size + 2 := by
 subst hW
 have e1 : (w.alloc (.cells (rnA x) 147)).heap.size = w.heap.size + 1 := World.size_alloc ..
 have a1 := blk_new w (rnA x) 147
 have a2 := blk_new (w.alloc (.cells (rnA x) 147)) (ruA r) 144
 rw [e1] at a2
 exact ⟨below2 _ _ _, (heap_alloc_old _ (.cells (ruA r) 144) (blk_lt a1)).trans a1, a2, by rw [World.size_alloc, e1]⟩

set_option maxRecDepth 100000 in
set_option maxHeartbeats 1000000 in
theorem held_any (r : Ru) (x : Rn) (hp : 1 ≤ x.be ∧ x.be ≤ 3) (w : World) : Calls Tryz.prog 147 #[rnV x, ruV r] w (RetBW (heldAt r x x.be) ((w.alloc (rnO x)).alloc (ruO r))) := by
 obtain ⟨j, hj⟩ : ∃ j : Nat, (j : Int) = x.be - 1 := ⟨(x.be - 1).toNat, by omega⟩
 have hw := wrap3 _ j hp hj
 have hj0 : (0 : Int) ≤ j := by omega
 have hj3 : (j : Int) < 3 := by omega
 have hlo : ∀ i w, i < 3 → (Instr.index 145 (.agg #[.bool x.l0, .bool x.l1, .bool x.l2]) (.int .i64 (i : Nat))).run Tryz.prog w = .ok (.bool (x.lost i)) w := fun i w hi => run_index3 x.l0 x.l1 x.l2 i hi w
 have hT : ∀ d, d < 3 → (ruA r)[4 + j * 3 + d]? = some (.int .i64 (r.tb x.be d)) := fun d hd => by
  have := ruA_tb r j d (by omega) hd
  rw [show (j : Int) + 1 = x.be from by omega] at this
  exact this
 have HLO := Lib.hid hlo
 have HT := Lib.hid hT
 clear hj hlo hT hp
 obtain ⟨g, hg⟩ : ∃ g, g = heldAt r x x.be := ⟨_, rfl⟩
 have HG := Lib.hid hg
 rw [← hg]
 clear hg
 go_enter Tryz.func147, Tryz.ntmps147
 go_wp2_with fail
 generalize hW0 : (w.alloc (.cells (rnA x) 147)).alloc (.cells (ruA r) 144) = W at *
 obtain ⟨hal, hB1, hB2, hWs⟩ := boxes2 w _ _ W hW0.symm
 have HW0 := Lib.hid hW0
 clear hW0 hal hWs
 have HB1 := Lib.hid hB1
 have HB2 := Lib.hid hB2
 clear hB1 hB2
 go_loopw [9] (fun iv wr => ∃ (i : Nat), i ≤ 3 ∧ iv = .int .i64 i ∧ wr = W ∧ Hid (∀ d, d < i → hB r x x.be d = false))
  (fun iv _ => 3 - (intOf iv).toNat)
 case atStart => exact ⟨0, by omega, rfl, rfl, fun d hd => absurd hd (by omega)⟩
 case round =>
  obtain ⟨i, hi, rfl, rfl, HN⟩ := hrel
  by_cases hlt : i < 3
  ·
   have hix := HLO.out i wr hlt
   have k8 := blk_cell HB2.out _ _ (HT.out i hlt)
   have k1 := (rn8 HB1.out).2.1
   have hlt' : (i : Int) < 3 := by omega
   have hi0 : (0 : Int) ≤ i := by omega
   have HLT := Lib.hid hlt
   have Hb : Hid (hB r x x.be i = (x.lost i && decide (r.tb x.be i = 2))) := rfl
   clear hlt
   generalize r.tb x.be i = t at *
   cases hl : x.lost i with
   | false =>
    rw [hl] at hix Hb
    clear hl k8
    go_wp2_with fail
    refine ⟨⟨i + 1, by have := HLT.out; omega, by go_num, by first | rfl | trivial, ?_⟩, meas_up HLT.out⟩
    intro d hd
    rcases Nat.lt_or_ge d i with h | h
    ·
     exact HN.out d h
    ·
     rw [show d = i from by omega, Hb.out]
     rfl
   | true =>
    rw [hl] at hix Hb
    clear hl
    by_cases h2 : t = 2
    ·
     have t1 : (t == 2) = true := by simp [h2]
     have hgg : Hid (g = true) := by
      show _ = _
      rw [HG.out]
      refine heldAt_yes HLT.out ?_
      rw [Hb.out, h2]
      rfl
     clear h2
     go_wp2_with fail
     go_ret
     exact ⟨by rw [hgg.out]; rfl, rfl⟩
    ·
     have t1 : (t == 2) = false := by simp [h2]
     have Hn : Hid (hB r x x.be i = false) := by
      show _ = _
      rw [Hb.out, decide_eq_false h2]
      rfl
     clear h2
     go_wp2_with fail
     refine ⟨⟨i + 1, by have := HLT.out; omega, by go_num, by first | rfl | trivial, ?_⟩, meas_up HLT.out⟩
     intro d hd
     rcases Nat.lt_or_ge d i with h | h
     ·
      exact HN.out d h
     ·
      rw [show d = i from by omega]
      exact Hn.out
  ·
   obtain rfl : i = 3 := by omega
   have hgg : Hid (g = false) := by
    show _ = _
    rw [HG.out]
    exact heldAt_no HN.out
   clear HN
   go_wp2_with fail
   go_ret
   exact ⟨by rw [hgg.out]; rfl, rfl⟩
end Go.Proofs.YthhnkobkdhjfgaaGreat

namespace Go.Proofs.YthhnkobkdhjfgaaGreat
open Go.RowKit

theorem ruA_mn (r : Ru) (j : Nat) (hj : j < 3) : (ruA r)[j]? = some (.int .i64 (r.mn ((j : Int) + 1))) := by
 match j, hj with
 | 0, _ => rfl
 | 1, _ => rfl
 | 2, _ => rfl
theorem wrap_p {m : Int} (h : 0 ≤ m ∧ m ≤ 256) : IntKind.i64.wrap (m + 1) = m + 1 := by
 rw [IntWalk.i64_left, IntWalk.wrap64_in _ (by omega)]

set_option maxRecDepth 100000 in
set_option maxHeartbeats 1000000 in
theorem tick_wait (r : Ru) (be mi wa : Int) (l0 l1 l2 te : Bool) (hw : IntKind.i64.wrap (wa + 1) = wa + 1) (w : World) :
  Calls Tryz.prog 144 #[rnV ⟨4, be, mi, wa, l0, l1, l2, te⟩, ruV r] w (RetRn (tick r ⟨4, be, mi, wa, l0, l1, l2, te⟩) w) := by
 by_cases h : r.pa < wa + 1
 ·
  have t1 : decide (wa + 1 > r.pa) = true := decide_eq_true h
  have e : tick r ⟨4, be, mi, wa, l0, l1, l2, te⟩ = ended ⟨4, be, mi, wa + 1, l0, l1, l2, te⟩ 7 := by unfold tick; rw [if_pos rfl, if_pos h]
  rw [e]
  clear h e
  go_enter Tryz.func144, Tryz.ntmps144
  go_wp2_with fail
  refine (ended_any ⟨4, be, mi, wa + 1, l0, l1, l2, te⟩ 7 _).mono ?_
  rintro e w' ⟨rfl, rfl⟩
  go_wp2_with fail
  refine bodyPost_ret (v := rnV (ended ⟨4, be, mi, wa + 1, l0, l1, l2, te⟩ 7)) (by simp [results, Tryz.results144, go_sem]) rfl ⟨rfl, ?_⟩
  exact ba (ba (ba (below2 _ _ _)))
 ·
  have t1 : decide (wa + 1 > r.pa) = false := decide_eq_false h
  have e : tick r ⟨4, be, mi, wa, l0, l1, l2, te⟩ = ⟨4, be, mi, wa + 1, l0, l1, l2, te⟩ := by unfold tick; rw [if_pos rfl, if_neg h]
  rw [e]
  clear h e
  go_enter Tryz.func144, Tryz.ntmps144
  go_wp2_with fail
  refine bodyPost_ret (v := rnV ⟨4, be, mi, wa + 1, l0, l1, l2, te⟩) (by simp [results, Tryz.results144, go_sem]) rfl ⟨rfl, ?_⟩
  exact ba (below2 _ _ _)
set_option maxRecDepth 100000 in
set_option maxHeartbeats 1000000 in
theorem tick_rest (r : Ru) (x : Rn) (h4 : ¬ x.ph = 4) (hg : goes x.ph = false) (w : World) : Calls Tryz.prog 144 #[rnV x, ruV r] w (RetRn x w) := by
 have t1 : (x.ph == 4) = false := by simp [h4]
 clear h4
 go_enter Tryz.func144, Tryz.ntmps144
 go_wp2_with fail
 refine (goes_any x _).mono ?_
 rintro e w' ⟨rfl, rfl⟩
 rw [hg]
 go_wp2_with fail
 refine bodyPost_ret (v := rnV x) (by simp [results, Tryz.results144, go_sem]) rfl ⟨rfl, ?_⟩
 exact ba (ba (below2 _ _ _))
set_option maxRecDepth 100000 in
set_option maxHeartbeats 1000000 in
theorem tick_goes (r : Ru) (ph be mi wa : Int) (l0 l1 l2 te : Bool) (G : GoodRules r) (h4 : ¬ ph = 4) (hg : goes ph = true) (hm : IntKind.i64.wrap (mi + 1) = mi + 1)
  (j : Nat) (mv : Int) (hw : IntKind.i64.wrap (ph - 1) = (j : Int)) (hj0 : (0 : Int) ≤ j) (hj3 : (j : Int) < 3) (HM : Hid ((ruA r)[j]? = some (.int .i64 mv))) (hp : IntKind.i64.wrap (ph + 1) = ph + 1) (w : World) :
  Calls Tryz.prog 144 #[rnV ⟨ph, be, mi, wa, l0, l1, l2, te⟩, ruV r] w (RetRn (if mi + 1 < mv then ⟨ph, be, mi + 1, wa, l0, l1, l2, te⟩ else if ph < 3 then begin r ⟨ph, be, mi + 1, wa, l0, l1, l2, te⟩ (ph + 1) else if te then ended ⟨ph, be, mi + 1, wa, l0, l1, l2, te⟩ 6 else ended ⟨ph, be, mi + 1, wa, l0, l1, l2, te⟩ 5) w) := by
 have t1 : (ph == 4) = false := by simp [h4]
 have HG := Lib.hid G
 clear h4 G
 obtain ⟨u, hu⟩ : ∃ u : Rn, u = (if mi + 1 < mv then ⟨ph, be, mi + 1, wa, l0, l1, l2, te⟩ else if ph < 3 then begin r ⟨ph, be, mi + 1, wa, l0, l1, l2, te⟩ (ph + 1) else if te then ended ⟨ph, be, mi + 1, wa, l0, l1, l2, te⟩ 6 else ended ⟨ph, be, mi + 1, wa, l0, l1, l2, te⟩ 5) := ⟨_, rfl⟩
 rw [← hu]
 have HU := Lib.hid hu
 clear hu
 go_enter Tryz.func144, Tryz.ntmps144
 go_wp2_with fail
 refine (goes_any ⟨ph, be, mi, wa, l0, l1, l2, te⟩ _).mono ?_
 rintro e w' ⟨rfl, rfl⟩
 rw [show goes (⟨ph, be, mi, wa, l0, l1, l2, te⟩ : Rn).ph = true from hg]
 go_wp2_with fail
 generalize hW0 : ((w.alloc (.cells (rnA ⟨ph, be, mi + 1, wa, l0, l1, l2, te⟩) 147)).alloc (.cells (ruA r) 144)).alloc (.cells _ _) = W1 at *
 obtain ⟨hal, hB1, hB2, hB3, hWs⟩ := boxesM w _ _ _ _ W1 hW0.symm
 clear hW0
 have HAL := Lib.hid (ba (o := rnO ⟨ph, be, mi, wa, l0, l1, l2, te⟩) hal)
 have hC1 := (heap_alloc_old _ (rnO ⟨ph, be, mi, wa, l0, l1, l2, te⟩) (blk_lt hB1)).trans hB1
 have hC2 := (heap_alloc_old _ (rnO ⟨ph, be, mi, wa, l0, l1, l2, te⟩) (blk_lt hB2)).trans hB2
 have hC3 := (heap_alloc_old _ (rnO ⟨ph, be, mi, wa, l0, l1, l2, te⟩) (blk_lt hB3)).trans hB3
 clear hal hB1 hB2 hB3 hWs
 generalize W1.alloc (rnO ⟨ph, be, mi, wa, l0, l1, l2, te⟩) = W at *
 have a0 := blk_cell hC1 0 _ rfl
 have a2 := blk_cell hC1 2 _ rfl
 have k3 := blk_cell hC2 _ _ HM.out
 have D1 : Hid (W.drew.heap[w.heap.size]? = _) := hC1
 have D2 : Hid (W.drew.heap[w.heap.size + 1]? = _) := hC2
 have D3 : Hid (W.drew.heap[w.heap.size + 1 + 1]? = _) := hC3
 have BV := Lib.hid HAL.out.drew
 clear hC1 hC2 hC3
 go_region_held3 (fun w' => Below W.heap.size W w' ∧ w'.cell? ⟨w.heap.size, 0, none⟩ = some (.int .i64 ph) ∧ w'.cell? ⟨w.heap.size, 2, none⟩ = some (.int .i64 (mi + 1)) ∧ w'.cell? ⟨w.heap.size + 1, j, none⟩ = some (.int .i64 mv))
  (first | exact ⟨(Below.refl _ _).drew, a0, a2, k3⟩ | assumption)
  (fail)
 rename_i hHeld
 clear hHeld a0 a2 k3
 generalize W.drew = V at *
 obtain ⟨k0, k1, k2, k3, k4, k5, k6, k7⟩ := rn8 D1.out
 by_cases c1 : mi + 1 < mv
 ·
  rw [decide_eq_true c1]
  have HU2 : Hid (u = ⟨ph, be, mi + 1, wa, l0, l1, l2, te⟩) := by show _ = _; rw [HU.out, if_pos c1]
  clear c1 HU
  obtain ⟨f0, f1, f2, f3, f4, f5, f6, f7⟩ := rnf (x := rn0) D3.out
  obtain ⟨g0, g1, g2, g3, g4, g5, g6, g7⟩ := rn8 (x := rn0) D3.out
  go_wp2_with fail
  have hE := set8 (u0 := .int .i64 ph) (u1 := .int .i64 be) (u2 := .int .i64 (mi + 1)) (u3 := .int .i64 wa) (u4 := .bool l0) (u5 := .bool l1) (u6 := .bool l2) (u7 := .bool te) D3.out
  obtain ⟨h0, h1, h2, h3, h4, h5, h6, h7⟩ := rn8 (x := ⟨ph, be, mi + 1, wa, l0, l1, l2, te⟩) hE
  refine bodyPost_ret (v := rnV ⟨ph, be, mi + 1, wa, l0, l1, l2, te⟩) (by simp [results, Tryz.results144, go_sem, h0, h1, h2, h3, h4, h5, h6, h7]) rfl ⟨by rw [HU2.out], ?_⟩
  exact below_set8 BV.out (by omega)
 ·
  rw [decide_eq_false c1]
  by_cases c2 : ph < 3
  ·
   have t3 : decide (ph < 3) = true := decide_eq_true c2
   have HU2 : Hid (u = begin r ⟨ph, be, mi + 1, wa, l0, l1, l2, te⟩ (ph + 1)) := by show _ = _; rw [HU.out, if_neg c1, if_pos c2]
   clear c1 c2 HU
   obtain ⟨m0, m1, m2, m3, m4, m5, m6, m7, m8, m9, m10, m11, m12⟩ := ru13 D2.out
   go_wp2_with fail
   refine (begin_any r ⟨ph, be, mi + 1, wa, l0, l1, l2, te⟩ (ph + 1) HG.out _).mono ?_
   rintro e w1 ⟨rfl, hb⟩
   rw [← HU2.out]
   clear m0 m1 m2 m3 m4 m5 m6 m7 m8 m9 m10 m11 m12 HU2
   have E3 := Lib.hid (blk_keep D3.out hb (blk_lt D3.out))
   have HB := Lib.hid (BV.out.trans (hb.mono BV.out.size))
   obtain ⟨f0, f1, f2, f3, f4, f5, f6, f7⟩ := rnf (x := rn0) E3.out
   obtain ⟨g0, g1, g2, g3, g4, g5, g6, g7⟩ := rn8 (x := rn0) E3.out
   clear k0 k1 k2 k3 k4 k5 k6 k7 hb
   go_wp2_with fail
   obtain ⟨h0, h1, h2, h3, h4, h5, h6, h7⟩ := rn8 (x := u) (set8 (u0 := .int .i64 u.ph) (u1 := .int .i64 u.be) (u2 := .int .i64 u.mi) (u3 := .int .i64 u.wa) (u4 := .bool u.l0) (u5 := .bool u.l1) (u6 := .bool u.l2) (u7 := .bool u.te) E3.out)
   refine bodyPost_ret (v := rnV u) (by simp [results, Tryz.results144, go_sem, h0, h1, h2, h3, h4, h5, h6, h7]) rfl ⟨rfl, ?_⟩
   exact below_set8 HB.out (by omega)
  ·
   have t3 : decide (ph < 3) = false := decide_eq_false c2
   cases te with
   | true =>
    have HU2 : Hid (u = ended ⟨ph, be, mi + 1, wa, l0, l1, l2, true⟩ 6) := by show _ = _; rw [HU.out, if_neg c1, if_neg c2, if_pos rfl]
    clear c1 c2 HU
    go_wp2_with fail
    refine (ended_any ⟨ph, be, mi + 1, wa, l0, l1, l2, true⟩ 6 _).mono ?_
    rintro e w1 ⟨rfl, hw1⟩
    have hb : Below V.heap.size V w1 := by rw [hw1]; exact below2 _ _ _
    rw [← HU2.out]
    clear hw1 HU2
    have E3 := Lib.hid (blk_keep D3.out hb (blk_lt D3.out))
    have HB := Lib.hid (BV.out.trans (hb.mono BV.out.size))
    obtain ⟨f0, f1, f2, f3, f4, f5, f6, f7⟩ := rnf (x := rn0) E3.out
    obtain ⟨g0, g1, g2, g3, g4, g5, g6, g7⟩ := rn8 (x := rn0) E3.out
    clear k0 k1 k2 k3 k4 k5 k6 k7 hb
    go_wp2_with fail
    obtain ⟨h0, h1, h2, h3, h4, h5, h6, h7⟩ := rn8 (x := u) (set8 (u0 := .int .i64 u.ph) (u1 := .int .i64 u.be) (u2 := .int .i64 u.mi) (u3 := .int .i64 u.wa) (u4 := .bool u.l0) (u5 := .bool u.l1) (u6 := .bool u.l2) (u7 := .bool u.te) E3.out)
    refine bodyPost_ret (v := rnV u) (by simp [results, Tryz.results144, go_sem, h0, h1, h2, h3, h4, h5, h6, h7]) rfl ⟨rfl, ?_⟩
    exact below_set8 HB.out (by omega)
   | false =>
    have HU2 : Hid (u = ended ⟨ph, be, mi + 1, wa, l0, l1, l2, false⟩ 5) := by show _ = _; rw [HU.out, if_neg c1, if_neg c2, if_neg (by decide)]
    clear c1 c2 HU
    go_wp2_with fail
    refine (ended_any ⟨ph, be, mi + 1, wa, l0, l1, l2, false⟩ 5 _).mono ?_
    rintro e w1 ⟨rfl, hw1⟩
    have hb : Below V.heap.size V w1 := by rw [hw1]; exact below2 _ _ _
    rw [← HU2.out]
    clear hw1 HU2
    have E3 := Lib.hid (blk_keep D3.out hb (blk_lt D3.out))
    have HB := Lib.hid (BV.out.trans (hb.mono BV.out.size))
    obtain ⟨f0, f1, f2, f3, f4, f5, f6, f7⟩ := rnf (x := rn0) E3.out
    obtain ⟨g0, g1, g2, g3, g4, g5, g6, g7⟩ := rn8 (x := rn0) E3.out
    clear k0 k1 k2 k3 k4 k5 k6 k7 hb
    go_wp2_with fail
    obtain ⟨h0, h1, h2, h3, h4, h5, h6, h7⟩ := rn8 (x := u) (set8 (u0 := .int .i64 u.ph) (u1 := .int .i64 u.be) (u2 := .int .i64 u.mi) (u3 := .int .i64 u.wa) (u4 := .bool u.l0) (u5 := .bool u.l1) (u6 := .bool u.l2) (u7 := .bool u.te) E3.out)
    refine bodyPost_ret (v := rnV u) (by simp [results, Tryz.results144, go_sem, h0, h1, h2, h3, h4, h5, h6, h7]) rfl ⟨rfl, ?_⟩
    exact below_set8 HB.out (by omega)
theorem tick_any (r : Ru) (x : Rn) (G : GoodRules r) (hR : Right r x) (w : World) : Calls Tryz.prog 144 #[rnV x, ruV r] w (RetRn (tick r x) w) := by
 by_cases h4 : x.ph = 4
 ·
  obtain ⟨ph, be, mi, wa, l0, l1, l2, te⟩ := x
  obtain rfl : ph = 4 := h4
  have hpa := G.pa
  have hwa : 0 ≤ wa ∧ wa ≤ 256 := by
   rcases hR with ⟨a, b, c, d, e⟩ | ⟨a, b, c, d⟩ | ⟨a, b, c, d⟩
   ·
    have : 0 ≤ wa ∧ wa ≤ r.pa := d
    omega
   ·
    have : (1 : Int) ≤ 4 ∧ (4 : Int) ≤ 3 := c
    omega
   ·
    have : (4 : Int) = 0 ∨ (4 : Int) = 5 ∨ (4 : Int) = 6 ∨ (4 : Int) = 7 := d
    omega
  exact tick_wait r be mi wa l0 l1 l2 te (wrap_p hwa) w
 ·
  cases hg : goes x.ph with
  | true =>
   have hp := (goes_iff _).1 hg
   have hmn := G.mn x.ph
   have hmi : 0 ≤ x.mi ∧ x.mi ≤ 256 := by rcases hR with ⟨a, b, c, d, e⟩ | ⟨a, b, c, d⟩ | ⟨a, b, c, d⟩ <;> omega
   obtain ⟨j, hj⟩ : ∃ j : Nat, (j : Int) = x.ph - 1 := ⟨(x.ph - 1).toNat, by omega⟩
   have hM := ruA_mn r j (by omega)
   rw [show (j : Int) + 1 = x.ph from by omega] at hM
   have e : tick r x = (if x.mi + 1 < r.mn x.ph then { x with mi := x.mi + 1 } else if x.ph < 3 then begin r { x with mi := x.mi + 1 } (x.ph + 1) else if x.te then ended { x with mi := x.mi + 1 } 6 else ended { x with mi := x.mi + 1 } 5) := by
    unfold tick
    rw [if_neg h4, if_pos hg]
   rw [e]
   obtain ⟨ph, be, mi, wa, l0, l1, l2, te⟩ := x
   exact tick_goes r ph be mi wa l0 l1 l2 te G h4 hg (wrap_p hmi) j _ (wrap3 _ j hp hj) (by omega) (by omega) hM (wrap_p (by have : 1 ≤ ph ∧ ph ≤ 3 := hp; omega)) w
  | false =>
   have e : tick r x = x := by unfold tick; rw [if_neg h4, if_neg (by rw [hg]; decide)]
   rw [e]
   exact tick_rest r x h4 hg w
end Go.Proofs.YthhnkobkdhjfgaaGreat

namespace Go.Proofs.YthhnkobkdhjfgaaGreat
open Go.RowKit

def RetNx (o : Option Rn) (w : World) (e : Ending) (w' : World) : Prop := e = .returned (.tuple #[rnV (o.getD rn0), .bool o.isSome]) ∧ Below w.heap.size w w'
set_option maxRecDepth 100000 in
set_option maxHeartbeats 1000000 in
theorem next_0 (r : Ru) (ph be mi wa : Int) (l0 l1 l2 te : Bool) (G : GoodRules r) (hR : Right r ⟨ph, be, mi, wa, l0, l1, l2, te⟩) (w : World) : Calls Tryz.prog 100 #[rnV ⟨ph, be, mi, wa, l0, l1, l2, te⟩, ruV r, .int .i64 0] w (RetNx (some (tick r ⟨ph, be, mi, wa, l0, l1, l2, te⟩)) w) := by
 have HG := Lib.hid G
 have HR := Lib.hid hR
 obtain ⟨u, hu⟩ : ∃ u, u = tick r ⟨ph, be, mi, wa, l0, l1, l2, te⟩ := ⟨_, rfl⟩
 have HU := Lib.hid hu
 rw [← hu]
 clear hu G hR
 go_enter Tryz.func100, Tryz.ntmps100
 go_wp2_with fail
 generalize hW0 : ((w.alloc (.cells (rnA ⟨ph, be, mi, wa, l0, l1, l2, te⟩) 147)).alloc (.cells (ruA r) 144)).alloc (.cells _ _) = W at *
 obtain ⟨hal, hB1, hB2, hB3, hWs⟩ := boxesM w _ _ _ _ W hW0.symm
 have HAL := Lib.hid hal
 have HB1 := Lib.hid hB1
 have HB2 := Lib.hid hB2
 have HB3 := Lib.hid hB3
 clear hW0 hal hB1 hB2 hB3 hWs
 refine (tick_any r ⟨ph, be, mi, wa, l0, l1, l2, te⟩ HG.out HR.out _).mono ?_
 rintro e w1 ⟨rfl, hb⟩
 rw [← HU.out]
 have E3 := Lib.hid (blk_keep HB3.out hb (blk_lt HB3.out))
 have HB := Lib.hid (HAL.out.trans (hb.mono HAL.out.size))
 obtain ⟨f0, f1, f2, f3, f4, f5, f6, f7⟩ := rnf (x := rn0) E3.out
 obtain ⟨g0, g1, g2, g3, g4, g5, g6, g7⟩ := rn8 (x := rn0) E3.out
 clear hb HU
 go_wp2_with fail
 obtain ⟨h0, h1, h2, h3, h4, h5, h6, h7⟩ := rn8 (x := u) (set8 (u0 := .int .i64 (u).ph) (u1 := .int .i64 (u).be) (u2 := .int .i64 (u).mi) (u3 := .int .i64 (u).wa) (u4 := .bool (u).l0) (u5 := .bool (u).l1) (u6 := .bool (u).l2) (u7 := .bool (u).te) E3.out)
 refine bodyPost_ret (v := .tuple #[rnV u, .bool true]) (by simp [results, Tryz.results100, go_sem, h0, h1, h2, h3, h4, h5, h6, h7]) rfl ⟨rfl, ?_⟩
 exact below_set8 HB.out (by omega)
set_option maxRecDepth 100000 in
set_option maxHeartbeats 1000000 in
theorem next_1 (r : Ru) (ph be mi wa : Int) (l0 l1 l2 te : Bool) (G : GoodRules r) (h0 : ph = 0) (w : World) : Calls Tryz.prog 100 #[rnV ⟨ph, be, mi, wa, l0, l1, l2, te⟩, ruV r, .int .i64 1] w (RetNx (some (begin r ⟨ph, be, mi, wa, l0, l1, l2, false⟩ 1)) w) := by
 have HG := Lib.hid G
 have t1 : (ph != 0) = false := by simp [h0]
 obtain ⟨u, hu⟩ : ∃ u, u = begin r ⟨ph, be, mi, wa, l0, l1, l2, false⟩ 1 := ⟨_, rfl⟩
 have HU := Lib.hid hu
 rw [← hu]
 clear hu G h0
 go_enter Tryz.func100, Tryz.ntmps100
 go_wp2_with fail
 generalize hW0 : ((w.alloc (.cells (rnA ⟨ph, be, mi, wa, l0, l1, l2, false⟩) 147)).alloc (.cells (ruA r) 144)).alloc (.cells _ _) = W at *
 obtain ⟨hal, hB1, hB2, hB3, hWs⟩ := boxesM w _ _ _ _ W hW0.symm
 have HAL := Lib.hid hal
 have HB1 := Lib.hid hB1
 have HB2 := Lib.hid hB2
 have HB3 := Lib.hid hB3
 clear hW0 hal hB1 hB2 hB3 hWs
 refine (begin_any r ⟨ph, be, mi, wa, l0, l1, l2, false⟩ 1 HG.out _).mono ?_
 rintro e w1 ⟨rfl, hb⟩
 rw [← HU.out]
 have E3 := Lib.hid (blk_keep HB3.out hb (blk_lt HB3.out))
 have HB := Lib.hid (HAL.out.trans (hb.mono HAL.out.size))
 obtain ⟨f0, f1, f2, f3, f4, f5, f6, f7⟩ := rnf (x := rn0) E3.out
 obtain ⟨g0, g1, g2, g3, g4, g5, g6, g7⟩ := rn8 (x := rn0) E3.out
 clear hb HU
 go_wp2_with fail
 obtain ⟨h0, h1, h2, h3, h4, h5, h6, h7⟩ := rn8 (x := u) (set8 (u0 := .int .i64 (u).ph) (u1 := .int .i64 (u).be) (u2 := .int .i64 (u).mi) (u3 := .int .i64 (u).wa) (u4 := .bool (u).l0) (u5 := .bool (u).l1) (u6 := .bool (u).l2) (u7 := .bool (u).te) E3.out)
 refine bodyPost_ret (v := .tuple #[rnV u, .bool true]) (by simp [results, Tryz.results100, go_sem, h0, h1, h2, h3, h4, h5, h6, h7]) rfl ⟨rfl, ?_⟩
 exact below_set8 HB.out (by omega)
set_option maxRecDepth 100000 in
set_option maxHeartbeats 1000000 in
theorem next_1n (r : Ru) (ph be mi wa : Int) (l0 l1 l2 te : Bool) (G : GoodRules r) (h0 : ¬ ph = 0) (w : World) : Calls Tryz.prog 100 #[rnV ⟨ph, be, mi, wa, l0, l1, l2, te⟩, ruV r, .int .i64 1] w (RetNx none w) := by
 have t1 : (ph != 0) = true := by simp [h0]
 clear G h0
 go_enter Tryz.func100, Tryz.ntmps100
 go_wp2_with fail
 refine bodyPost_ret (v := .tuple #[rnV rn0, .bool false]) (by simp [results, Tryz.results100, go_sem, rn0]) rfl ⟨rfl, ba (below2 _ _ _)⟩
set_option maxRecDepth 100000 in
set_option maxHeartbeats 1000000 in
theorem next_2o (r : Ru) (ph be mi wa : Int) (l0 l1 l2 te : Bool) (G : GoodRules r) (h4 : inR ph 0 4 = false) (w : World) : Calls Tryz.prog 100 #[rnV ⟨ph, be, mi, wa, l0, l1, l2, te⟩, ruV r, .int .i64 2] w (RetNx none w) := by
 clear G
 go_enter Tryz.func100, Tryz.ntmps100
 go_wp2_with fail
 refine (in_any _ _ _ _).mono ?_
 rintro e w1 ⟨rfl, rfl⟩
 rw [h4]
 go_wp2_with fail
 refine bodyPost_ret (v := .tuple #[rnV rn0, .bool false]) (by simp [results, Tryz.results100, go_sem, rn0]) rfl ⟨rfl, ba (below2 _ _ _)⟩
set_option maxRecDepth 100000 in
set_option maxHeartbeats 1000000 in
theorem next_2s (r : Ru) (ph be mi wa : Int) (l0 l1 l2 te : Bool) (G : GoodRules r) (h4 : inR ph 0 4 = true) (w : World) : Calls Tryz.prog 100 #[rnV ⟨ph, be, mi, wa, true, l1, l2, te⟩, ruV r, .int .i64 2] w (RetNx none w) := by
 clear G
 go_enter Tryz.func100, Tryz.ntmps100
 go_wp2_with fail
 refine (in_any _ _ _ _).mono ?_
 rintro e w1 ⟨rfl, rfl⟩
 rw [h4]
 go_wp2_with fail
 refine bodyPost_ret (v := .tuple #[rnV rn0, .bool false]) (by simp [results, Tryz.results100, go_sem, rn0]) rfl ⟨rfl, ba (below2 _ _ _)⟩
set_option maxRecDepth 100000 in
set_option maxHeartbeats 1000000 in
theorem next_2 (r : Ru) (ph be mi wa : Int) (l0 l1 l2 te : Bool) (G : GoodRules r) (h4 : inR ph 0 4 = true) (w : World) : Calls Tryz.prog 100 #[rnV ⟨ph, be, mi, wa, false, l1, l2, te⟩, ruV r, .int .i64 2] w (RetNx (some (meet r ⟨ph, be, mi, wa, true, l1, l2, te⟩ 0)) w) := by
 have HG := Lib.hid G
 obtain ⟨u, hu⟩ : ∃ u, u = meet r ⟨ph, be, mi, wa, true, l1, l2, te⟩ 0 := ⟨_, rfl⟩
 have HU := Lib.hid hu
 rw [← hu]
 clear hu G
 go_enter Tryz.func100, Tryz.ntmps100
 go_wp2_with fail
 refine (in_any _ _ _ _).mono ?_
 rintro e w1 ⟨rfl, rfl⟩
 rw [h4]
 go_wp2_with fail
 generalize hW0 : ((w.alloc (.cells (rnA ⟨ph, be, mi, wa, true, l1, l2, te⟩) 147)).alloc (.cells (ruA r) 144)).alloc (.cells _ _) = W at *
 obtain ⟨hal, hB1, hB2, hB3, hWs⟩ := boxesM w _ _ _ _ W hW0.symm
 have HAL := Lib.hid hal
 have HB1 := Lib.hid hB1
 have HB2 := Lib.hid hB2
 have HB3 := Lib.hid hB3
 clear hW0 hal hB1 hB2 hB3 hWs
 refine (meet_any r ⟨ph, be, mi, wa, true, l1, l2, te⟩ 0 (by omega) HG.out _).mono ?_
 rintro e w1 ⟨rfl, hb⟩
 rw [← HU.out]
 have E1 := Lib.hid (blk_keep HB1.out hb (blk_lt HB1.out))
 have D3 := Lib.hid (blk_keep HB3.out hb (blk_lt HB3.out))
 have BB := Lib.hid (HAL.out.trans (hb.mono HAL.out.size))
 obtain ⟨f0, f1, f2, f3, f4, f5, f6, f7⟩ := rnf E1.out
 obtain ⟨g0, g1, g2, g3, g4, g5, g6, g7⟩ := rn8 E1.out
 have KV := set8 (u0 := .int .i64 u.ph) (u1 := .int .i64 u.be) (u2 := .int .i64 u.mi) (u3 := .int .i64 u.wa) (u4 := .bool u.l0) (u5 := .bool u.l1) (u6 := .bool u.l2) (u7 := .bool u.te) E1.out
 have E3 := Lib.hid (oth8 (u0 := .int .i64 u.ph) (u1 := .int .i64 u.be) (u2 := .int .i64 u.mi) (u3 := .int .i64 u.wa) (u4 := .bool u.l0) (u5 := .bool u.l1) (u6 := .bool u.l2) (u7 := .bool u.te) D3.out (show w.heap.size + 1 + 1 ≠ w.heap.size by omega))
 have HB := Lib.hid (below_set8 (u0 := .int .i64 u.ph) (u1 := .int .i64 u.be) (u2 := .int .i64 u.mi) (u3 := .int .i64 u.wa) (u4 := .bool u.l0) (u5 := .bool u.l1) (u6 := .bool u.l2) (u7 := .bool u.te) BB.out (Nat.le_refl w.heap.size))
 obtain ⟨x0, x1, x2, x3, x4, x5, x6, x7⟩ := rn8 (x := u) KV
 obtain ⟨y0, y1, y2, y3, y4, y5, y6, y7⟩ := rnf (x := rn0) E3.out
 obtain ⟨z0, z1, z2, z3, z4, z5, z6, z7⟩ := rn8 (x := rn0) E3.out
 clear hb HU KV
 go_wp2_with fail
 obtain ⟨h0, h1, h2, h3, h4, h5, h6, h7⟩ := rn8 (x := u) (set8 (u0 := .int .i64 (u).ph) (u1 := .int .i64 (u).be) (u2 := .int .i64 (u).mi) (u3 := .int .i64 (u).wa) (u4 := .bool (u).l0) (u5 := .bool (u).l1) (u6 := .bool (u).l2) (u7 := .bool (u).te) E3.out)
 refine bodyPost_ret (v := .tuple #[rnV u, .bool true]) (by simp [results, Tryz.results100, go_sem, h0, h1, h2, h3, h4, h5, h6, h7]) rfl ⟨rfl, ?_⟩
 exact below_set8 HB.out (by omega)
set_option maxRecDepth 100000 in
set_option maxHeartbeats 1000000 in
theorem next_3o (r : Ru) (ph be mi wa : Int) (l0 l1 l2 te : Bool) (G : GoodRules r) (h4 : inR ph 0 4 = false) (w : World) : Calls Tryz.prog 100 #[rnV ⟨ph, be, mi, wa, l0, l1, l2, te⟩, ruV r, .int .i64 3] w (RetNx none w) := by
 clear G
 go_enter Tryz.func100, Tryz.ntmps100
 go_wp2_with fail
 refine (in_any _ _ _ _).mono ?_
 rintro e w1 ⟨rfl, rfl⟩
 rw [h4]
 go_wp2_with fail
 refine bodyPost_ret (v := .tuple #[rnV rn0, .bool false]) (by simp [results, Tryz.results100, go_sem, rn0]) rfl ⟨rfl, ba (below2 _ _ _)⟩
set_option maxRecDepth 100000 in
set_option maxHeartbeats 1000000 in
theorem next_3s (r : Ru) (ph be mi wa : Int) (l0 l1 l2 te : Bool) (G : GoodRules r) (h4 : inR ph 0 4 = true) (w : World) : Calls Tryz.prog 100 #[rnV ⟨ph, be, mi, wa, false, l1, l2, te⟩, ruV r, .int .i64 3] w (RetNx none w) := by
 clear G
 go_enter Tryz.func100, Tryz.ntmps100
 go_wp2_with fail
 refine (in_any _ _ _ _).mono ?_
 rintro e w1 ⟨rfl, rfl⟩
 rw [h4]
 go_wp2_with fail
 refine bodyPost_ret (v := .tuple #[rnV rn0, .bool false]) (by simp [results, Tryz.results100, go_sem, rn0]) rfl ⟨rfl, ba (below2 _ _ _)⟩
set_option maxRecDepth 100000 in
set_option maxHeartbeats 1000000 in
theorem next_3n (r : Ru) (ph be mi wa : Int) (l0 l1 l2 te : Bool) (G : GoodRules r) (h4 : inR ph 0 4 = true) (hn : ¬ ph = 4) (w : World) : Calls Tryz.prog 100 #[rnV ⟨ph, be, mi, wa, true, l1, l2, te⟩, ruV r, .int .i64 3] w (RetNx (some ⟨ph, be, mi, wa, false, l1, l2, te⟩) w) := by
 have t1 : (ph == 4) = false := by simp [hn]
 clear G hn
 go_enter Tryz.func100, Tryz.ntmps100
 go_wp2_with fail
 refine (in_any _ _ _ _).mono ?_
 rintro e w1 ⟨rfl, rfl⟩
 rw [h4]
 go_wp2_with fail
 refine bodyPost_ret (v := .tuple #[rnV ⟨ph, be, mi, wa, false, l1, l2, te⟩, .bool true]) (by simp [results, Tryz.results100, go_sem]) rfl ⟨rfl, ba (below2 _ _ _)⟩
set_option maxRecDepth 100000 in
set_option maxHeartbeats 1000000 in
theorem next_3h (r : Ru) (be mi wa : Int) (l0 l1 l2 te : Bool) (G : GoodRules r) (hp : 1 ≤ be ∧ be ≤ 3) (hh : heldAt r ⟨4, be, mi, wa, false, l1, l2, te⟩ be = true) (w : World) : Calls Tryz.prog 100 #[rnV ⟨4, be, mi, wa, true, l1, l2, te⟩, ruV r, .int .i64 3] w (RetNx (some ⟨4, be, mi, wa, false, l1, l2, te⟩) w) := by
 have HP := Lib.hid hp
 have HH := Lib.hid hh
 clear G hp hh
 go_enter Tryz.func100, Tryz.ntmps100
 go_wp2_with fail
 refine (in_any _ _ _ _).mono ?_
 rintro e w1 ⟨rfl, rfl⟩
 rw [show inR 4 0 4 = true from rfl]
 go_wp2_with fail
 refine (held_any r ⟨4, be, mi, wa, false, l1, l2, te⟩ HP.out _).mono ?_
 rintro e w1 ⟨rfl, rfl⟩
 rw [HH.out]
 go_wp2_with fail
 refine bodyPost_ret (v := .tuple #[rnV ⟨4, be, mi, wa, false, l1, l2, te⟩, .bool true]) (by simp [results, Tryz.results100, go_sem]) rfl ⟨rfl, ba (ba (ba (below2 _ _ _)))⟩
set_option maxRecDepth 100000 in
set_option maxHeartbeats 1000000 in
theorem next_3u (r : Ru) (be mi wa : Int) (l0 l1 l2 te : Bool) (G : GoodRules r) (hp : 1 ≤ be ∧ be ≤ 3) (hh : heldAt r ⟨4, be, mi, wa, false, l1, l2, te⟩ be = false) (w : World) : Calls Tryz.prog 100 #[rnV ⟨4, be, mi, wa, true, l1, l2, te⟩, ruV r, .int .i64 3] w (RetNx (some ⟨be, 0, mi, 0, false, l1, l2, te⟩) w) := by
 have HP := Lib.hid hp
 have HH := Lib.hid hh
 clear G hp hh
 go_enter Tryz.func100, Tryz.ntmps100
 go_wp2_with fail
 refine (in_any _ _ _ _).mono ?_
 rintro e w1 ⟨rfl, rfl⟩
 rw [show inR 4 0 4 = true from rfl]
 go_wp2_with fail
 refine (held_any r ⟨4, be, mi, wa, false, l1, l2, te⟩ HP.out _).mono ?_
 rintro e w1 ⟨rfl, rfl⟩
 rw [HH.out]
 go_wp2_with fail
 refine bodyPost_ret (v := .tuple #[rnV ⟨be, 0, mi, 0, false, l1, l2, te⟩, .bool true]) (by simp [results, Tryz.results100, go_sem]) rfl ⟨rfl, ba (ba (ba (below2 _ _ _)))⟩
set_option maxRecDepth 100000 in
set_option maxHeartbeats 1000000 in
theorem next_4o (r : Ru) (ph be mi wa : Int) (l0 l1 l2 te : Bool) (G : GoodRules r) (h4 : inR ph 0 4 = false) (w : World) : Calls Tryz.prog 100 #[rnV ⟨ph, be, mi, wa, l0, l1, l2, te⟩, ruV r, .int .i64 4] w (RetNx none w) := by
 clear G
 go_enter Tryz.func100, Tryz.ntmps100
 go_wp2_with fail
 refine (in_any _ _ _ _).mono ?_
 rintro e w1 ⟨rfl, rfl⟩
 rw [h4]
 go_wp2_with fail
 refine bodyPost_ret (v := .tuple #[rnV rn0, .bool false]) (by simp [results, Tryz.results100, go_sem, rn0]) rfl ⟨rfl, ba (below2 _ _ _)⟩
set_option maxRecDepth 100000 in
set_option maxHeartbeats 1000000 in
theorem next_4s (r : Ru) (ph be mi wa : Int) (l0 l2 te : Bool) (G : GoodRules r) (h4 : inR ph 0 4 = true) (w : World) : Calls Tryz.prog 100 #[rnV ⟨ph, be, mi, wa, l0, true, l2, te⟩, ruV r, .int .i64 4] w (RetNx none w) := by
 clear G
 go_enter Tryz.func100, Tryz.ntmps100
 go_wp2_with fail
 refine (in_any _ _ _ _).mono ?_
 rintro e w1 ⟨rfl, rfl⟩
 rw [h4]
 go_wp2_with fail
 refine bodyPost_ret (v := .tuple #[rnV rn0, .bool false]) (by simp [results, Tryz.results100, go_sem, rn0]) rfl ⟨rfl, ba (below2 _ _ _)⟩
set_option maxRecDepth 100000 in
set_option maxHeartbeats 1000000 in
theorem next_4 (r : Ru) (ph be mi wa : Int) (l0 l2 te : Bool) (G : GoodRules r) (h4 : inR ph 0 4 = true) (w : World) : Calls Tryz.prog 100 #[rnV ⟨ph, be, mi, wa, l0, false, l2, te⟩, ruV r, .int .i64 4] w (RetNx (some (meet r ⟨ph, be, mi, wa, l0, true, l2, te⟩ 1)) w) := by
 have HG := Lib.hid G
 obtain ⟨u, hu⟩ : ∃ u, u = meet r ⟨ph, be, mi, wa, l0, true, l2, te⟩ 1 := ⟨_, rfl⟩
 have HU := Lib.hid hu
 rw [← hu]
 clear hu G
 go_enter Tryz.func100, Tryz.ntmps100
 go_wp2_with fail
 refine (in_any _ _ _ _).mono ?_
 rintro e w1 ⟨rfl, rfl⟩
 rw [h4]
 go_wp2_with fail
 generalize hW0 : ((w.alloc (.cells (rnA ⟨ph, be, mi, wa, l0, true, l2, te⟩) 147)).alloc (.cells (ruA r) 144)).alloc (.cells _ _) = W at *
 obtain ⟨hal, hB1, hB2, hB3, hWs⟩ := boxesM w _ _ _ _ W hW0.symm
 have HAL := Lib.hid hal
 have HB1 := Lib.hid hB1
 have HB2 := Lib.hid hB2
 have HB3 := Lib.hid hB3
 clear hW0 hal hB1 hB2 hB3 hWs
 refine (meet_any r ⟨ph, be, mi, wa, l0, true, l2, te⟩ 1 (by omega) HG.out _).mono ?_
 rintro e w1 ⟨rfl, hb⟩
 rw [← HU.out]
 have E1 := Lib.hid (blk_keep HB1.out hb (blk_lt HB1.out))
 have D3 := Lib.hid (blk_keep HB3.out hb (blk_lt HB3.out))
 have BB := Lib.hid (HAL.out.trans (hb.mono HAL.out.size))
 obtain ⟨f0, f1, f2, f3, f4, f5, f6, f7⟩ := rnf E1.out
 obtain ⟨g0, g1, g2, g3, g4, g5, g6, g7⟩ := rn8 E1.out
 have KV := set8 (u0 := .int .i64 u.ph) (u1 := .int .i64 u.be) (u2 := .int .i64 u.mi) (u3 := .int .i64 u.wa) (u4 := .bool u.l0) (u5 := .bool u.l1) (u6 := .bool u.l2) (u7 := .bool u.te) E1.out
 have E3 := Lib.hid (oth8 (u0 := .int .i64 u.ph) (u1 := .int .i64 u.be) (u2 := .int .i64 u.mi) (u3 := .int .i64 u.wa) (u4 := .bool u.l0) (u5 := .bool u.l1) (u6 := .bool u.l2) (u7 := .bool u.te) D3.out (show w.heap.size + 1 + 1 ≠ w.heap.size by omega))
 have HB := Lib.hid (below_set8 (u0 := .int .i64 u.ph) (u1 := .int .i64 u.be) (u2 := .int .i64 u.mi) (u3 := .int .i64 u.wa) (u4 := .bool u.l0) (u5 := .bool u.l1) (u6 := .bool u.l2) (u7 := .bool u.te) BB.out (Nat.le_refl w.heap.size))
 obtain ⟨x0, x1, x2, x3, x4, x5, x6, x7⟩ := rn8 (x := u) KV
 obtain ⟨y0, y1, y2, y3, y4, y5, y6, y7⟩ := rnf (x := rn0) E3.out
 obtain ⟨z0, z1, z2, z3, z4, z5, z6, z7⟩ := rn8 (x := rn0) E3.out
 clear hb HU KV
 go_wp2_with fail
 obtain ⟨h0, h1, h2, h3, h4, h5, h6, h7⟩ := rn8 (x := u) (set8 (u0 := .int .i64 (u).ph) (u1 := .int .i64 (u).be) (u2 := .int .i64 (u).mi) (u3 := .int .i64 (u).wa) (u4 := .bool (u).l0) (u5 := .bool (u).l1) (u6 := .bool (u).l2) (u7 := .bool (u).te) E3.out)
 refine bodyPost_ret (v := .tuple #[rnV u, .bool true]) (by simp [results, Tryz.results100, go_sem, h0, h1, h2, h3, h4, h5, h6, h7]) rfl ⟨rfl, ?_⟩
 exact below_set8 HB.out (by omega)
set_option maxRecDepth 100000 in
set_option maxHeartbeats 1000000 in
theorem next_5o (r : Ru) (ph be mi wa : Int) (l0 l1 l2 te : Bool) (G : GoodRules r) (h4 : inR ph 0 4 = false) (w : World) : Calls Tryz.prog 100 #[rnV ⟨ph, be, mi, wa, l0, l1, l2, te⟩, ruV r, .int .i64 5] w (RetNx none w) := by
 clear G
 go_enter Tryz.func100, Tryz.ntmps100
 go_wp2_with fail
 refine (in_any _ _ _ _).mono ?_
 rintro e w1 ⟨rfl, rfl⟩
 rw [h4]
 go_wp2_with fail
 refine bodyPost_ret (v := .tuple #[rnV rn0, .bool false]) (by simp [results, Tryz.results100, go_sem, rn0]) rfl ⟨rfl, ba (below2 _ _ _)⟩
set_option maxRecDepth 100000 in
set_option maxHeartbeats 1000000 in
theorem next_5s (r : Ru) (ph be mi wa : Int) (l0 l2 te : Bool) (G : GoodRules r) (h4 : inR ph 0 4 = true) (w : World) : Calls Tryz.prog 100 #[rnV ⟨ph, be, mi, wa, l0, false, l2, te⟩, ruV r, .int .i64 5] w (RetNx none w) := by
 clear G
 go_enter Tryz.func100, Tryz.ntmps100
 go_wp2_with fail
 refine (in_any _ _ _ _).mono ?_
 rintro e w1 ⟨rfl, rfl⟩
 rw [h4]
 go_wp2_with fail
 refine bodyPost_ret (v := .tuple #[rnV rn0, .bool false]) (by simp [results, Tryz.results100, go_sem, rn0]) rfl ⟨rfl, ba (below2 _ _ _)⟩
set_option maxRecDepth 100000 in
set_option maxHeartbeats 1000000 in
theorem next_5n (r : Ru) (ph be mi wa : Int) (l0 l2 te : Bool) (G : GoodRules r) (h4 : inR ph 0 4 = true) (hn : ¬ ph = 4) (w : World) : Calls Tryz.prog 100 #[rnV ⟨ph, be, mi, wa, l0, true, l2, te⟩, ruV r, .int .i64 5] w (RetNx (some ⟨ph, be, mi, wa, l0, false, l2, te⟩) w) := by
 have t1 : (ph == 4) = false := by simp [hn]
 clear G hn
 go_enter Tryz.func100, Tryz.ntmps100
 go_wp2_with fail
 refine (in_any _ _ _ _).mono ?_
 rintro e w1 ⟨rfl, rfl⟩
 rw [h4]
 go_wp2_with fail
 refine bodyPost_ret (v := .tuple #[rnV ⟨ph, be, mi, wa, l0, false, l2, te⟩, .bool true]) (by simp [results, Tryz.results100, go_sem]) rfl ⟨rfl, ba (below2 _ _ _)⟩
set_option maxRecDepth 100000 in
set_option maxHeartbeats 1000000 in
theorem next_5h (r : Ru) (be mi wa : Int) (l0 l2 te : Bool) (G : GoodRules r) (hp : 1 ≤ be ∧ be ≤ 3) (hh : heldAt r ⟨4, be, mi, wa, l0, false, l2, te⟩ be = true) (w : World) : Calls Tryz.prog 100 #[rnV ⟨4, be, mi, wa, l0, true, l2, te⟩, ruV r, .int .i64 5] w (RetNx (some ⟨4, be, mi, wa, l0, false, l2, te⟩) w) := by
 have HP := Lib.hid hp
 have HH := Lib.hid hh
 clear G hp hh
 go_enter Tryz.func100, Tryz.ntmps100
 go_wp2_with fail
 refine (in_any _ _ _ _).mono ?_
 rintro e w1 ⟨rfl, rfl⟩
 rw [show inR 4 0 4 = true from rfl]
 go_wp2_with fail
 refine (held_any r ⟨4, be, mi, wa, l0, false, l2, te⟩ HP.out _).mono ?_
 rintro e w1 ⟨rfl, rfl⟩
 rw [HH.out]
 go_wp2_with fail
 refine bodyPost_ret (v := .tuple #[rnV ⟨4, be, mi, wa, l0, false, l2, te⟩, .bool true]) (by simp [results, Tryz.results100, go_sem]) rfl ⟨rfl, ba (ba (ba (below2 _ _ _)))⟩
set_option maxRecDepth 100000 in
set_option maxHeartbeats 1000000 in
theorem next_5u (r : Ru) (be mi wa : Int) (l0 l2 te : Bool) (G : GoodRules r) (hp : 1 ≤ be ∧ be ≤ 3) (hh : heldAt r ⟨4, be, mi, wa, l0, false, l2, te⟩ be = false) (w : World) : Calls Tryz.prog 100 #[rnV ⟨4, be, mi, wa, l0, true, l2, te⟩, ruV r, .int .i64 5] w (RetNx (some ⟨be, 0, mi, 0, l0, false, l2, te⟩) w) := by
 have HP := Lib.hid hp
 have HH := Lib.hid hh
 clear G hp hh
 go_enter Tryz.func100, Tryz.ntmps100
 go_wp2_with fail
 refine (in_any _ _ _ _).mono ?_
 rintro e w1 ⟨rfl, rfl⟩
 rw [show inR 4 0 4 = true from rfl]
 go_wp2_with fail
 refine (held_any r ⟨4, be, mi, wa, l0, false, l2, te⟩ HP.out _).mono ?_
 rintro e w1 ⟨rfl, rfl⟩
 rw [HH.out]
 go_wp2_with fail
 refine bodyPost_ret (v := .tuple #[rnV ⟨be, 0, mi, 0, l0, false, l2, te⟩, .bool true]) (by simp [results, Tryz.results100, go_sem]) rfl ⟨rfl, ba (ba (ba (below2 _ _ _)))⟩
set_option maxRecDepth 100000 in
set_option maxHeartbeats 1000000 in
theorem next_6o (r : Ru) (ph be mi wa : Int) (l0 l1 l2 te : Bool) (G : GoodRules r) (h4 : inR ph 0 4 = false) (w : World) : Calls Tryz.prog 100 #[rnV ⟨ph, be, mi, wa, l0, l1, l2, te⟩, ruV r, .int .i64 6] w (RetNx none w) := by
 clear G
 go_enter Tryz.func100, Tryz.ntmps100
 go_wp2_with fail
 refine (in_any _ _ _ _).mono ?_
 rintro e w1 ⟨rfl, rfl⟩
 rw [h4]
 go_wp2_with fail
 refine bodyPost_ret (v := .tuple #[rnV rn0, .bool false]) (by simp [results, Tryz.results100, go_sem, rn0]) rfl ⟨rfl, ba (below2 _ _ _)⟩
set_option maxRecDepth 100000 in
set_option maxHeartbeats 1000000 in
theorem next_6s (r : Ru) (ph be mi wa : Int) (l0 l1 te : Bool) (G : GoodRules r) (h4 : inR ph 0 4 = true) (w : World) : Calls Tryz.prog 100 #[rnV ⟨ph, be, mi, wa, l0, l1, true, te⟩, ruV r, .int .i64 6] w (RetNx none w) := by
 clear G
 go_enter Tryz.func100, Tryz.ntmps100
 go_wp2_with fail
 refine (in_any _ _ _ _).mono ?_
 rintro e w1 ⟨rfl, rfl⟩
 rw [h4]
 go_wp2_with fail
 refine bodyPost_ret (v := .tuple #[rnV rn0, .bool false]) (by simp [results, Tryz.results100, go_sem, rn0]) rfl ⟨rfl, ba (below2 _ _ _)⟩
set_option maxRecDepth 100000 in
set_option maxHeartbeats 1000000 in
theorem next_6 (r : Ru) (ph be mi wa : Int) (l0 l1 te : Bool) (G : GoodRules r) (h4 : inR ph 0 4 = true) (w : World) : Calls Tryz.prog 100 #[rnV ⟨ph, be, mi, wa, l0, l1, false, te⟩, ruV r, .int .i64 6] w (RetNx (some (meet r ⟨ph, be, mi, wa, l0, l1, true, te⟩ 2)) w) := by
 have HG := Lib.hid G
 obtain ⟨u, hu⟩ : ∃ u, u = meet r ⟨ph, be, mi, wa, l0, l1, true, te⟩ 2 := ⟨_, rfl⟩
 have HU := Lib.hid hu
 rw [← hu]
 clear hu G
 go_enter Tryz.func100, Tryz.ntmps100
 go_wp2_with fail
 refine (in_any _ _ _ _).mono ?_
 rintro e w1 ⟨rfl, rfl⟩
 rw [h4]
 go_wp2_with fail
 generalize hW0 : ((w.alloc (.cells (rnA ⟨ph, be, mi, wa, l0, l1, true, te⟩) 147)).alloc (.cells (ruA r) 144)).alloc (.cells _ _) = W at *
 obtain ⟨hal, hB1, hB2, hB3, hWs⟩ := boxesM w _ _ _ _ W hW0.symm
 have HAL := Lib.hid hal
 have HB1 := Lib.hid hB1
 have HB2 := Lib.hid hB2
 have HB3 := Lib.hid hB3
 clear hW0 hal hB1 hB2 hB3 hWs
 refine (meet_any r ⟨ph, be, mi, wa, l0, l1, true, te⟩ 2 (by omega) HG.out _).mono ?_
 rintro e w1 ⟨rfl, hb⟩
 rw [← HU.out]
 have E1 := Lib.hid (blk_keep HB1.out hb (blk_lt HB1.out))
 have D3 := Lib.hid (blk_keep HB3.out hb (blk_lt HB3.out))
 have BB := Lib.hid (HAL.out.trans (hb.mono HAL.out.size))
 obtain ⟨f0, f1, f2, f3, f4, f5, f6, f7⟩ := rnf E1.out
 obtain ⟨g0, g1, g2, g3, g4, g5, g6, g7⟩ := rn8 E1.out
 have KV := set8 (u0 := .int .i64 u.ph) (u1 := .int .i64 u.be) (u2 := .int .i64 u.mi) (u3 := .int .i64 u.wa) (u4 := .bool u.l0) (u5 := .bool u.l1) (u6 := .bool u.l2) (u7 := .bool u.te) E1.out
 have E3 := Lib.hid (oth8 (u0 := .int .i64 u.ph) (u1 := .int .i64 u.be) (u2 := .int .i64 u.mi) (u3 := .int .i64 u.wa) (u4 := .bool u.l0) (u5 := .bool u.l1) (u6 := .bool u.l2) (u7 := .bool u.te) D3.out (show w.heap.size + 1 + 1 ≠ w.heap.size by omega))
 have HB := Lib.hid (below_set8 (u0 := .int .i64 u.ph) (u1 := .int .i64 u.be) (u2 := .int .i64 u.mi) (u3 := .int .i64 u.wa) (u4 := .bool u.l0) (u5 := .bool u.l1) (u6 := .bool u.l2) (u7 := .bool u.te) BB.out (Nat.le_refl w.heap.size))
 obtain ⟨x0, x1, x2, x3, x4, x5, x6, x7⟩ := rn8 (x := u) KV
 obtain ⟨y0, y1, y2, y3, y4, y5, y6, y7⟩ := rnf (x := rn0) E3.out
 obtain ⟨z0, z1, z2, z3, z4, z5, z6, z7⟩ := rn8 (x := rn0) E3.out
 clear hb HU KV
 go_wp2_with fail
 obtain ⟨h0, h1, h2, h3, h4, h5, h6, h7⟩ := rn8 (x := u) (set8 (u0 := .int .i64 (u).ph) (u1 := .int .i64 (u).be) (u2 := .int .i64 (u).mi) (u3 := .int .i64 (u).wa) (u4 := .bool (u).l0) (u5 := .bool (u).l1) (u6 := .bool (u).l2) (u7 := .bool (u).te) E3.out)
 refine bodyPost_ret (v := .tuple #[rnV u, .bool true]) (by simp [results, Tryz.results100, go_sem, h0, h1, h2, h3, h4, h5, h6, h7]) rfl ⟨rfl, ?_⟩
 exact below_set8 HB.out (by omega)
set_option maxRecDepth 100000 in
set_option maxHeartbeats 1000000 in
theorem next_7o (r : Ru) (ph be mi wa : Int) (l0 l1 l2 te : Bool) (G : GoodRules r) (h4 : inR ph 0 4 = false) (w : World) : Calls Tryz.prog 100 #[rnV ⟨ph, be, mi, wa, l0, l1, l2, te⟩, ruV r, .int .i64 7] w (RetNx none w) := by
 clear G
 go_enter Tryz.func100, Tryz.ntmps100
 go_wp2_with fail
 refine (in_any _ _ _ _).mono ?_
 rintro e w1 ⟨rfl, rfl⟩
 rw [h4]
 go_wp2_with fail
 refine bodyPost_ret (v := .tuple #[rnV rn0, .bool false]) (by simp [results, Tryz.results100, go_sem, rn0]) rfl ⟨rfl, ba (below2 _ _ _)⟩
set_option maxRecDepth 100000 in
set_option maxHeartbeats 1000000 in
theorem next_7s (r : Ru) (ph be mi wa : Int) (l0 l1 te : Bool) (G : GoodRules r) (h4 : inR ph 0 4 = true) (w : World) : Calls Tryz.prog 100 #[rnV ⟨ph, be, mi, wa, l0, l1, false, te⟩, ruV r, .int .i64 7] w (RetNx none w) := by
 clear G
 go_enter Tryz.func100, Tryz.ntmps100
 go_wp2_with fail
 refine (in_any _ _ _ _).mono ?_
 rintro e w1 ⟨rfl, rfl⟩
 rw [h4]
 go_wp2_with fail
 refine bodyPost_ret (v := .tuple #[rnV rn0, .bool false]) (by simp [results, Tryz.results100, go_sem, rn0]) rfl ⟨rfl, ba (below2 _ _ _)⟩
set_option maxRecDepth 100000 in
set_option maxHeartbeats 1000000 in
theorem next_7n (r : Ru) (ph be mi wa : Int) (l0 l1 te : Bool) (G : GoodRules r) (h4 : inR ph 0 4 = true) (hn : ¬ ph = 4) (w : World) : Calls Tryz.prog 100 #[rnV ⟨ph, be, mi, wa, l0, l1, true, te⟩, ruV r, .int .i64 7] w (RetNx (some ⟨ph, be, mi, wa, l0, l1, false, te⟩) w) := by
 have t1 : (ph == 4) = false := by simp [hn]
 clear G hn
 go_enter Tryz.func100, Tryz.ntmps100
 go_wp2_with fail
 refine (in_any _ _ _ _).mono ?_
 rintro e w1 ⟨rfl, rfl⟩
 rw [h4]
 go_wp2_with fail
 refine bodyPost_ret (v := .tuple #[rnV ⟨ph, be, mi, wa, l0, l1, false, te⟩, .bool true]) (by simp [results, Tryz.results100, go_sem]) rfl ⟨rfl, ba (below2 _ _ _)⟩
set_option maxRecDepth 100000 in
set_option maxHeartbeats 1000000 in
theorem next_7h (r : Ru) (be mi wa : Int) (l0 l1 te : Bool) (G : GoodRules r) (hp : 1 ≤ be ∧ be ≤ 3) (hh : heldAt r ⟨4, be, mi, wa, l0, l1, false, te⟩ be = true) (w : World) : Calls Tryz.prog 100 #[rnV ⟨4, be, mi, wa, l0, l1, true, te⟩, ruV r, .int .i64 7] w (RetNx (some ⟨4, be, mi, wa, l0, l1, false, te⟩) w) := by
 have HP := Lib.hid hp
 have HH := Lib.hid hh
 clear G hp hh
 go_enter Tryz.func100, Tryz.ntmps100
 go_wp2_with fail
 refine (in_any _ _ _ _).mono ?_
 rintro e w1 ⟨rfl, rfl⟩
 rw [show inR 4 0 4 = true from rfl]
 go_wp2_with fail
 refine (held_any r ⟨4, be, mi, wa, l0, l1, false, te⟩ HP.out _).mono ?_
 rintro e w1 ⟨rfl, rfl⟩
 rw [HH.out]
 go_wp2_with fail
 refine bodyPost_ret (v := .tuple #[rnV ⟨4, be, mi, wa, l0, l1, false, te⟩, .bool true]) (by simp [results, Tryz.results100, go_sem]) rfl ⟨rfl, ba (ba (ba (below2 _ _ _)))⟩
set_option maxRecDepth 100000 in
set_option maxHeartbeats 1000000 in
theorem next_7u (r : Ru) (be mi wa : Int) (l0 l1 te : Bool) (G : GoodRules r) (hp : 1 ≤ be ∧ be ≤ 3) (hh : heldAt r ⟨4, be, mi, wa, l0, l1, false, te⟩ be = false) (w : World) : Calls Tryz.prog 100 #[rnV ⟨4, be, mi, wa, l0, l1, true, te⟩, ruV r, .int .i64 7] w (RetNx (some ⟨be, 0, mi, 0, l0, l1, false, te⟩) w) := by
 have HP := Lib.hid hp
 have HH := Lib.hid hh
 clear G hp hh
 go_enter Tryz.func100, Tryz.ntmps100
 go_wp2_with fail
 refine (in_any _ _ _ _).mono ?_
 rintro e w1 ⟨rfl, rfl⟩
 rw [show inR 4 0 4 = true from rfl]
 go_wp2_with fail
 refine (held_any r ⟨4, be, mi, wa, l0, l1, false, te⟩ HP.out _).mono ?_
 rintro e w1 ⟨rfl, rfl⟩
 rw [HH.out]
 go_wp2_with fail
 refine bodyPost_ret (v := .tuple #[rnV ⟨be, 0, mi, 0, l0, l1, false, te⟩, .bool true]) (by simp [results, Tryz.results100, go_sem]) rfl ⟨rfl, ba (ba (ba (below2 _ _ _)))⟩
end Go.Proofs.YthhnkobkdhjfgaaGreat

namespace Go.Proofs.YthhnkobkdhjfgaaGreat
open Go.RowKit

theorem next_any (r : Ru) (x : Rn) (e : Int) (G : GoodRules r) (hR : Right r x) (he : 0 ≤ e ∧ e ≤ 7) (w : World) : Calls Tryz.prog 100 #[rnV x, ruV r, .int .i64 e] w (RetNx (next r x e) w) := by
 obtain ⟨ph, be, mi, wa, l0, l1, l2, te⟩ := x
 rcases (show e = 0 ∨ e = 1 ∨ e = 2 ∨ e = 3 ∨ e = 4 ∨ e = 5 ∨ e = 6 ∨ e = 7 by omega) with rfl | rfl | rfl | rfl | rfl | rfl | rfl | rfl
 ·
  exact next_0 r ph be mi wa l0 l1 l2 te G hR w
 ·
  by_cases h0 : ph = 0
  ·
   have e1 : next r ⟨ph, be, mi, wa, l0, l1, l2, te⟩ 1 = some (begin r ⟨ph, be, mi, wa, l0, l1, l2, false⟩ 1) := by unfold next; rw [if_neg (by decide), if_pos rfl, if_pos h0]
   rw [e1]
   exact next_1 r ph be mi wa l0 l1 l2 te G h0 w
  ·
   have e1 : next r ⟨ph, be, mi, wa, l0, l1, l2, te⟩ 1 = none := by unfold next; rw [if_neg (by decide), if_pos rfl, if_neg h0]
   rw [e1]
   exact next_1n r ph be mi wa l0 l1 l2 te G h0 w
 ·
  cases h4 : inR ph 0 4 with
  | false =>
   have e1 : next r ⟨ph, be, mi, wa, l0, l1, l2, te⟩ 2 = none := by unfold next; rw [if_neg (by decide), if_neg (by decide), if_pos (Or.inl h4)]
   rw [e1]
   exact next_2o r ph be mi wa l0 l1 l2 te G h4 w
  | true =>
   cases l0 with
   | true =>
    have e1 : next r ⟨ph, be, mi, wa, true, l1, l2, te⟩ 2 = none := by unfold next; rw [if_neg (by decide), if_neg (by decide), if_pos (Or.inr (by rfl))]
    rw [e1]
    exact next_2s r ph be mi wa true l1 l2 te G h4 w
   | false =>
    have hno : ¬ (inR ph 0 4 = false ∨ Rn.lost ⟨ph, be, mi, wa, false, l1, l2, te⟩ (dOf 2) = lostOf 2) := by
     rw [h4]
     rintro (h | h)
     ·
      cases h
     ·
      exact absurd h (by show ¬ false = true; decide)
    have e1 : next r ⟨ph, be, mi, wa, false, l1, l2, te⟩ 2 = some (meet r ⟨ph, be, mi, wa, true, l1, l2, te⟩ 0) := by unfold next; rw [if_neg (by decide), if_neg (by decide), if_neg hno, if_pos (by decide)]; rfl
    rw [e1]
    exact next_2 r ph be mi wa true l1 l2 te G h4 w
 ·
  cases h4 : inR ph 0 4 with
  | false =>
   have e1 : next r ⟨ph, be, mi, wa, l0, l1, l2, te⟩ 3 = none := by unfold next; rw [if_neg (by decide), if_neg (by decide), if_pos (Or.inl h4)]
   rw [e1]
   exact next_3o r ph be mi wa l0 l1 l2 te G h4 w
  | true =>
   cases l0 with
   | false =>
    have e1 : next r ⟨ph, be, mi, wa, false, l1, l2, te⟩ 3 = none := by unfold next; rw [if_neg (by decide), if_neg (by decide), if_pos (Or.inr (by rfl))]
    rw [e1]
    exact next_3s r ph be mi wa true l1 l2 te G h4 w
   | true =>
    have hno : ¬ (inR ph 0 4 = false ∨ Rn.lost ⟨ph, be, mi, wa, true, l1, l2, te⟩ (dOf 3) = lostOf 3) := by
     rw [h4]
     rintro (h | h)
     ·
      cases h
     ·
      exact absurd h (by show ¬ true = false; decide)
    have e1 : next r ⟨ph, be, mi, wa, true, l1, l2, te⟩ 3 = some (unheld r ⟨ph, be, mi, wa, false, l1, l2, te⟩) := by unfold next; rw [if_neg (by decide), if_neg (by decide), if_neg hno, if_neg (by decide)]; rfl
    rw [e1]
    by_cases hp : ph = 4
    ·
     subst hp
     have hbe : 1 ≤ be ∧ be ≤ 3 := by
      rcases hR with ⟨_, h, _⟩ | ⟨_, _, h, _⟩ | ⟨_, _, _, h⟩
      ·
       exact h
      ·
       have : (1 : Int) ≤ 4 ∧ (4 : Int) ≤ 3 := h
       omega
      ·
       have : (4 : Int) = 0 ∨ (4 : Int) = 5 ∨ (4 : Int) = 6 ∨ (4 : Int) = 7 := h
       omega
     cases hh : heldAt r ⟨4, be, mi, wa, false, l1, l2, te⟩ be with
     | true =>
      have e2 : unheld r ⟨4, be, mi, wa, false, l1, l2, te⟩ = ⟨4, be, mi, wa, false, l1, l2, te⟩ := by unfold unheld; rw [if_neg (by rintro ⟨_, h⟩; rw [show heldAt r ⟨4, be, mi, wa, false, l1, l2, te⟩ be = true from hh] at h; cases h)]
      rw [e2]
      exact next_3h r be mi wa true l1 l2 te G hbe hh w
     | false =>
      have e2 : unheld r ⟨4, be, mi, wa, false, l1, l2, te⟩ = ⟨be, 0, mi, 0, false, l1, l2, te⟩ := by unfold unheld; rw [if_pos ⟨rfl, hh⟩]
      rw [e2]
      exact next_3u r be mi wa true l1 l2 te G hbe hh w
    ·
     have e2 : unheld r ⟨ph, be, mi, wa, false, l1, l2, te⟩ = ⟨ph, be, mi, wa, false, l1, l2, te⟩ := by unfold unheld; rw [if_neg (fun h => hp h.1)]
     rw [e2]
     exact next_3n r ph be mi wa true l1 l2 te G h4 hp w
 ·
  cases h4 : inR ph 0 4 with
  | false =>
   have e1 : next r ⟨ph, be, mi, wa, l0, l1, l2, te⟩ 4 = none := by unfold next; rw [if_neg (by decide), if_neg (by decide), if_pos (Or.inl h4)]
   rw [e1]
   exact next_4o r ph be mi wa l0 l1 l2 te G h4 w
  | true =>
   cases l1 with
   | true =>
    have e1 : next r ⟨ph, be, mi, wa, l0, true, l2, te⟩ 4 = none := by unfold next; rw [if_neg (by decide), if_neg (by decide), if_pos (Or.inr (by rfl))]
    rw [e1]
    exact next_4s r ph be mi wa l0 l2 te G h4 w
   | false =>
    have hno : ¬ (inR ph 0 4 = false ∨ Rn.lost ⟨ph, be, mi, wa, l0, false, l2, te⟩ (dOf 4) = lostOf 4) := by
     rw [h4]
     rintro (h | h)
     ·
      cases h
     ·
      exact absurd h (by show ¬ false = true; decide)
    have e1 : next r ⟨ph, be, mi, wa, l0, false, l2, te⟩ 4 = some (meet r ⟨ph, be, mi, wa, l0, true, l2, te⟩ 1) := by unfold next; rw [if_neg (by decide), if_neg (by decide), if_neg hno, if_pos (by decide)]; rfl
    rw [e1]
    exact next_4 r ph be mi wa l0 l2 te G h4 w
 ·
  cases h4 : inR ph 0 4 with
  | false =>
   have e1 : next r ⟨ph, be, mi, wa, l0, l1, l2, te⟩ 5 = none := by unfold next; rw [if_neg (by decide), if_neg (by decide), if_pos (Or.inl h4)]
   rw [e1]
   exact next_5o r ph be mi wa l0 l1 l2 te G h4 w
  | true =>
   cases l1 with
   | false =>
    have e1 : next r ⟨ph, be, mi, wa, l0, false, l2, te⟩ 5 = none := by unfold next; rw [if_neg (by decide), if_neg (by decide), if_pos (Or.inr (by rfl))]
    rw [e1]
    exact next_5s r ph be mi wa l0 l2 te G h4 w
   | true =>
    have hno : ¬ (inR ph 0 4 = false ∨ Rn.lost ⟨ph, be, mi, wa, l0, true, l2, te⟩ (dOf 5) = lostOf 5) := by
     rw [h4]
     rintro (h | h)
     ·
      cases h
     ·
      exact absurd h (by show ¬ true = false; decide)
    have e1 : next r ⟨ph, be, mi, wa, l0, true, l2, te⟩ 5 = some (unheld r ⟨ph, be, mi, wa, l0, false, l2, te⟩) := by unfold next; rw [if_neg (by decide), if_neg (by decide), if_neg hno, if_neg (by decide)]; rfl
    rw [e1]
    by_cases hp : ph = 4
    ·
     subst hp
     have hbe : 1 ≤ be ∧ be ≤ 3 := by
      rcases hR with ⟨_, h, _⟩ | ⟨_, _, h, _⟩ | ⟨_, _, _, h⟩
      ·
       exact h
      ·
       have : (1 : Int) ≤ 4 ∧ (4 : Int) ≤ 3 := h
       omega
      ·
       have : (4 : Int) = 0 ∨ (4 : Int) = 5 ∨ (4 : Int) = 6 ∨ (4 : Int) = 7 := h
       omega
     cases hh : heldAt r ⟨4, be, mi, wa, l0, false, l2, te⟩ be with
     | true =>
      have e2 : unheld r ⟨4, be, mi, wa, l0, false, l2, te⟩ = ⟨4, be, mi, wa, l0, false, l2, te⟩ := by unfold unheld; rw [if_neg (by rintro ⟨_, h⟩; rw [show heldAt r ⟨4, be, mi, wa, l0, false, l2, te⟩ be = true from hh] at h; cases h)]
      rw [e2]
      exact next_5h r be mi wa l0 l2 te G hbe hh w
     | false =>
      have e2 : unheld r ⟨4, be, mi, wa, l0, false, l2, te⟩ = ⟨be, 0, mi, 0, l0, false, l2, te⟩ := by unfold unheld; rw [if_pos ⟨rfl, hh⟩]
      rw [e2]
      exact next_5u r be mi wa l0 l2 te G hbe hh w
    ·
     have e2 : unheld r ⟨ph, be, mi, wa, l0, false, l2, te⟩ = ⟨ph, be, mi, wa, l0, false, l2, te⟩ := by unfold unheld; rw [if_neg (fun h => hp h.1)]
     rw [e2]
     exact next_5n r ph be mi wa l0 l2 te G h4 hp w
 ·
  cases h4 : inR ph 0 4 with
  | false =>
   have e1 : next r ⟨ph, be, mi, wa, l0, l1, l2, te⟩ 6 = none := by unfold next; rw [if_neg (by decide), if_neg (by decide), if_pos (Or.inl h4)]
   rw [e1]
   exact next_6o r ph be mi wa l0 l1 l2 te G h4 w
  | true =>
   cases l2 with
   | true =>
    have e1 : next r ⟨ph, be, mi, wa, l0, l1, true, te⟩ 6 = none := by unfold next; rw [if_neg (by decide), if_neg (by decide), if_pos (Or.inr (by rfl))]
    rw [e1]
    exact next_6s r ph be mi wa l0 l1 te G h4 w
   | false =>
    have hno : ¬ (inR ph 0 4 = false ∨ Rn.lost ⟨ph, be, mi, wa, l0, l1, false, te⟩ (dOf 6) = lostOf 6) := by
     rw [h4]
     rintro (h | h)
     ·
      cases h
     ·
      exact absurd h (by show ¬ false = true; decide)
    have e1 : next r ⟨ph, be, mi, wa, l0, l1, false, te⟩ 6 = some (meet r ⟨ph, be, mi, wa, l0, l1, true, te⟩ 2) := by unfold next; rw [if_neg (by decide), if_neg (by decide), if_neg hno, if_pos (by decide)]; rfl
    rw [e1]
    exact next_6 r ph be mi wa l0 l1 te G h4 w
 ·
  cases h4 : inR ph 0 4 with
  | false =>
   have e1 : next r ⟨ph, be, mi, wa, l0, l1, l2, te⟩ 7 = none := by unfold next; rw [if_neg (by decide), if_neg (by decide), if_pos (Or.inl h4)]
   rw [e1]
   exact next_7o r ph be mi wa l0 l1 l2 te G h4 w
  | true =>
   cases l2 with
   | false =>
    have e1 : next r ⟨ph, be, mi, wa, l0, l1, false, te⟩ 7 = none := by unfold next; rw [if_neg (by decide), if_neg (by decide), if_pos (Or.inr (by rfl))]
    rw [e1]
    exact next_7s r ph be mi wa l0 l1 te G h4 w
   | true =>
    have hno : ¬ (inR ph 0 4 = false ∨ Rn.lost ⟨ph, be, mi, wa, l0, l1, true, te⟩ (dOf 7) = lostOf 7) := by
     rw [h4]
     rintro (h | h)
     ·
      cases h
     ·
      exact absurd h (by show ¬ true = false; decide)
    have e1 : next r ⟨ph, be, mi, wa, l0, l1, true, te⟩ 7 = some (unheld r ⟨ph, be, mi, wa, l0, l1, false, te⟩) := by unfold next; rw [if_neg (by decide), if_neg (by decide), if_neg hno, if_neg (by decide)]; rfl
    rw [e1]
    by_cases hp : ph = 4
    ·
     subst hp
     have hbe : 1 ≤ be ∧ be ≤ 3 := by
      rcases hR with ⟨_, h, _⟩ | ⟨_, _, h, _⟩ | ⟨_, _, _, h⟩
      ·
       exact h
      ·
       have : (1 : Int) ≤ 4 ∧ (4 : Int) ≤ 3 := h
       omega
      ·
       have : (4 : Int) = 0 ∨ (4 : Int) = 5 ∨ (4 : Int) = 6 ∨ (4 : Int) = 7 := h
       omega
     cases hh : heldAt r ⟨4, be, mi, wa, l0, l1, false, te⟩ be with
     | true =>
      have e2 : unheld r ⟨4, be, mi, wa, l0, l1, false, te⟩ = ⟨4, be, mi, wa, l0, l1, false, te⟩ := by unfold unheld; rw [if_neg (by rintro ⟨_, h⟩; rw [show heldAt r ⟨4, be, mi, wa, l0, l1, false, te⟩ be = true from hh] at h; cases h)]
      rw [e2]
      exact next_7h r be mi wa l0 l1 te G hbe hh w
     | false =>
      have e2 : unheld r ⟨4, be, mi, wa, l0, l1, false, te⟩ = ⟨be, 0, mi, 0, l0, l1, false, te⟩ := by unfold unheld; rw [if_pos ⟨rfl, hh⟩]
      rw [e2]
      exact next_7u r be mi wa l0 l1 te G hbe hh w
    ·
     have e2 : unheld r ⟨ph, be, mi, wa, l0, l1, false, te⟩ = ⟨ph, be, mi, wa, l0, l1, false, te⟩ := by unfold unheld; rw [if_neg (fun h => hp h.1)]
     rw [e2]
     exact next_7n r ph be mi wa l0 l1 te G h4 hp w

def okRow (r : Ru) (i : Nat) : Nat → Bool
 | 0 => inR (r.mn ((i : Int) + 1)) 1 256
 | d + 1 => okRow r i d && inR (r.tb ((i : Int) + 1) d) 0 3
def okUp (r : Ru) : Nat → Bool
 | 0 => inR r.pa 0 256
 | i + 1 => okUp r i && okRow r i 3
theorem okUp_three (r : Ru) : okUp r 3 = rulesOk r := by
 show (((inR r.pa 0 256 && (((inR r.m0 1 256 && inR r.t00 0 3) && inR r.t01 0 3) && inR r.t02 0 3)) && (((inR r.m1 1 256 && inR r.t10 0 3) && inR r.t11 0 3) && inR r.t12 0 3)) && (((inR r.m2 1 256 && inR r.t20 0 3) && inR r.t21 0 3) && inR r.t22 0 3)) = rulesOk r
 unfold rulesOk
 simp only [Bool.and_assoc]
def errRules (r : Ru) : Int := if rulesOk r then 0 else 1
theorem run_index3i (t0 t1 t2 : Int) (d : Nat) (hd : d < 3) (w : World) : (Instr.index 141 (.agg #[.int .i64 t0, .int .i64 t1, .int .i64 t2]) (.int .i64 d)).run Tryz.prog w = .ok (.int .i64 (if d = 0 then t0 else if d = 1 then t1 else t2)) w := by
 rcases (show d = 0 ∨ d = 1 ∨ d = 2 by omega) with rfl | rfl | rfl
 ·
  exact (show (Instr.index 141 (.agg #[.int .i64 t0, .int .i64 t1, .int .i64 t2]) (.int .i64 0)).run Tryz.prog w = .ok (.int .i64 t0) w by kernel_rfl)
 ·
  exact (show (Instr.index 141 (.agg #[.int .i64 t0, .int .i64 t1, .int .i64 t2]) (.int .i64 1)).run Tryz.prog w = .ok (.int .i64 t1) w by kernel_rfl)
 ·
  exact (show (Instr.index 141 (.agg #[.int .i64 t0, .int .i64 t1, .int .i64 t2]) (.int .i64 2)).run Tryz.prog w = .ok (.int .i64 t2) w by kernel_rfl)
theorem box1 (w : World) (cs : Array Value) (T : Nat) (W : World) (hW : W = w.alloc (.cells cs T)) : Below w.heap.size w W ∧ W.heap[w.heap.size]? = some (.cells cs T (0, 0)) := by
 subst hW
 exact ⟨below1 _ _, blk_new _ _ _⟩
set_option maxRecDepth 100000 in
set_option maxHeartbeats 1000000 in
theorem checkRules_any (r : Ru) (w : World) : Calls Tryz.prog 98 #[ruV r] w (RetIntS (errRules r) (w.alloc (ruO r))) := by
 go_enter Tryz.func98, Tryz.ntmps98
 go_wp2_with fail
 refine (in_any _ _ _ _).mono ?_
 rintro e w1 ⟨rfl, rfl⟩
 go_wp2_with fail
 have H0 : Hid (okUp r 0 = inR r.pa 0 256) := rfl
 generalize inR r.pa 0 256 = b0 at *
 generalize hW0 : w.alloc (.cells (ruA r) 144) = W at *
 obtain ⟨hal, hB1⟩ := box1 w _ _ W hW0.symm
 have HB1 := Lib.hid hB1
 have HW0 := Lib.hid hW0
 clear hal hB1 hW0
 go_loopw [3, 10] (fun b iv wr => ∃ (i : Nat) (ok : Bool), i ≤ 3 ∧ b = .bool ok ∧ iv = .int .i64 i ∧ wr = W ∧ Hid (okUp r i = ok))
  (fun _ iv _ => 3 - (intOf iv).toNat)
 case atStart => exact ⟨0, b0, by omega, rfl, rfl, rfl, H0⟩
 case round =>
  obtain ⟨i, ok, hi, rfl, rfl, rfl, HO⟩ := hrel
  by_cases hlt : i < 3
  ·
   have hlt' : (i : Int) < 3 := by omega
   have hi0 : (0 : Int) ≤ i := by omega
   have HLT := Lib.hid hlt
   have k8 := blk_cell HB1.out _ _ (ruA_mn r i hlt)
   have c0 := blk_cell HB1.out _ _ (ruA_tb r i 0 hlt (by omega))
   have c1 := blk_cell HB1.out _ _ (ruA_tb r i 1 hlt (by omega))
   have c2 := blk_cell HB1.out _ _ (ruA_tb r i 2 hlt (by omega))
   rw [Nat.add_zero] at c0
   have H1 : Hid (okRow r i 0 = inR (r.mn ((i : Int) + 1)) 1 256) := rfl
   have HT : Hid (∀ d, d < 3 → (if d = 0 then r.tb ((i : Int) + 1) 0 else if d = 1 then r.tb ((i : Int) + 1) 1 else r.tb ((i : Int) + 1) 2) = r.tb ((i : Int) + 1) d) := fun d hd => by
    rcases (show d = 0 ∨ d = 1 ∨ d = 2 by omega) with rfl | rfl | rfl <;> rfl
   generalize hT0 : r.tb ((i : Int) + 1) 0 = t0 at *
   generalize hT1 : r.tb ((i : Int) + 1) 1 = t1 at *
   generalize hT2 : r.tb ((i : Int) + 1) 2 = t2 at *
   generalize r.mn ((i : Int) + 1) = m at *
   clear hT0 hT1 hT2 hlt
   cases ok with
   | true =>
    go_wp2_with fail
    refine (in_any _ _ _ _).mono ?_
    rintro e w1 ⟨rfl, rfl⟩
    go_wp2_with fail
    have HB0 : Hid ((okUp r i && okRow r i 0) = inR m 1 256) := by
     show _ = _
     rw [HO.out, H1.out]
     rfl
    obtain ⟨wo, rfl⟩ : ∃ wo, wo = wr := ⟨_, rfl⟩
    go_loopw [3, 25] (fun b iv wr => ∃ (d : Nat) (ok : Bool), d ≤ 3 ∧ b = .bool ok ∧ iv = .int .i64 d ∧ wo = wr ∧ Hid ((okUp r i && okRow r i d) = ok))
     (fun _ iv _ => 3 - (intOf iv).toNat)
    case atStart => exact ⟨0, _, by omega, rfl, rfl, rfl, HB0⟩
    case round =>
     obtain ⟨d, ok, hd, rfl, rfl, rfl, HD⟩ := hrel
     by_cases hdl : d < 3
     ·
      have hdl' : (d : Int) < 3 := by omega
      have hd0 : (0 : Int) ≤ d := by omega
      have HDL := Lib.hid hdl
      have hix := run_index3i t0 t1 t2 d hdl wo
      rw [HT.out d hdl] at hix
      have H2 : Hid (okRow r i (d + 1) = (okRow r i d && inR (r.tb ((i : Int) + 1) d) 0 3)) := rfl
      generalize r.tb ((i : Int) + 1) d = t at *
      clear hdl c0 c1 c2 k8
      cases ok with
      | true =>
       go_wp2_with fail
       refine (in_any _ _ _ _).mono ?_
       rintro e w1 ⟨rfl, rfl⟩
       go_wp2_with fail
       refine ⟨⟨d + 1, _, by have := HDL.out; omega, rfl, by go_num, by first | rfl | trivial, ?_⟩, meas_up HDL.out⟩
       show _ = _
       rw [H2.out, ← Bool.and_assoc, HD.out]
       rfl
      | false =>
       go_wp2_with fail
       refine ⟨⟨d + 1, _, by have := HDL.out; omega, rfl, by go_num, by first | rfl | trivial, ?_⟩, meas_up HDL.out⟩
       show _ = _
       rw [H2.out, ← Bool.and_assoc, HD.out]
       rfl
     ·
      obtain rfl : d = 3 := by omega
      clear c0 c1 c2 k8
      go_wp2_with fail
      exact ⟨⟨i + 1, ok, by have := HLT.out; omega, rfl, by go_num, by first | rfl | trivial, HD⟩, meas_up HLT.out⟩
   | false =>
    go_wp2_with fail
    have HB0 : Hid ((okUp r i && okRow r i 0) = false) := by
     show _ = _
     rw [HO.out]
     rfl
    obtain ⟨wo, rfl⟩ : ∃ wo, wo = wr := ⟨_, rfl⟩
    go_loopw [3, 25] (fun b iv wr => ∃ (d : Nat) (ok : Bool), d ≤ 3 ∧ b = .bool ok ∧ iv = .int .i64 d ∧ wo = wr ∧ Hid ((okUp r i && okRow r i d) = ok))
     (fun _ iv _ => 3 - (intOf iv).toNat)
    case atStart => exact ⟨0, _, by omega, rfl, rfl, rfl, HB0⟩
    case round =>
     obtain ⟨d, ok, hd, rfl, rfl, rfl, HD⟩ := hrel
     by_cases hdl : d < 3
     ·
      have hdl' : (d : Int) < 3 := by omega
      have hd0 : (0 : Int) ≤ d := by omega
      have HDL := Lib.hid hdl
      have hix := run_index3i t0 t1 t2 d hdl wo
      rw [HT.out d hdl] at hix
      have H2 : Hid (okRow r i (d + 1) = (okRow r i d && inR (r.tb ((i : Int) + 1) d) 0 3)) := rfl
      generalize r.tb ((i : Int) + 1) d = t at *
      clear hdl c0 c1 c2 k8
      cases ok with
      | true =>
       go_wp2_with fail
       refine (in_any _ _ _ _).mono ?_
       rintro e w1 ⟨rfl, rfl⟩
       go_wp2_with fail
       refine ⟨⟨d + 1, _, by have := HDL.out; omega, rfl, by go_num, by first | rfl | trivial, ?_⟩, meas_up HDL.out⟩
       show _ = _
       rw [H2.out, ← Bool.and_assoc, HD.out]
       rfl
      | false =>
       go_wp2_with fail
       refine ⟨⟨d + 1, _, by have := HDL.out; omega, rfl, by go_num, by first | rfl | trivial, ?_⟩, meas_up HDL.out⟩
       show _ = _
       rw [H2.out, ← Bool.and_assoc, HD.out]
       rfl
     ·
      obtain rfl : d = 3 := by omega
      clear c0 c1 c2 k8
      go_wp2_with fail
      exact ⟨⟨i + 1, ok, by have := HLT.out; omega, rfl, by go_num, by first | rfl | trivial, HD⟩, meas_up HLT.out⟩
  ·
   obtain rfl : i = 3 := by omega
   have he : Hid (errRules r = if ok then 0 else 1) := by
    show _ = _
    unfold errRules
    rw [← okUp_three, HO.out]
   cases ok with
   | true =>
    go_wp2_with fail
    go_ret
    exact ⟨by rw [he.out]; rfl, rfl⟩
   | false =>
    go_wp2_with fail
    go_ret
    exact ⟨by rw [he.out]; rfl, rfl⟩
end Go.Proofs.YthhnkobkdhjfgaaGreat

namespace Go.Proofs.YthhnkobkdhjfgaaGreat
open Go.RowKit

def IntsOf (w : World) (v : Value) (es : List Int) : Prop :=
 ∃ ao cap, v = .slice ao es.length cap ∧ (0 < es.length → ∃ b off, ao = some ⟨b, off, none⟩ ∧ b < w.heap.size ∧ ∀ i, i < es.length → w.cell? ⟨b, off + i, none⟩ = some (.int .i64 (es.getD i 0)))
theorem IntsOf.below {w w' : World} {v : Value} {es : List Int} (h : IntsOf w v es) (hb : Below w.heap.size w w') : IntsOf w' v es := by
 obtain ⟨ao, cap, rfl, h⟩ := h
 refine ⟨ao, cap, rfl, fun hl => ?_⟩
 obtain ⟨b, off, rfl, hlt, h⟩ := h hl
 exact ⟨b, off, rfl, Nat.lt_of_lt_of_le hlt hb.size, fun i hi => (hb.cell (p := ⟨b, off + i, none⟩) hlt).trans (h i hi)⟩
def allEv (es : List Int) : Bool := es.all fun e => inR e 0 7
def playE (r : Ru) (es : List Int) : Rn × Nat × Int :=
 if rulesOk r then (if 256 < es.length then (rn0, 0, 4) else if allEv es then ((play r es).1, (play r es).2, 0) else (rn0, 0, 1)) else (rn0, 0, 1)
def RetPl (p : Rn × Nat × Int) (w : World) (e : Ending) (w' : World) : Prop := e = .returned (.tuple #[rnV p.1, .int .i64 p.2.1, .int .i64 p.2.2]) ∧ Below w.heap.size w w'
theorem allEv_no {es : List Int} {i : Nat} (hi : i < es.length) (h : inR (es.getD i 0) 0 7 = false) : allEv es = false := by
 unfold allEv
 rw [List.all_eq_false]
 refine ⟨es.getD i 0, ?_, by rw [h]; decide⟩
 rw [List.getD_eq_getElem?_getD, List.getElem?_eq_getElem hi]
 exact List.getElem_mem hi
theorem allEv_yes {es : List Int} (h : ∀ i, i < es.length → inR (es.getD i 0) 0 7 = true) : allEv es = true := by
 unfold allEv
 rw [List.all_eq_true]
 intro e he
 obtain ⟨i, hi, rfl⟩ := List.mem_iff_getElem.1 he
 have := h i hi
 rw [List.getD_eq_getElem?_getD, List.getElem?_eq_getElem hi] at this
 exact this
theorem allEv_mem {es : List Int} (h : allEv es = true) : ∀ e ∈ es, 0 ≤ e ∧ e ≤ 7 := fun e he => by
 have := List.all_eq_true.1 h e he
 unfold inR at this
 simpa using this
theorem play_le (r : Ru) (es : List Int) : ∀ s : Rn × Nat, (es.foldl (playStep r) s).2 ≤ s.2 + es.length := by
 induction es with
 | nil => intro s; simp
 | cons e es ih =>
  intro s
  refine Nat.le_trans (ih _) ?_
  have : (playStep r s e).2 ≤ s.2 + 1 := by
   unfold playStep
   split
   ·
    exact Nat.le_refl _
   ·
    omega
  simp
  omega
theorem boxesP4 (w : World) (r : Ru) (c d : Rn) (W : World) (hW : W = (((w.alloc (ruO r)).alloc (rnO c)).alloc (ruO r)).alloc (rnO d)) :
  Below w.heap.size w W ∧ W.heap[w.heap.size]? = some (ruO r) ∧ W.heap[w.heap.size + 1]? = some (rnO c) ∧ W.heap[w.heap.size + 1 + 1 + 1]? = some (rnO d) := by
 subst hW
 have e1 : (w.alloc (ruO r)).heap.size = w.heap.size + 1 := World.size_alloc ..
 have e2 : ((w.alloc (ruO r)).alloc (rnO c)).heap.size = w.heap.size + 1 + 1 := by rw [World.size_alloc, e1]
 have e3 : (((w.alloc (ruO r)).alloc (rnO c)).alloc (ruO r)).heap.size = w.heap.size + 1 + 1 + 1 := by rw [World.size_alloc, e2]
 have a1 := heap_alloc_new w (ruO r)
 have a2 := heap_alloc_new (w.alloc (ruO r)) (rnO c)
 rw [e1] at a2
 have a1' := (heap_alloc_old _ (rnO c) (blk_lt a1)).trans a1
 have a4 := heap_alloc_new (((w.alloc (ruO r)).alloc (rnO c)).alloc (ruO r)) (rnO d)
 rw [e3] at a4
 have b1 := (heap_alloc_old _ (ruO r) (blk_lt a1')).trans a1'
 have b2 := (heap_alloc_old _ (ruO r) (blk_lt a2)).trans a2
 exact ⟨ba (ba (below2 _ _ _)), (heap_alloc_old _ _ (blk_lt b1)).trans b1, (heap_alloc_old _ _ (blk_lt b2)).trans b2, a4⟩
set_option maxRecDepth 100000 in
set_option maxHeartbeats 1000000 in
theorem Play_bad (r : Ru) (ve : Value) (h : rulesOk r = false) (w : World) : Calls Tryz.prog 50 #[ruV r, ve] w (RetPl (rn0, 0, 1) w) := by
 have he : errRules r = 1 := by unfold errRules; rw [h]; rfl
 clear h
 go_enter Tryz.func50, Tryz.ntmps50
 go_wp2_with fail
 refine (checkRules_any r _).mono ?_
 rintro e w1 ⟨rfl, rfl⟩
 rw [he]
 go_wp2_with fail
 refine bodyPost_ret (v := .tuple #[rnV rn0, .int .i64 0, .int .i64 1]) (by simp [results, Tryz.results50, go_sem, rn0]) rfl ⟨rfl, ?_⟩
 exact ba (below2 _ _ _)
set_option maxRecDepth 100000 in
set_option maxHeartbeats 1000000 in
theorem Play_good (r : Ru) (es : List Int) (ve : Value) (h : rulesOk r = true) (w : World) (hv : IntsOf w ve es) :
  Calls Tryz.prog 50 #[ruV r, ve] w (RetPl (if 256 < es.length then (rn0, 0, 4) else if allEv es then ((play r es).1, (play r es).2, 0) else (rn0, 0, 1)) w) := by
 have he : errRules r = 0 := by unfold errRules; rw [h]; rfl
 have HG := Lib.hid (rulesOk_good h)
 clear h
 obtain ⟨q, hq⟩ : ∃ q, q = (if 256 < es.length then (rn0, 0, (4 : Int)) else if allEv es then ((play r es).1, (play r es).2, 0) else (rn0, 0, 1)) := ⟨_, rfl⟩
 rw [← hq]
 have HQ := Lib.hid hq
 clear hq
 obtain ⟨ao, cap, rfl, hE⟩ := hv
 have HE := Lib.hid hE
 clear hE
 by_cases h1 : 256 < es.length
 ·
  have t1 : decide ((es.length : Int) > 256) = true := by simp; omega
  have HQ2 : Hid (q = (rn0, 0, 4)) := by show _ = _; rw [HQ.out, if_pos h1]
  clear h1 HQ
  go_enter Tryz.func50, Tryz.ntmps50
  go_wp2_with fail
  refine (checkRules_any r _).mono ?_
  rintro e w1 ⟨rfl, rfl⟩
  rw [he]
  go_wp2_with fail
  refine bodyPost_ret (v := .tuple #[rnV rn0, .int .i64 0, .int .i64 4]) (by simp [results, Tryz.results50, go_sem, rn0]) rfl ⟨by rw [HQ2.out]; rfl, ?_⟩
  exact ba (below2 _ _ _)
 ·
  have t1 : decide ((es.length : Int) > 256) = false := by simp; omega
  have HQ2 : Hid (q = if allEv es then ((play r es).1, (play r es).2, 0) else (rn0, 0, 1)) := by show _ = _; rw [HQ.out, if_neg h1]
  have HL : Hid (es.length ≤ 256) := by show _ ≤ _; omega
  clear h1 HQ
  go_enter Tryz.func50, Tryz.ntmps50
  go_wp2_with fail
  refine (checkRules_any r _).mono ?_
  rintro e w1 ⟨rfl, rfl⟩
  rw [he]
  go_wp2_with fail
  generalize hW0 : ((w.alloc (.cells (ruA r) 144)).alloc (.cells (rnA ⟨0, 0, 0, 0, false, false, false, false⟩) 147)).alloc (.cells (ruA r) 144) = W at *
  have hbW : Below w.heap.size w W := by rw [← hW0]; exact ba (below2 _ _ _)
  obtain ⟨hbX, x1, x2, x4⟩ := boxesP4 w r ⟨0, 0, 0, 0, false, false, false, false⟩ ⟨0, 0, 0, 0, false, false, false, false⟩ _ rfl
  have hbX' : Below w.heap.size w (W.alloc (rnO ⟨0, 0, 0, 0, false, false, false, false⟩)) := by rw [← hW0]; exact hbX
  have x1' : (W.alloc (rnO ⟨0, 0, 0, 0, false, false, false, false⟩)).heap[w.heap.size]? = some (ruO r) := by rw [← hW0]; exact x1
  have x2' : (W.alloc (rnO ⟨0, 0, 0, 0, false, false, false, false⟩)).heap[w.heap.size + 1]? = some (rnO ⟨0, 0, 0, 0, false, false, false, false⟩) := by rw [← hW0]; exact x2
  have x4' : (W.alloc (rnO ⟨0, 0, 0, 0, false, false, false, false⟩)).heap[W.heap.size]? = some (rnO ⟨0, 0, 0, 0, false, false, false, false⟩) := heap_alloc_new W _
  have hsz : W.heap.size = w.heap.size + 1 + 1 + 1 := by rw [← hW0, World.size_alloc, World.size_alloc, World.size_alloc]
  have HBW := Lib.hid hbW
  have HBX := Lib.hid hbX'
  have X1 := Lib.hid x1'
  have X2 := Lib.hid x2'
  have X4 := Lib.hid x4'
  have HSZ := Lib.hid hsz
  have HW0 := Lib.hid hW0
  have HEA : Hid (0 < es.length → ∃ b off, ao = some ⟨b, off, none⟩ ∧ b < w.heap.size ∧ ∀ w', Below w.heap.size w w' → ∀ i, i < es.length → w'.cell? ⟨b, off + i, none⟩ = some (.int .i64 (es.getD i 0))) := fun hl => by
   obtain ⟨b, off, h1, h2, h3⟩ := HE.out hl
   exact ⟨b, off, h1, h2, fun w' hb i hi => (hb.cell (p := ⟨b, off + i, none⟩) h2).trans (h3 i hi)⟩
  have X2W : Hid (W.heap[w.heap.size + 1]? = some (.cells (rnA ⟨0, 0, 0, 0, false, false, false, false⟩) 147 (0, 0))) := by
   have := heap_alloc_old W (rnO ⟨0, 0, 0, 0, false, false, false, false⟩) (show w.heap.size + 1 < W.heap.size by omega)
   exact this.symm.trans x2'
  have hlen := HL.out
  clear hbW hbX x1 x2 x4 hbX' x1' x2' x4' hsz hW0 HE he t1
  go_loopw [28] (fun iv wr => ∃ (i : Nat), i ≤ es.length ∧ iv = .int .i64 i ∧ W = wr ∧ Hid (∀ k, k < i → inR (es.getD k 0) 0 7 = true))
   (fun iv _ => es.length - (intOf iv).toNat)
  case atStart => exact ⟨0, by omega, rfl, rfl, fun k hk => absurd hk (by omega)⟩
  case round =>
   obtain ⟨i, hi, rfl, rfl, HK⟩ := hrel
   by_cases hlt : i < es.length
   ·
    obtain ⟨b, off, rfl, hbl, hc⟩ := HEA.out (by omega)
    have g0 := hc W HBW.out i hlt
    have hlt' : (i : Int) < es.length := by omega
    have hge' : (0 : Int) ≤ i := by omega
    have HLT := Lib.hid hlt
    have HNO : Hid (inR (es.getD i 0) 0 7 = false → allEv es = false) := fun h => allEv_no HLT.out h
    have HYE : Hid (inR (es.getD i 0) 0 7 = true → ∀ k, k < i + 1 → inR (es.getD k 0) 0 7 = true) := fun h k hk => by
     rcases Nat.lt_or_ge k i with h' | h'
     ·
      exact HK.out k h'
     ·
      rw [show k = i from by omega]
      exact h
    clear hlt hc
    generalize hev : es.getD i 0 = ev at *
    clear hev
    go_wp2_with fail
    refine (in_any _ _ _ _).mono ?_
    rintro e w1 ⟨rfl, rfl⟩
    cases hin : inR ev 0 7 with
    | true =>
     have HY := Lib.hid (HYE.out hin)
     clear hin HYE HNO
     go_wp2_with fail
     exact ⟨⟨i + 1, by have := HLT.out; omega, by go_num, by first | rfl | trivial, HY⟩, meas_up HLT.out⟩
    | false =>
     have HN := Lib.hid (HNO.out hin)
     have HQ3 : Hid (q = (rn0, 0, 1)) := by show _ = _; rw [HQ2.out, HN.out]; rfl
     clear hin HYE HNO HQ2
     obtain ⟨f0, f1, f2, f3, f4, f5, f6, f7⟩ := rnf (x := ⟨0, 0, 0, 0, false, false, false, false⟩) X2W.out
     obtain ⟨g0, g1, g2, g3, g4, g5, g6, g7⟩ := rn8 (x := ⟨0, 0, 0, 0, false, false, false, false⟩) X2W.out
     go_wp2_with fail
     obtain ⟨h0, h1, h2, h3, h4, h5, h6, h7⟩ := rn8 (x := rn0) (set8 (u0 := .int .i64 0) (u1 := .int .i64 0) (u2 := .int .i64 0) (u3 := .int .i64 0) (u4 := .bool false) (u5 := .bool false) (u6 := .bool false) (u7 := .bool false) X2W.out)
     refine bodyPost_ret (v := .tuple #[rnV rn0, .int .i64 0, .int .i64 1]) (by simp [results, Tryz.results50, go_sem, h0, h1, h2, h3, h4, h5, h6, h7]) rfl ⟨?_, below_set8 HBW.out (by omega)⟩
     rw [HQ3.out]
     rfl
   ·
    obtain rfl : i = es.length := by omega
    have HA : Hid (allEv es = true) := allEv_yes HK.out
    have HQ3 : Hid (q = ((play r es).1, (play r es).2, 0)) := by show _ = _; rw [HQ2.out, HA.out]; rfl
    clear HQ2 HK hlt
    go_wp2_with fail
    go_loopw [11, 39] (fun nv iv wr => ∃ (i : Nat), i ≤ es.length ∧ iv = .int .i64 i ∧ nv = .int .i64 (play r (es.take i)).2 ∧ Hid (wr.heap[w.heap.size]? = some (ruO r)) ∧ Hid (wr.heap[w.heap.size + 1]? = some (rnO ⟨0, 0, 0, 0, false, false, false, false⟩)) ∧ Hid (wr.heap[W.heap.size]? = some (rnO (play r (es.take i)).1)) ∧ Hid (Below w.heap.size w wr))
     (fun _ iv _ => es.length - (intOf iv).toNat)
    case atStart => exact ⟨0, by omega, rfl, rfl, X1, X2, X4, HBX⟩
    case round =>
     obtain ⟨i, hi, rfl, rfl, K1, K2, K4, KB⟩ := hrel
     by_cases hlt : i < es.length
     ·
      obtain ⟨b, off, rfl, hbl, hc⟩ := HEA.out (by omega)
      have g0 := hc _ KB.out i hlt
      have hlt' : (i : Int) < es.length := by omega
      have hge' : (0 : Int) ≤ i := by omega
      have HLT := Lib.hid hlt
      have HR : Hid (Right r (play r (es.take i)).1) := play_right HG.out _ (fun e he => (allEv_mem HA.out e (List.mem_of_mem_take he)).2)
      have HEV : Hid (0 ≤ es.getD i 0 ∧ es.getD i 0 ≤ 7) := allEv_mem HA.out _ (by rw [List.getD_eq_getElem?_getD, List.getElem?_eq_getElem hlt]; exact List.getElem_mem hlt)
      have HS : Hid (play r (es.take (i + 1)) = playStep r (play r (es.take i)) (es.getD i 0)) := play_take hlt
      have hn : (play r (es.take i)).2 ≤ es.length := by
       have := play_le r (es.take i) (rn0, 0)
       simp at this
       show (List.foldl (playStep r) (rn0, 0) (List.take i es)).snd ≤ _
       omega
      clear hlt hc
      generalize play r (es.take i) = s at *
      generalize es.getD i 0 = ev at *
      obtain ⟨y, n⟩ := s
      have hn' : n ≤ es.length := hn
      clear hn
      obtain ⟨m0, m1, m2, m3, m4, m5, m6, m7, m8, m9, m10, m11, m12⟩ := ru13 K1.out
      obtain ⟨k0, k1, k2, k3, k4, k5, k6, k7⟩ := rn8 K4.out
      go_wp2_with fail
      refine (next_any r y ev HG.out HR.out HEV.out _).mono ?_
      rintro e w1 ⟨rfl, hb⟩
      have E1 := Lib.hid (blk_keep K1.out hb (blk_lt K1.out))
      have E2 := Lib.hid (blk_keep K2.out hb (blk_lt K2.out))
      have E4 := Lib.hid (blk_keep K4.out hb (blk_lt K4.out))
      have EB := Lib.hid (KB.out.trans (hb.mono KB.out.size))
      clear m0 m1 m2 m3 m4 m5 m6 m7 m8 m9 m10 m11 m12 k0 k1 k2 k3 k4 k5 k6 k7 hb g0
      cases hx : next r y ev with
      | none =>
       have HS2 : Hid (play r (es.take (i + 1)) = (y, n)) := by
        show _ = _
        rw [HS.out]
        unfold playStep
        rw [show (y, n).1 = y from rfl, hx]
       clear hx HS
       go_wp2_with fail
       exact ⟨⟨i + 1, by have := HLT.out; omega, by go_num, by rw [HS2.out], (heap_alloc_old _ _ (blk_lt E1.out)).trans E1.out, (heap_alloc_old _ _ (blk_lt E2.out)).trans E2.out, by rw [HS2.out]; exact (heap_alloc_old _ _ (blk_lt E4.out)).trans E4.out, ba EB.out⟩, meas_up HLT.out⟩
      | some z =>
       have HS2 : Hid (play r (es.take (i + 1)) = (z, n + 1)) := by
        show _ = _
        rw [HS.out]
        unfold playStep
        rw [show (y, n).1 = y from rfl, hx]
       clear hx HS
       have L4 := Lib.hid ((heap_alloc_old _ (rnO z) (blk_lt E4.out)).trans E4.out)
       have L2 := Lib.hid ((heap_alloc_old _ (rnO z) (blk_lt E2.out)).trans E2.out)
       have L1 := Lib.hid ((heap_alloc_old _ (rnO z) (blk_lt E1.out)).trans E1.out)
       obtain ⟨f0, f1, f2, f3, f4, f5, f6, f7⟩ := rnf L4.out
       obtain ⟨g0, g1, g2, g3, g4, g5, g6, g7⟩ := rn8 L4.out
       go_wp2_with fail
       refine ⟨⟨i + 1, by have := HLT.out; omega, by go_num, ?_, oth8 L1.out (by have := HSZ.out; omega), oth8 L2.out (by have := HSZ.out; omega), (by rw [HS2.out]; exact set8 L4.out), below_set8 (ba EB.out) (by have := HSZ.out; omega)⟩, meas_up HLT.out⟩
       rw [HS2.out]
       go_num
     ·
      obtain rfl : i = es.length := by omega
      rw [List.take_length] at *
      generalize play r es = s at *
      obtain ⟨y, n⟩ := s
      have HQ4 : Hid (q = (y, n, 0)) := HQ3.out
      clear HQ3
      obtain ⟨k0, k1, k2, k3, k4, k5, k6, k7⟩ := rn8 K4.out
      obtain ⟨f0, f1, f2, f3, f4, f5, f6, f7⟩ := rnf (x := ⟨0, 0, 0, 0, false, false, false, false⟩) K2.out
      obtain ⟨g0, g1, g2, g3, g4, g5, g6, g7⟩ := rn8 (x := ⟨0, 0, 0, 0, false, false, false, false⟩) K2.out
      go_wp2_with fail
      obtain ⟨h0, h1, h2, h3, h4, h5, h6, h7⟩ := rn8 (x := y) (set8 (u0 := .int .i64 y.ph) (u1 := .int .i64 y.be) (u2 := .int .i64 y.mi) (u3 := .int .i64 y.wa) (u4 := .bool y.l0) (u5 := .bool y.l1) (u6 := .bool y.l2) (u7 := .bool y.te) K2.out)
      refine bodyPost_ret (v := .tuple #[rnV y, .int .i64 n, .int .i64 0]) (by simp [results, Tryz.results50, go_sem, h0, h1, h2, h3, h4, h5, h6, h7]) rfl ⟨?_, below_set8 KB.out (by omega)⟩
      rw [HQ4.out]
theorem Play_any (r : Ru) (es : List Int) (ve : Value) (w : World) (hv : IntsOf w ve es) : Calls Tryz.prog 50 #[ruV r, ve] w (RetPl (playE r es) w) := by
 unfold playE
 cases h : rulesOk r with
 | false => exact Play_bad r ve h w
 | true => exact Play_good r es ve h w hv
end Go.Proofs.YthhnkobkdhjfgaaGreat
