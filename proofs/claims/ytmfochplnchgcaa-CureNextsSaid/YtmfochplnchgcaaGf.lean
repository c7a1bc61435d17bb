/- Part f of the lemmas and walks. -/
import Derived.Test.YtmfochplnchgcaaGe

/- THE WALK of Run.meet. -/
namespace Go.Proofs.Ytmfochplnchgcaa
open Go.RowKit

theorem meet_ans {r : Ru} {x : Rn} {d : Nat} (hg : goes (inPh x) = true) (hv : 0 ≤ r.tb (inPh x) d ∧ r.tb (inPh x) d ≤ 3) : meet r x d = ansR (r.tb (inPh x) d) x := by
  unfold meet ansR
  rw [if_pos hg]
theorem RetRn_of {x y : Rn} {w w' : World} {e : Ending} (h : x = y) (hr : RetRn x w e w') : RetRn y w e w' := h ▸ hr
theorem rn8 {w : World} {B : Nat} {x : Rn} (h : w.heap[B]? = some (.cells (rnA x) 30 (0, 0))) :
    w.cell? ⟨B, 0, none⟩ = some (.int .i64 x.ph) ∧ w.cell? ⟨B, 1, none⟩ = some (.int .i64 x.be) ∧ w.cell? ⟨B, 2, none⟩ = some (.int .i64 x.mi) ∧ w.cell? ⟨B, 3, none⟩ = some (.int .i64 x.wa) ∧
    w.cell? ⟨B, 4, none⟩ = some (.bool x.l0) ∧ w.cell? ⟨B, 5, none⟩ = some (.bool x.l1) ∧ w.cell? ⟨B, 6, none⟩ = some (.bool x.l2) ∧ w.cell? ⟨B, 7, none⟩ = some (.bool x.te) :=
  ⟨blk_cell h 0 _ rfl, blk_cell h 1 _ rfl, blk_cell h 2 _ rfl, blk_cell h 3 _ rfl, blk_cell h 4 _ rfl, blk_cell h 5 _ rfl, blk_cell h 6 _ rfl, blk_cell h 7 _ rfl⟩
theorem rnf {w : World} {B : Nat} {x : Rn} (h : w.heap[B]? = some (.cells (rnA x) 30 (0, 0))) :
    w.frozen? ⟨B, 0, none⟩ = false ∧ w.frozen? ⟨B, 1, none⟩ = false ∧ w.frozen? ⟨B, 2, none⟩ = false ∧ w.frozen? ⟨B, 3, none⟩ = false ∧ w.frozen? ⟨B, 4, none⟩ = false ∧ w.frozen? ⟨B, 5, none⟩ = false ∧ w.frozen? ⟨B, 6, none⟩ = false ∧ w.frozen? ⟨B, 7, none⟩ = false :=
  ⟨blk_frozen h 0, blk_frozen h 1, blk_frozen h 2, blk_frozen h 3, blk_frozen h 4, blk_frozen h 5, blk_frozen h 6, blk_frozen h 7⟩

def RN8 (w : World) (B : Nat) : Prop := ∃ c0 c1 c2 c3 c4 c5 c6 c7, w.heap[B]? = some (.cells #[c0, c1, c2, c3, c4, c5, c6, c7] 30 (0, 0))
theorem RN8.lt {w : World} {B : Nat} (h : RN8 w B) : B < w.heap.size := by
  obtain ⟨_, _, _, _, _, _, _, _, h⟩ := h
  exact blk_lt h
theorem RN8.keep {a b : World} {B n : Nat} (h : RN8 a B) (hb : Below n a b) (hB : B < n) : RN8 b B := by
  obtain ⟨c0, c1, c2, c3, c4, c5, c6, c7, h⟩ := h
  exact ⟨c0, c1, c2, c3, c4, c5, c6, c7, blk_keep h hb hB⟩
theorem RN8.cell {w : World} {B : Nat} (h : RN8 w B) : w.cell? ⟨B, 0, none⟩ = some (cellOf w ⟨B, 0, none⟩) ∧ w.cell? ⟨B, 1, none⟩ = some (cellOf w ⟨B, 1, none⟩) ∧ w.cell? ⟨B, 2, none⟩ = some (cellOf w ⟨B, 2, none⟩) ∧ w.cell? ⟨B, 3, none⟩ = some (cellOf w ⟨B, 3, none⟩) ∧ w.cell? ⟨B, 4, none⟩ = some (cellOf w ⟨B, 4, none⟩) ∧ w.cell? ⟨B, 5, none⟩ = some (cellOf w ⟨B, 5, none⟩) ∧ w.cell? ⟨B, 6, none⟩ = some (cellOf w ⟨B, 6, none⟩) ∧ w.cell? ⟨B, 7, none⟩ = some (cellOf w ⟨B, 7, none⟩) ∧ w.frozen? ⟨B, 0, none⟩ = false ∧ w.frozen? ⟨B, 1, none⟩ = false ∧ w.frozen? ⟨B, 2, none⟩ = false ∧ w.frozen? ⟨B, 3, none⟩ = false ∧ w.frozen? ⟨B, 4, none⟩ = false ∧ w.frozen? ⟨B, 5, none⟩ = false ∧ w.frozen? ⟨B, 6, none⟩ = false ∧ w.frozen? ⟨B, 7, none⟩ = false := by
  obtain ⟨c0, c1, c2, c3, c4, c5, c6, c7, h⟩ := h
  have e : ∀ j v, (#[c0, c1, c2, c3, c4, c5, c6, c7] : Array Value)[j]? = some v → w.cell? ⟨B, j, none⟩ = some (cellOf w ⟨B, j, none⟩) := fun j v hv => by
    have := blk_cell h j v hv
    unfold cellOf
    rw [this]
    rfl
  exact ⟨e 0 _ rfl, e 1 _ rfl, e 2 _ rfl, e 3 _ rfl, e 4 _ rfl, e 5 _ rfl, e 6 _ rfl, e 7 _ rfl, blk_frozen h 0, blk_frozen h 1, blk_frozen h 2, blk_frozen h 3, blk_frozen h 4, blk_frozen h 5, blk_frozen h 6, blk_frozen h 7⟩
theorem set8 {w : World} {B T : Nat} {c0 c1 c2 c3 c4 c5 c6 c7 u0 u1 u2 u3 u4 u5 u6 u7 : Value} (h : w.heap[B]? = some (.cells #[c0, c1, c2, c3, c4, c5, c6, c7] T (0, 0))) :
    (((((((((w.setCell ⟨B, 0, none⟩ u0).setCell ⟨B, 1, none⟩ u1).setCell ⟨B, 2, none⟩ u2).setCell ⟨B, 3, none⟩ u3).setCell ⟨B, 4, none⟩ u4).setCell ⟨B, 5, none⟩ u5).setCell ⟨B, 6, none⟩ u6).setCell ⟨B, 7, none⟩ u7)).heap[B]? = some (.cells #[u0, u1, u2, u3, u4, u5, u6, u7] T (0, 0)) := by
  have h0 : (w.setCell ⟨B, 0, none⟩ u0).heap[B]? = some (.cells #[u0, c1, c2, c3, c4, c5, c6, c7] T (0, 0)) := blk_set h 0 _
  have h1 : ((w.setCell ⟨B, 0, none⟩ u0).setCell ⟨B, 1, none⟩ u1).heap[B]? = some (.cells #[u0, u1, c2, c3, c4, c5, c6, c7] T (0, 0)) := blk_set h0 1 _
  have h2 : (((w.setCell ⟨B, 0, none⟩ u0).setCell ⟨B, 1, none⟩ u1).setCell ⟨B, 2, none⟩ u2).heap[B]? = some (.cells #[u0, u1, u2, c3, c4, c5, c6, c7] T (0, 0)) := blk_set h1 2 _
  have h3 : ((((w.setCell ⟨B, 0, none⟩ u0).setCell ⟨B, 1, none⟩ u1).setCell ⟨B, 2, none⟩ u2).setCell ⟨B, 3, none⟩ u3).heap[B]? = some (.cells #[u0, u1, u2, u3, c4, c5, c6, c7] T (0, 0)) := blk_set h2 3 _
  have h4 : (((((w.setCell ⟨B, 0, none⟩ u0).setCell ⟨B, 1, none⟩ u1).setCell ⟨B, 2, none⟩ u2).setCell ⟨B, 3, none⟩ u3).setCell ⟨B, 4, none⟩ u4).heap[B]? = some (.cells #[u0, u1, u2, u3, u4, c5, c6, c7] T (0, 0)) := blk_set h3 4 _
  have h5 : ((((((w.setCell ⟨B, 0, none⟩ u0).setCell ⟨B, 1, none⟩ u1).setCell ⟨B, 2, none⟩ u2).setCell ⟨B, 3, none⟩ u3).setCell ⟨B, 4, none⟩ u4).setCell ⟨B, 5, none⟩ u5).heap[B]? = some (.cells #[u0, u1, u2, u3, u4, u5, c6, c7] T (0, 0)) := blk_set h4 5 _
  have h6 : (((((((w.setCell ⟨B, 0, none⟩ u0).setCell ⟨B, 1, none⟩ u1).setCell ⟨B, 2, none⟩ u2).setCell ⟨B, 3, none⟩ u3).setCell ⟨B, 4, none⟩ u4).setCell ⟨B, 5, none⟩ u5).setCell ⟨B, 6, none⟩ u6).heap[B]? = some (.cells #[u0, u1, u2, u3, u4, u5, u6, c7] T (0, 0)) := blk_set h5 6 _
  have h7 : ((((((((w.setCell ⟨B, 0, none⟩ u0).setCell ⟨B, 1, none⟩ u1).setCell ⟨B, 2, none⟩ u2).setCell ⟨B, 3, none⟩ u3).setCell ⟨B, 4, none⟩ u4).setCell ⟨B, 5, none⟩ u5).setCell ⟨B, 6, none⟩ u6).setCell ⟨B, 7, none⟩ u7).heap[B]? = some (.cells #[u0, u1, u2, u3, u4, u5, u6, u7] T (0, 0)) := blk_set h6 7 _
  exact h7
theorem RN8.store {w : World} {B : Nat} (u0 u1 u2 u3 u4 u5 u6 u7 : Value) (h : RN8 w B) : RN8 (((((((((w.setCell ⟨B, 0, none⟩ u0).setCell ⟨B, 1, none⟩ u1).setCell ⟨B, 2, none⟩ u2).setCell ⟨B, 3, none⟩ u3).setCell ⟨B, 4, none⟩ u4).setCell ⟨B, 5, none⟩ u5).setCell ⟨B, 6, none⟩ u6).setCell ⟨B, 7, none⟩ u7)) B := by
  obtain ⟨_, _, _, _, _, _, _, _, h⟩ := h
  exact ⟨_, _, _, _, _, _, _, _, set8 h⟩
theorem below_set8 {n : Nat} {w0 w : World} {B : Nat} {u0 u1 u2 u3 u4 u5 u6 u7 : Value} (h : Below n w0 w) (hB : n ≤ B) : Below n w0 (((((((((w.setCell ⟨B, 0, none⟩ u0).setCell ⟨B, 1, none⟩ u1).setCell ⟨B, 2, none⟩ u2).setCell ⟨B, 3, none⟩ u3).setCell ⟨B, 4, none⟩ u4).setCell ⟨B, 5, none⟩ u5).setCell ⟨B, 6, none⟩ u6).setCell ⟨B, 7, none⟩ u7)) :=
  (((((((h.setCell (p := ⟨B, 0, none⟩) hB u0).setCell (p := ⟨B, 1, none⟩) hB u1).setCell (p := ⟨B, 2, none⟩) hB u2).setCell (p := ⟨B, 3, none⟩) hB u3).setCell (p := ⟨B, 4, none⟩) hB u4).setCell (p := ⟨B, 5, none⟩) hB u5).setCell (p := ⟨B, 6, none⟩) hB u6).setCell (p := ⟨B, 7, none⟩) hB u7
theorem step_lookup {P : Program} (w : World) {ops : Array Oper} {o : Oper} {a : Act} {K : Act → World → Prop} {Q : Exit → Act → World → Prop} {E : Prop} (hgd : o.guard = none) (m x : Operand) (t : TypeId)
    (hop : o.op = Op.lookup t m x false) (vm vx v : Value) (hm : a.eval m = vm) (hx : a.eval x = vx) (hrun : (Instr.lookup t vm vx false).run P w = .ok v w) (h : K (a.put o.dst v) w) :
    if Region.wanted o (yielded ops a.tmps) = true then Oper.wp P o a w K Q else E := by
  have hw : Region.wanted o (yielded ops a.tmps) = true := by simp [Region.wanted, hgd]
  rw [if_pos hw]
  unfold Oper.wp
  simp [execOp, hop, hm, hx, hrun, Result.andThen]
  exact h
theorem boxesM (w : World) (x : Rn) (r : Ru) (cs : Array Value) (T : Nat) (W : World) (hW : W = ((w.alloc (.cells (rnA x) 30)).alloc (.cells (ruA r) 25)).alloc (.cells cs T)) :
    Below w.heap.size w W ∧ W.heap[w.heap.size]? = some (.cells (rnA x) 30 (0, 0)) ∧ W.heap[w.heap.size + 1]? = some (.cells (ruA r) 25 (0, 0)) ∧ W.heap[w.heap.size + 1 + 1]? = some (.cells cs T (0, 0)) ∧ W.heap.size = w.heap.size + 3 := by
  subst hW
  have e1 : (w.alloc (.cells (rnA x) 30)).heap.size = w.heap.size + 1 := World.size_alloc ..
  have e2 : ((w.alloc (.cells (rnA x) 30)).alloc (.cells (ruA r) 25)).heap.size = w.heap.size + 1 + 1 := by rw [World.size_alloc, e1]
  have a1 := blk_new w (rnA x) 30
  have a2 := blk_new (w.alloc (.cells (rnA x) 30)) (ruA r) 25
  have a3 := blk_new ((w.alloc (.cells (rnA x) 30)).alloc (.cells (ruA r) 25)) cs T
  rw [e1] at a2
  rw [e2] at a3
  have a1' := (heap_alloc_old _ (.cells (ruA r) 25) (blk_lt a1)).trans a1
  exact ⟨ba (below2 _ _ _), (heap_alloc_old _ _ (blk_lt a1')).trans a1', (heap_alloc_old _ _ (blk_lt a2)).trans a2, a3, by rw [World.size_alloc, e2]⟩
theorem keep9 {n : Nat} {W a b : World} {B1 B2 o : Nat} {v0 v1 v2 v3 v4 v5 v6 v7 v8 : Value} (hn : n ≤ W.heap.size) (hb : Below a.heap.size a b)
    (h : Below n W a ∧ a.cell? ⟨B1, 0, none⟩ = some (v0) ∧ a.cell? ⟨B1, 1, none⟩ = some (v1) ∧ a.cell? ⟨B1, 2, none⟩ = some (v2) ∧ a.cell? ⟨B1, 3, none⟩ = some (v3) ∧ a.cell? ⟨B1, 4, none⟩ = some (v4) ∧ a.cell? ⟨B1, 5, none⟩ = some (v5) ∧ a.cell? ⟨B1, 6, none⟩ = some (v6) ∧ a.cell? ⟨B1, 7, none⟩ = some (v7) ∧ a.cell? ⟨B2, o, none⟩ = some v8) : Below n W b ∧ b.cell? ⟨B1, 0, none⟩ = some (v0) ∧ b.cell? ⟨B1, 1, none⟩ = some (v1) ∧ b.cell? ⟨B1, 2, none⟩ = some (v2) ∧ b.cell? ⟨B1, 3, none⟩ = some (v3) ∧ b.cell? ⟨B1, 4, none⟩ = some (v4) ∧ b.cell? ⟨B1, 5, none⟩ = some (v5) ∧ b.cell? ⟨B1, 6, none⟩ = some (v6) ∧ b.cell? ⟨B1, 7, none⟩ = some (v7) ∧ b.cell? ⟨B2, o, none⟩ = some v8 := by
  obtain ⟨h0, k0, k1, k2, k3, k4, k5, k6, k7, k8⟩ := h
  have e : ∀ B j v, a.cell? ⟨B, j, none⟩ = some v → b.cell? ⟨B, j, none⟩ = some v := fun B j v h => (hb.cell (p := ⟨B, j, none⟩) (World.block_lt_of_cell? (h := h))).trans h
  have hs := h0.size
  exact ⟨h0.trans (hb.mono (by omega)), e _ _ _ k0, e _ _ _ k1, e _ _ _ k2, e _ _ _ k3, e _ _ _ k4, e _ _ _ k5, e _ _ _ k6, e _ _ _ k7, e _ _ _ k8⟩
theorem keep9s {n B : Nat} {W a b : World} {B1 B2 o : Nat} {v0 v1 v2 v3 v4 v5 v6 v7 v8 : Value} (hn : n ≤ B) (h1 : B1 < B) (h2 : B2 < B) (hs : B ≤ a.heap.size) (hb : Below B a b)
    (h : Below n W a ∧ a.cell? ⟨B1, 0, none⟩ = some (v0) ∧ a.cell? ⟨B1, 1, none⟩ = some (v1) ∧ a.cell? ⟨B1, 2, none⟩ = some (v2) ∧ a.cell? ⟨B1, 3, none⟩ = some (v3) ∧ a.cell? ⟨B1, 4, none⟩ = some (v4) ∧ a.cell? ⟨B1, 5, none⟩ = some (v5) ∧ a.cell? ⟨B1, 6, none⟩ = some (v6) ∧ a.cell? ⟨B1, 7, none⟩ = some (v7) ∧ a.cell? ⟨B2, o, none⟩ = some v8) : Below n W b ∧ b.cell? ⟨B1, 0, none⟩ = some (v0) ∧ b.cell? ⟨B1, 1, none⟩ = some (v1) ∧ b.cell? ⟨B1, 2, none⟩ = some (v2) ∧ b.cell? ⟨B1, 3, none⟩ = some (v3) ∧ b.cell? ⟨B1, 4, none⟩ = some (v4) ∧ b.cell? ⟨B1, 5, none⟩ = some (v5) ∧ b.cell? ⟨B1, 6, none⟩ = some (v6) ∧ b.cell? ⟨B1, 7, none⟩ = some (v7) ∧ b.cell? ⟨B2, o, none⟩ = some v8 := by
  obtain ⟨h0, k0, k1, k2, k3, k4, k5, k6, k7, k8⟩ := h
  have e : ∀ B' j v, B' < B → a.cell? ⟨B', j, none⟩ = some v → b.cell? ⟨B', j, none⟩ = some v := fun B' j v hl h => (hb.cell (p := ⟨B', j, none⟩) hl).trans h
  exact ⟨h0.trans (hb.mono hn), e _ _ _ h1 k0, e _ _ _ h1 k1, e _ _ _ h1 k2, e _ _ _ h1 k3, e _ _ _ h1 k4, e _ _ _ h1 k5, e _ _ _ h1 k6, e _ _ _ h1 k7, e _ _ _ h2 k8⟩
/-! WALKS -/
set_option maxRecDepth 100000 in
set_option maxHeartbeats 1000000 in
theorem meet_go0 (r : Ru) (ph be mi wa : Int) (l0 l1 l2 te : Bool) (d : Nat) (h4 : ¬ ph = 4) (hp : 1 ≤ ph ∧ ph ≤ 3) (y : Rn) (j : Nat) (t : Int) (w : World)
    (HL : Hid (∀ w M, AnsMap w M → (Instr.lookup 116 (.map (some M)) (.int .i64 t) false).run Try.prog w = .ok (.func (.func 93) #[] #[]) w))
    (HC : Hid (∀ w, Calls Try.prog 93 #[rnV ⟨ph, be, mi, wa, l0, l1, l2, te⟩] w (RetRn y w)))
    (HT : Hid ((ruA r)[4 + j * 3 + d]? = some (.int .i64 t))) (hw : IntKind.i64.wrap (ph - 1) = (j : Int)) (hj0 : (0 : Int) ≤ j) (hj : (j : Int) < 3) (hd0 : (0 : Int) ≤ d) (hd : (d : Int) < 3) :
    Calls Try.prog 57 #[rnV ⟨ph, be, mi, wa, l0, l1, l2, te⟩, ruV r, .int .i64 d] w (RetRn y w) := by
  have t1 : (ph == 4) = false := by simp [h4]
  have hin : inR ph 1 3 = true := goes_yes hp
  clear h4 hp
  go_enter Try.func57, Try.ntmps57
  go_wp2_with fail
  refine (in_any _ _ _ _).mono ?_
  rintro e w' ⟨rfl, rfl⟩
  rw [hin]
  clear hin t1
  go_wp2_with fail
  generalize hW0 : ((w.alloc (.cells (rnA ⟨ph, be, mi, wa, l0, l1, l2, te⟩) 30)).alloc (.cells (ruA r) 25)).alloc (.cells _ _) = W at *
  obtain ⟨hal, hB1, hB2, hB3, hWs⟩ := boxesM w _ _ _ _ W hW0.symm
  clear hW0
  obtain ⟨k0, k1, k2, k3, k4, k5, k6, k7⟩ := rn8 hB1
  have k8 : W.cell? ⟨w.heap.size + 1, 4 + j * 3 + d, none⟩ = some (.int .i64 t) := blk_cell hB2 _ _ (HT.out)
  have HB3 := Lib.hid hB3
  have N3 : Hid (w.heap.size + 1 + 1 ≤ W.heap.size) := by show _ ≤ _; omega
  have HAL := Lib.hid hal
  clear hB1 hB2 hB3 hWs hal
  refine wp_region_held_drew (S := (fun w' => Below (w.heap.size + 1 + 1) W w' ∧ w'.cell? ⟨w.heap.size, 0, none⟩ = some (.int .i64 ph) ∧ w'.cell? ⟨w.heap.size, 1, none⟩ = some (.int .i64 be) ∧ w'.cell? ⟨w.heap.size, 2, none⟩ = some (.int .i64 mi) ∧ w'.cell? ⟨w.heap.size, 3, none⟩ = some (.int .i64 wa) ∧ w'.cell? ⟨w.heap.size, 4, none⟩ = some (.bool l0) ∧ w'.cell? ⟨w.heap.size, 5, none⟩ = some (.bool l1) ∧ w'.cell? ⟨w.heap.size, 6, none⟩ = some (.bool l2) ∧ w'.cell? ⟨w.heap.size, 7, none⟩ = some (.bool te) ∧ w'.cell? ⟨w.heap.size + 1, 4 + j * 3 + d, none⟩ = some (.int .i64 t))) (by kernel_rfl) ⟨(Below.refl _ _).drew, k0, k1, k2, k3, k4, k5, k6, k7, k8⟩ (fun hh0 => ?_)
  clear k0 k1 k2 k3 k4 k5 k6 k7 k8
  refine wpAnyH_take (i := 1) (v := ?vp1) rfl (by kernel_rfl) (by kernel_rfl) (by kernel_rfl) (fun _ _ _ h => h) (Or.inl ⟨by rfl, ?hyp1⟩) (by assumption) ?rep1
  case hyp1 => first | (intro w hSw; (try dsimp only at hSw); go_simp; done) | (intro w hSw; (try dsimp only at hSw); go_simp; with_reducible rfl)
  try simp only [List.getElem_toArray, List.getElem_cons_zero, List.getElem_cons_succ, Act.put, List.setIfInBounds_toArray, List.set_cons_zero, List.set_cons_succ]
  refine wpAnyH_take (i := 2) (v := ?vp2) rfl (by kernel_rfl) (by kernel_rfl) (by kernel_rfl) (fun _ _ _ h => h) (Or.inl ⟨by rfl, ?hyp2⟩) (by assumption) ?rep2
  case hyp2 => first | (intro w hSw; (try dsimp only at hSw); go_simp; done) | (intro w hSw; (try dsimp only at hSw); go_simp; with_reducible rfl)
  try simp only [List.getElem_toArray, List.getElem_cons_zero, List.getElem_cons_succ, Act.put, List.setIfInBounds_toArray, List.set_cons_zero, List.set_cons_succ]
  refine wpAnyH_take (i := 3) (v := ?vp3) rfl (by kernel_rfl) (by kernel_rfl) (by kernel_rfl) (fun _ _ _ h => h) (Or.inl ⟨by rfl, ?hyp3⟩) (by assumption) ?rep3
  case hyp3 => first | (intro w hSw; (try dsimp only at hSw); go_simp; done) | (intro w hSw; (try dsimp only at hSw); go_simp; with_reducible rfl)
  try simp only [List.getElem_toArray, List.getElem_cons_zero, List.getElem_cons_succ, Act.put, List.setIfInBounds_toArray, List.set_cons_zero, List.set_cons_succ]
  refine wpAnyH_take (i := 4) (v := ?vp4) rfl (by kernel_rfl) (by kernel_rfl) (by kernel_rfl) (fun _ _ _ h => h) (Or.inl ⟨by rfl, ?hyp4⟩) (by assumption) ?rep4
  case hyp4 => first | (intro w hSw; (try dsimp only at hSw); go_simp; done) | (intro w hSw; (try dsimp only at hSw); go_simp; with_reducible rfl)
  try simp only [List.getElem_toArray, List.getElem_cons_zero, List.getElem_cons_succ, Act.put, List.setIfInBounds_toArray, List.set_cons_zero, List.set_cons_succ]
  refine wpAnyH_take (i := 5) (v := ?vp5) rfl (by kernel_rfl) (by kernel_rfl) (by kernel_rfl) (fun _ _ _ h => h) (Or.inl ⟨by rfl, ?hyp5⟩) (by assumption) ?rep5
  case hyp5 => first | (intro w hSw; (try dsimp only at hSw); go_simp; done) | (intro w hSw; (try dsimp only at hSw); go_simp; with_reducible rfl)
  try simp only [List.getElem_toArray, List.getElem_cons_zero, List.getElem_cons_succ, Act.put, List.setIfInBounds_toArray, List.set_cons_zero, List.set_cons_succ]
  refine wpAnyH_take (i := 6) (v := ?vp6) rfl (by kernel_rfl) (by kernel_rfl) (by kernel_rfl) (fun _ _ _ h => h) (Or.inl ⟨by rfl, ?hyp6⟩) (by assumption) ?rep6
  case hyp6 => first | (intro w hSw; (try dsimp only at hSw); go_simp; done) | (intro w hSw; (try dsimp only at hSw); go_simp; with_reducible rfl)
  try simp only [List.getElem_toArray, List.getElem_cons_zero, List.getElem_cons_succ, Act.put, List.setIfInBounds_toArray, List.set_cons_zero, List.set_cons_succ]
  refine wpAnyH_take (i := 7) (v := ?vp7) rfl (by kernel_rfl) (by kernel_rfl) (by kernel_rfl) (fun _ _ _ h => h) (Or.inl ⟨by rfl, ?hyp7⟩) (by assumption) ?rep7
  case hyp7 => first | (intro w hSw; (try dsimp only at hSw); go_simp; done) | (intro w hSw; (try dsimp only at hSw); go_simp; with_reducible rfl)
  try simp only [List.getElem_toArray, List.getElem_cons_zero, List.getElem_cons_succ, Act.put, List.setIfInBounds_toArray, List.set_cons_zero, List.set_cons_succ]
  refine wpAnyH_take (i := 9) (v := ?vp9) rfl (by kernel_rfl) (by kernel_rfl) (by kernel_rfl) (fun _ _ _ h => h) (Or.inl ⟨by rfl, ?hyp9⟩) (by assumption) ?rep9
  case hyp9 => first | (intro w hSw; (try dsimp only at hSw); go_simp; done) | (intro w hSw; (try dsimp only at hSw); go_simp; with_reducible rfl)
  try simp only [List.getElem_toArray, List.getElem_cons_zero, List.getElem_cons_succ, Act.put, List.setIfInBounds_toArray, List.set_cons_zero, List.set_cons_succ]
  refine wpAnyH_ready (rs := [0]) (by kernel_rfl) (by simp) ?_
  refine AllReadyH.cons rfl (fun K hK => ?_) AllReadyH.nil
  go_simp
  go_wp2_with (go_at_call 81; (with_reducible refine (answers_any _).mono ?_); rintro e wA ⟨MA, rfl, hMA, hbA⟩)
  refine hK.out _ _ (keep9 N3.out hbA hh0) (fun hh1 => ?_)
  clear hK K hh0
  try simp only [List.getElem_toArray, List.getElem_cons_zero, List.getElem_cons_succ, Act.put, List.setIfInBounds_toArray, List.set_cons_zero, List.set_cons_succ]
  have hLA := HL.out _ _ hMA
  clear hMA
  refine wpAnyH_ready (rs := [8]) (by kernel_rfl) (by simp) ?_
  refine AllReadyH.cons rfl (fun K hK => ?_) AllReadyH.nil
  refine step_lookup _ rfl (.tmp 18) (.tmp 25) 116 rfl (.map (some MA)) (.int .i64 t) (.func (.func 93) #[] #[]) rfl rfl hLA ?_
  refine hK.out _ _ hh1 (fun hh2 => ?_)
  clear hK K hh1 hLA
  try simp only [List.getElem_toArray, List.getElem_cons_zero, List.getElem_cons_succ, Act.put, List.setIfInBounds_toArray, List.set_cons_zero, List.set_cons_succ]
  refine wpAnyH_ready (rs := [10]) (by kernel_rfl) (by simp) ?_
  refine AllReadyH.cons rfl (fun K hK => ?_) AllReadyH.nil
  go_simp
  go_wp2_with ((with_reducible refine (HC.out _).mono ?_); rintro e wB ⟨rfl, hbB⟩)
  refine hK.out _ _ (keep9 N3.out hbB hh2) (fun hh3 => ?_)
  clear hK K hh2
  try simp only [List.getElem_toArray, List.getElem_cons_zero, List.getElem_cons_succ, Act.put, List.setIfInBounds_toArray, List.set_cons_zero, List.set_cons_succ]
  have hB3 : W.drew.heap[w.heap.size + 1 + 1]? = _ := HB3.out
  have hA3 := blk_keep (w' := wA) hB3 hbA (blk_lt hB3)
  have hC3 := blk_keep hA3 hbB (blk_lt hA3)
  have bx : Below W.heap.size W wB := ((Below.refl _ _).drew.trans hbA).trans (hbB.mono ((Below.refl _ _).drew.trans hbA).size)
  have g0 := blk_cell hC3 0 _ rfl
  have g1 := blk_cell hC3 1 _ rfl
  have g2 := blk_cell hC3 2 _ rfl
  have g3 := blk_cell hC3 3 _ rfl
  have g4 := blk_cell hC3 4 _ rfl
  have g5 := blk_cell hC3 5 _ rfl
  have g6 := blk_cell hC3 6 _ rfl
  have g7 := blk_cell hC3 7 _ rfl
  have f0 := blk_frozen hC3 0
  have f1 := blk_frozen hC3 1
  have f2 := blk_frozen hC3 2
  have f3 := blk_frozen hC3 3
  have f4 := blk_frozen hC3 4
  have f5 := blk_frozen hC3 5
  have f6 := blk_frozen hC3 6
  have f7 := blk_frozen hC3 7
  have HC3 := Lib.hid hC3
  have BX := Lib.hid bx
  clear hB3 hA3 hC3 bx hbA hbB
  refine wpAnyH_ready (rs := [11]) (by kernel_rfl) (by simp) ?_
  refine AllReadyH.cons rfl (fun K hK => ?_) AllReadyH.nil
  go_simp
  refine hK.out _ _ ?_ (fun hh4 => ?_)
  · exact keep9s (Nat.le_refl _) (by omega) (by omega) (by have := blk_lt HC3.out; omega) (below_set8 (Below.refl _ _) (Nat.le_refl _)) hh3
  clear hK K hh3 g0 g1 g2 g3 g4 g5 g6 g7 f0 f1 f2 f3 f4 f5 f6 f7
  try simp only [List.getElem_toArray, List.getElem_cons_zero, List.getElem_cons_succ, Act.put, List.setIfInBounds_toArray, List.set_cons_zero, List.set_cons_succ]
  refine wpAnyH_done (by kernel_rfl) ?_ _
  have hS := set8 (u0 := .int .i64 y.ph) (u1 := .int .i64 y.be) (u2 := .int .i64 y.mi) (u3 := .int .i64 y.wa) (u4 := .bool y.l0) (u5 := .bool y.l1) (u6 := .bool y.l2) (u7 := .bool y.te) HC3.out
  obtain ⟨g0, g1, g2, g3, g4, g5, g6, g7⟩ := rn8 (x := y) hS
  have HS := Lib.hid (blk_lt hS)
  clear hS
  go_wp2_with fail
  refine bodyPost_ret (v := rnV y) (by simp [results, Try.results57, go_sem, g0, g1, g2, g3, g4, g5, g6, g7]) rfl ⟨rfl, ?_⟩
  exact HAL.out.trans (below_set8 (BX.out.mono HAL.out.size) (by omega))
set_option maxRecDepth 100000 in
set_option maxHeartbeats 1000000 in
theorem meet_go1 (r : Ru) (ph be mi wa : Int) (l0 l1 l2 te : Bool) (d : Nat) (h4 : ¬ ph = 4) (hp : 1 ≤ ph ∧ ph ≤ 3) (y : Rn) (j : Nat) (t : Int) (w : World)
    (HL : Hid (∀ w M, AnsMap w M → (Instr.lookup 116 (.map (some M)) (.int .i64 t) false).run Try.prog w = .ok (.func (.func 94) #[] #[]) w))
    (HC : Hid (∀ w, Calls Try.prog 94 #[rnV ⟨ph, be, mi, wa, l0, l1, l2, te⟩] w (RetRn y w)))
    (HT : Hid ((ruA r)[4 + j * 3 + d]? = some (.int .i64 t))) (hw : IntKind.i64.wrap (ph - 1) = (j : Int)) (hj0 : (0 : Int) ≤ j) (hj : (j : Int) < 3) (hd0 : (0 : Int) ≤ d) (hd : (d : Int) < 3) :
    Calls Try.prog 57 #[rnV ⟨ph, be, mi, wa, l0, l1, l2, te⟩, ruV r, .int .i64 d] w (RetRn y w) := by
  have t1 : (ph == 4) = false := by simp [h4]
  have hin : inR ph 1 3 = true := goes_yes hp
  clear h4 hp
  go_enter Try.func57, Try.ntmps57
  go_wp2_with fail
  refine (in_any _ _ _ _).mono ?_
  rintro e w' ⟨rfl, rfl⟩
  rw [hin]
  clear hin t1
  go_wp2_with fail
  generalize hW0 : ((w.alloc (.cells (rnA ⟨ph, be, mi, wa, l0, l1, l2, te⟩) 30)).alloc (.cells (ruA r) 25)).alloc (.cells _ _) = W at *
  obtain ⟨hal, hB1, hB2, hB3, hWs⟩ := boxesM w _ _ _ _ W hW0.symm
  clear hW0
  obtain ⟨k0, k1, k2, k3, k4, k5, k6, k7⟩ := rn8 hB1
  have k8 : W.cell? ⟨w.heap.size + 1, 4 + j * 3 + d, none⟩ = some (.int .i64 t) := blk_cell hB2 _ _ (HT.out)
  have HB3 := Lib.hid hB3
  have N3 : Hid (w.heap.size + 1 + 1 ≤ W.heap.size) := by show _ ≤ _; omega
  have HAL := Lib.hid hal
  clear hB1 hB2 hB3 hWs hal
  refine wp_region_held_drew (S := (fun w' => Below (w.heap.size + 1 + 1) W w' ∧ w'.cell? ⟨w.heap.size, 0, none⟩ = some (.int .i64 ph) ∧ w'.cell? ⟨w.heap.size, 1, none⟩ = some (.int .i64 be) ∧ w'.cell? ⟨w.heap.size, 2, none⟩ = some (.int .i64 mi) ∧ w'.cell? ⟨w.heap.size, 3, none⟩ = some (.int .i64 wa) ∧ w'.cell? ⟨w.heap.size, 4, none⟩ = some (.bool l0) ∧ w'.cell? ⟨w.heap.size, 5, none⟩ = some (.bool l1) ∧ w'.cell? ⟨w.heap.size, 6, none⟩ = some (.bool l2) ∧ w'.cell? ⟨w.heap.size, 7, none⟩ = some (.bool te) ∧ w'.cell? ⟨w.heap.size + 1, 4 + j * 3 + d, none⟩ = some (.int .i64 t))) (by kernel_rfl) ⟨(Below.refl _ _).drew, k0, k1, k2, k3, k4, k5, k6, k7, k8⟩ (fun hh0 => ?_)
  clear k0 k1 k2 k3 k4 k5 k6 k7 k8
  refine wpAnyH_take (i := 1) (v := ?vp1) rfl (by kernel_rfl) (by kernel_rfl) (by kernel_rfl) (fun _ _ _ h => h) (Or.inl ⟨by rfl, ?hyp1⟩) (by assumption) ?rep1
  case hyp1 => first | (intro w hSw; (try dsimp only at hSw); go_simp; done) | (intro w hSw; (try dsimp only at hSw); go_simp; with_reducible rfl)
  try simp only [List.getElem_toArray, List.getElem_cons_zero, List.getElem_cons_succ, Act.put, List.setIfInBounds_toArray, List.set_cons_zero, List.set_cons_succ]
  refine wpAnyH_take (i := 2) (v := ?vp2) rfl (by kernel_rfl) (by kernel_rfl) (by kernel_rfl) (fun _ _ _ h => h) (Or.inl ⟨by rfl, ?hyp2⟩) (by assumption) ?rep2
  case hyp2 => first | (intro w hSw; (try dsimp only at hSw); go_simp; done) | (intro w hSw; (try dsimp only at hSw); go_simp; with_reducible rfl)
  try simp only [List.getElem_toArray, List.getElem_cons_zero, List.getElem_cons_succ, Act.put, List.setIfInBounds_toArray, List.set_cons_zero, List.set_cons_succ]
  refine wpAnyH_take (i := 3) (v := ?vp3) rfl (by kernel_rfl) (by kernel_rfl) (by kernel_rfl) (fun _ _ _ h => h) (Or.inl ⟨by rfl, ?hyp3⟩) (by assumption) ?rep3
  case hyp3 => first | (intro w hSw; (try dsimp only at hSw); go_simp; done) | (intro w hSw; (try dsimp only at hSw); go_simp; with_reducible rfl)
  try simp only [List.getElem_toArray, List.getElem_cons_zero, List.getElem_cons_succ, Act.put, List.setIfInBounds_toArray, List.set_cons_zero, List.set_cons_succ]
  refine wpAnyH_take (i := 4) (v := ?vp4) rfl (by kernel_rfl) (by kernel_rfl) (by kernel_rfl) (fun _ _ _ h => h) (Or.inl ⟨by rfl, ?hyp4⟩) (by assumption) ?rep4
  case hyp4 => first | (intro w hSw; (try dsimp only at hSw); go_simp; done) | (intro w hSw; (try dsimp only at hSw); go_simp; with_reducible rfl)
  try simp only [List.getElem_toArray, List.getElem_cons_zero, List.getElem_cons_succ, Act.put, List.setIfInBounds_toArray, List.set_cons_zero, List.set_cons_succ]
  refine wpAnyH_take (i := 5) (v := ?vp5) rfl (by kernel_rfl) (by kernel_rfl) (by kernel_rfl) (fun _ _ _ h => h) (Or.inl ⟨by rfl, ?hyp5⟩) (by assumption) ?rep5
  case hyp5 => first | (intro w hSw; (try dsimp only at hSw); go_simp; done) | (intro w hSw; (try dsimp only at hSw); go_simp; with_reducible rfl)
  try simp only [List.getElem_toArray, List.getElem_cons_zero, List.getElem_cons_succ, Act.put, List.setIfInBounds_toArray, List.set_cons_zero, List.set_cons_succ]
  refine wpAnyH_take (i := 6) (v := ?vp6) rfl (by kernel_rfl) (by kernel_rfl) (by kernel_rfl) (fun _ _ _ h => h) (Or.inl ⟨by rfl, ?hyp6⟩) (by assumption) ?rep6
  case hyp6 => first | (intro w hSw; (try dsimp only at hSw); go_simp; done) | (intro w hSw; (try dsimp only at hSw); go_simp; with_reducible rfl)
  try simp only [List.getElem_toArray, List.getElem_cons_zero, List.getElem_cons_succ, Act.put, List.setIfInBounds_toArray, List.set_cons_zero, List.set_cons_succ]
  refine wpAnyH_take (i := 7) (v := ?vp7) rfl (by kernel_rfl) (by kernel_rfl) (by kernel_rfl) (fun _ _ _ h => h) (Or.inl ⟨by rfl, ?hyp7⟩) (by assumption) ?rep7
  case hyp7 => first | (intro w hSw; (try dsimp only at hSw); go_simp; done) | (intro w hSw; (try dsimp only at hSw); go_simp; with_reducible rfl)
  try simp only [List.getElem_toArray, List.getElem_cons_zero, List.getElem_cons_succ, Act.put, List.setIfInBounds_toArray, List.set_cons_zero, List.set_cons_succ]
  refine wpAnyH_take (i := 9) (v := ?vp9) rfl (by kernel_rfl) (by kernel_rfl) (by kernel_rfl) (fun _ _ _ h => h) (Or.inl ⟨by rfl, ?hyp9⟩) (by assumption) ?rep9
  case hyp9 => first | (intro w hSw; (try dsimp only at hSw); go_simp; done) | (intro w hSw; (try dsimp only at hSw); go_simp; with_reducible rfl)
  try simp only [List.getElem_toArray, List.getElem_cons_zero, List.getElem_cons_succ, Act.put, List.setIfInBounds_toArray, List.set_cons_zero, List.set_cons_succ]
  refine wpAnyH_ready (rs := [0]) (by kernel_rfl) (by simp) ?_
  refine AllReadyH.cons rfl (fun K hK => ?_) AllReadyH.nil
  go_simp
  go_wp2_with (go_at_call 81; (with_reducible refine (answers_any _).mono ?_); rintro e wA ⟨MA, rfl, hMA, hbA⟩)
  refine hK.out _ _ (keep9 N3.out hbA hh0) (fun hh1 => ?_)
  clear hK K hh0
  try simp only [List.getElem_toArray, List.getElem_cons_zero, List.getElem_cons_succ, Act.put, List.setIfInBounds_toArray, List.set_cons_zero, List.set_cons_succ]
  have hLA := HL.out _ _ hMA
  clear hMA
  refine wpAnyH_ready (rs := [8]) (by kernel_rfl) (by simp) ?_
  refine AllReadyH.cons rfl (fun K hK => ?_) AllReadyH.nil
  refine step_lookup _ rfl (.tmp 18) (.tmp 25) 116 rfl (.map (some MA)) (.int .i64 t) (.func (.func 94) #[] #[]) rfl rfl hLA ?_
  refine hK.out _ _ hh1 (fun hh2 => ?_)
  clear hK K hh1 hLA
  try simp only [List.getElem_toArray, List.getElem_cons_zero, List.getElem_cons_succ, Act.put, List.setIfInBounds_toArray, List.set_cons_zero, List.set_cons_succ]
  refine wpAnyH_ready (rs := [10]) (by kernel_rfl) (by simp) ?_
  refine AllReadyH.cons rfl (fun K hK => ?_) AllReadyH.nil
  go_simp
  go_wp2_with ((with_reducible refine (HC.out _).mono ?_); rintro e wB ⟨rfl, hbB⟩)
  refine hK.out _ _ (keep9 N3.out hbB hh2) (fun hh3 => ?_)
  clear hK K hh2
  try simp only [List.getElem_toArray, List.getElem_cons_zero, List.getElem_cons_succ, Act.put, List.setIfInBounds_toArray, List.set_cons_zero, List.set_cons_succ]
  have hB3 : W.drew.heap[w.heap.size + 1 + 1]? = _ := HB3.out
  have hA3 := blk_keep (w' := wA) hB3 hbA (blk_lt hB3)
  have hC3 := blk_keep hA3 hbB (blk_lt hA3)
  have bx : Below W.heap.size W wB := ((Below.refl _ _).drew.trans hbA).trans (hbB.mono ((Below.refl _ _).drew.trans hbA).size)
  have g0 := blk_cell hC3 0 _ rfl
  have g1 := blk_cell hC3 1 _ rfl
  have g2 := blk_cell hC3 2 _ rfl
  have g3 := blk_cell hC3 3 _ rfl
  have g4 := blk_cell hC3 4 _ rfl
  have g5 := blk_cell hC3 5 _ rfl
  have g6 := blk_cell hC3 6 _ rfl
  have g7 := blk_cell hC3 7 _ rfl
  have f0 := blk_frozen hC3 0
  have f1 := blk_frozen hC3 1
  have f2 := blk_frozen hC3 2
  have f3 := blk_frozen hC3 3
  have f4 := blk_frozen hC3 4
  have f5 := blk_frozen hC3 5
  have f6 := blk_frozen hC3 6
  have f7 := blk_frozen hC3 7
  have HC3 := Lib.hid hC3
  have BX := Lib.hid bx
  clear hB3 hA3 hC3 bx hbA hbB
  refine wpAnyH_ready (rs := [11]) (by kernel_rfl) (by simp) ?_
  refine AllReadyH.cons rfl (fun K hK => ?_) AllReadyH.nil
  go_simp
  refine hK.out _ _ ?_ (fun hh4 => ?_)
  · exact keep9s (Nat.le_refl _) (by omega) (by omega) (by have := blk_lt HC3.out; omega) (below_set8 (Below.refl _ _) (Nat.le_refl _)) hh3
  clear hK K hh3 g0 g1 g2 g3 g4 g5 g6 g7 f0 f1 f2 f3 f4 f5 f6 f7
  try simp only [List.getElem_toArray, List.getElem_cons_zero, List.getElem_cons_succ, Act.put, List.setIfInBounds_toArray, List.set_cons_zero, List.set_cons_succ]
  refine wpAnyH_done (by kernel_rfl) ?_ _
  have hS := set8 (u0 := .int .i64 y.ph) (u1 := .int .i64 y.be) (u2 := .int .i64 y.mi) (u3 := .int .i64 y.wa) (u4 := .bool y.l0) (u5 := .bool y.l1) (u6 := .bool y.l2) (u7 := .bool y.te) HC3.out
  obtain ⟨g0, g1, g2, g3, g4, g5, g6, g7⟩ := rn8 (x := y) hS
  have HS := Lib.hid (blk_lt hS)
  clear hS
  go_wp2_with fail
  refine bodyPost_ret (v := rnV y) (by simp [results, Try.results57, go_sem, g0, g1, g2, g3, g4, g5, g6, g7]) rfl ⟨rfl, ?_⟩
  exact HAL.out.trans (below_set8 (BX.out.mono HAL.out.size) (by omega))
set_option maxRecDepth 100000 in
set_option maxHeartbeats 1000000 in
theorem meet_go2 (r : Ru) (ph be mi wa : Int) (l0 l1 l2 te : Bool) (d : Nat) (h4 : ¬ ph = 4) (hp : 1 ≤ ph ∧ ph ≤ 3) (y : Rn) (j : Nat) (t : Int) (w : World)
    (HL : Hid (∀ w M, AnsMap w M → (Instr.lookup 116 (.map (some M)) (.int .i64 t) false).run Try.prog w = .ok (.func (.func 95) #[] #[]) w))
    (HC : Hid (∀ w, Calls Try.prog 95 #[rnV ⟨ph, be, mi, wa, l0, l1, l2, te⟩] w (RetRn y w)))
    (HT : Hid ((ruA r)[4 + j * 3 + d]? = some (.int .i64 t))) (hw : IntKind.i64.wrap (ph - 1) = (j : Int)) (hj0 : (0 : Int) ≤ j) (hj : (j : Int) < 3) (hd0 : (0 : Int) ≤ d) (hd : (d : Int) < 3) :
    Calls Try.prog 57 #[rnV ⟨ph, be, mi, wa, l0, l1, l2, te⟩, ruV r, .int .i64 d] w (RetRn y w) := by
  have t1 : (ph == 4) = false := by simp [h4]
  have hin : inR ph 1 3 = true := goes_yes hp
  clear h4 hp
  go_enter Try.func57, Try.ntmps57
  go_wp2_with fail
  refine (in_any _ _ _ _).mono ?_
  rintro e w' ⟨rfl, rfl⟩
  rw [hin]
  clear hin t1
  go_wp2_with fail
  generalize hW0 : ((w.alloc (.cells (rnA ⟨ph, be, mi, wa, l0, l1, l2, te⟩) 30)).alloc (.cells (ruA r) 25)).alloc (.cells _ _) = W at *
  obtain ⟨hal, hB1, hB2, hB3, hWs⟩ := boxesM w _ _ _ _ W hW0.symm
  clear hW0
  obtain ⟨k0, k1, k2, k3, k4, k5, k6, k7⟩ := rn8 hB1
  have k8 : W.cell? ⟨w.heap.size + 1, 4 + j * 3 + d, none⟩ = some (.int .i64 t) := blk_cell hB2 _ _ (HT.out)
  have HB3 := Lib.hid hB3
  have N3 : Hid (w.heap.size + 1 + 1 ≤ W.heap.size) := by show _ ≤ _; omega
  have HAL := Lib.hid hal
  clear hB1 hB2 hB3 hWs hal
  refine wp_region_held_drew (S := (fun w' => Below (w.heap.size + 1 + 1) W w' ∧ w'.cell? ⟨w.heap.size, 0, none⟩ = some (.int .i64 ph) ∧ w'.cell? ⟨w.heap.size, 1, none⟩ = some (.int .i64 be) ∧ w'.cell? ⟨w.heap.size, 2, none⟩ = some (.int .i64 mi) ∧ w'.cell? ⟨w.heap.size, 3, none⟩ = some (.int .i64 wa) ∧ w'.cell? ⟨w.heap.size, 4, none⟩ = some (.bool l0) ∧ w'.cell? ⟨w.heap.size, 5, none⟩ = some (.bool l1) ∧ w'.cell? ⟨w.heap.size, 6, none⟩ = some (.bool l2) ∧ w'.cell? ⟨w.heap.size, 7, none⟩ = some (.bool te) ∧ w'.cell? ⟨w.heap.size + 1, 4 + j * 3 + d, none⟩ = some (.int .i64 t))) (by kernel_rfl) ⟨(Below.refl _ _).drew, k0, k1, k2, k3, k4, k5, k6, k7, k8⟩ (fun hh0 => ?_)
  clear k0 k1 k2 k3 k4 k5 k6 k7 k8
  refine wpAnyH_take (i := 1) (v := ?vp1) rfl (by kernel_rfl) (by kernel_rfl) (by kernel_rfl) (fun _ _ _ h => h) (Or.inl ⟨by rfl, ?hyp1⟩) (by assumption) ?rep1
  case hyp1 => first | (intro w hSw; (try dsimp only at hSw); go_simp; done) | (intro w hSw; (try dsimp only at hSw); go_simp; with_reducible rfl)
  try simp only [List.getElem_toArray, List.getElem_cons_zero, List.getElem_cons_succ, Act.put, List.setIfInBounds_toArray, List.set_cons_zero, List.set_cons_succ]
  refine wpAnyH_take (i := 2) (v := ?vp2) rfl (by kernel_rfl) (by kernel_rfl) (by kernel_rfl) (fun _ _ _ h => h) (Or.inl ⟨by rfl, ?hyp2⟩) (by assumption) ?rep2
  case hyp2 => first | (intro w hSw; (try dsimp only at hSw); go_simp; done) | (intro w hSw; (try dsimp only at hSw); go_simp; with_reducible rfl)
  try simp only [List.getElem_toArray, List.getElem_cons_zero, List.getElem_cons_succ, Act.put, List.setIfInBounds_toArray, List.set_cons_zero, List.set_cons_succ]
  refine wpAnyH_take (i := 3) (v := ?vp3) rfl (by kernel_rfl) (by kernel_rfl) (by kernel_rfl) (fun _ _ _ h => h) (Or.inl ⟨by rfl, ?hyp3⟩) (by assumption) ?rep3
  case hyp3 => first | (intro w hSw; (try dsimp only at hSw); go_simp; done) | (intro w hSw; (try dsimp only at hSw); go_simp; with_reducible rfl)
  try simp only [List.getElem_toArray, List.getElem_cons_zero, List.getElem_cons_succ, Act.put, List.setIfInBounds_toArray, List.set_cons_zero, List.set_cons_succ]
  refine wpAnyH_take (i := 4) (v := ?vp4) rfl (by kernel_rfl) (by kernel_rfl) (by kernel_rfl) (fun _ _ _ h => h) (Or.inl ⟨by rfl, ?hyp4⟩) (by assumption) ?rep4
  case hyp4 => first | (intro w hSw; (try dsimp only at hSw); go_simp; done) | (intro w hSw; (try dsimp only at hSw); go_simp; with_reducible rfl)
  try simp only [List.getElem_toArray, List.getElem_cons_zero, List.getElem_cons_succ, Act.put, List.setIfInBounds_toArray, List.set_cons_zero, List.set_cons_succ]
  refine wpAnyH_take (i := 5) (v := ?vp5) rfl (by kernel_rfl) (by kernel_rfl) (by kernel_rfl) (fun _ _ _ h => h) (Or.inl ⟨by rfl, ?hyp5⟩) (by assumption) ?rep5
  case hyp5 => first | (intro w hSw; (try dsimp only at hSw); go_simp; done) | (intro w hSw; (try dsimp only at hSw); go_simp; with_reducible rfl)
  try simp only [List.getElem_toArray, List.getElem_cons_zero, List.getElem_cons_succ, Act.put, List.setIfInBounds_toArray, List.set_cons_zero, List.set_cons_succ]
  refine wpAnyH_take (i := 6) (v := ?vp6) rfl (by kernel_rfl) (by kernel_rfl) (by kernel_rfl) (fun _ _ _ h => h) (Or.inl ⟨by rfl, ?hyp6⟩) (by assumption) ?rep6
  case hyp6 => first | (intro w hSw; (try dsimp only at hSw); go_simp; done) | (intro w hSw; (try dsimp only at hSw); go_simp; with_reducible rfl)
  try simp only [List.getElem_toArray, List.getElem_cons_zero, List.getElem_cons_succ, Act.put, List.setIfInBounds_toArray, List.set_cons_zero, List.set_cons_succ]
  refine wpAnyH_take (i := 7) (v := ?vp7) rfl (by kernel_rfl) (by kernel_rfl) (by kernel_rfl) (fun _ _ _ h => h) (Or.inl ⟨by rfl, ?hyp7⟩) (by assumption) ?rep7
  case hyp7 => first | (intro w hSw; (try dsimp only at hSw); go_simp; done) | (intro w hSw; (try dsimp only at hSw); go_simp; with_reducible rfl)
  try simp only [List.getElem_toArray, List.getElem_cons_zero, List.getElem_cons_succ, Act.put, List.setIfInBounds_toArray, List.set_cons_zero, List.set_cons_succ]
  refine wpAnyH_take (i := 9) (v := ?vp9) rfl (by kernel_rfl) (by kernel_rfl) (by kernel_rfl) (fun _ _ _ h => h) (Or.inl ⟨by rfl, ?hyp9⟩) (by assumption) ?rep9
  case hyp9 => first | (intro w hSw; (try dsimp only at hSw); go_simp; done) | (intro w hSw; (try dsimp only at hSw); go_simp; with_reducible rfl)
  try simp only [List.getElem_toArray, List.getElem_cons_zero, List.getElem_cons_succ, Act.put, List.setIfInBounds_toArray, List.set_cons_zero, List.set_cons_succ]
  refine wpAnyH_ready (rs := [0]) (by kernel_rfl) (by simp) ?_
  refine AllReadyH.cons rfl (fun K hK => ?_) AllReadyH.nil
  go_simp
  go_wp2_with (go_at_call 81; (with_reducible refine (answers_any _).mono ?_); rintro e wA ⟨MA, rfl, hMA, hbA⟩)
  refine hK.out _ _ (keep9 N3.out hbA hh0) (fun hh1 => ?_)
  clear hK K hh0
  try simp only [List.getElem_toArray, List.getElem_cons_zero, List.getElem_cons_succ, Act.put, List.setIfInBounds_toArray, List.set_cons_zero, List.set_cons_succ]
  have hLA := HL.out _ _ hMA
  clear hMA
  refine wpAnyH_ready (rs := [8]) (by kernel_rfl) (by simp) ?_
  refine AllReadyH.cons rfl (fun K hK => ?_) AllReadyH.nil
  refine step_lookup _ rfl (.tmp 18) (.tmp 25) 116 rfl (.map (some MA)) (.int .i64 t) (.func (.func 95) #[] #[]) rfl rfl hLA ?_
  refine hK.out _ _ hh1 (fun hh2 => ?_)
  clear hK K hh1 hLA
  try simp only [List.getElem_toArray, List.getElem_cons_zero, List.getElem_cons_succ, Act.put, List.setIfInBounds_toArray, List.set_cons_zero, List.set_cons_succ]
  refine wpAnyH_ready (rs := [10]) (by kernel_rfl) (by simp) ?_
  refine AllReadyH.cons rfl (fun K hK => ?_) AllReadyH.nil
  go_simp
  go_wp2_with ((with_reducible refine (HC.out _).mono ?_); rintro e wB ⟨rfl, hbB⟩)
  refine hK.out _ _ (keep9 N3.out hbB hh2) (fun hh3 => ?_)
  clear hK K hh2
  try simp only [List.getElem_toArray, List.getElem_cons_zero, List.getElem_cons_succ, Act.put, List.setIfInBounds_toArray, List.set_cons_zero, List.set_cons_succ]
  have hB3 : W.drew.heap[w.heap.size + 1 + 1]? = _ := HB3.out
  have hA3 := blk_keep (w' := wA) hB3 hbA (blk_lt hB3)
  have hC3 := blk_keep hA3 hbB (blk_lt hA3)
  have bx : Below W.heap.size W wB := ((Below.refl _ _).drew.trans hbA).trans (hbB.mono ((Below.refl _ _).drew.trans hbA).size)
  have g0 := blk_cell hC3 0 _ rfl
  have g1 := blk_cell hC3 1 _ rfl
  have g2 := blk_cell hC3 2 _ rfl
  have g3 := blk_cell hC3 3 _ rfl
  have g4 := blk_cell hC3 4 _ rfl
  have g5 := blk_cell hC3 5 _ rfl
  have g6 := blk_cell hC3 6 _ rfl
  have g7 := blk_cell hC3 7 _ rfl
  have f0 := blk_frozen hC3 0
  have f1 := blk_frozen hC3 1
  have f2 := blk_frozen hC3 2
  have f3 := blk_frozen hC3 3
  have f4 := blk_frozen hC3 4
  have f5 := blk_frozen hC3 5
  have f6 := blk_frozen hC3 6
  have f7 := blk_frozen hC3 7
  have HC3 := Lib.hid hC3
  have BX := Lib.hid bx
  clear hB3 hA3 hC3 bx hbA hbB
  refine wpAnyH_ready (rs := [11]) (by kernel_rfl) (by simp) ?_
  refine AllReadyH.cons rfl (fun K hK => ?_) AllReadyH.nil
  go_simp
  refine hK.out _ _ ?_ (fun hh4 => ?_)
  · exact keep9s (Nat.le_refl _) (by omega) (by omega) (by have := blk_lt HC3.out; omega) (below_set8 (Below.refl _ _) (Nat.le_refl _)) hh3
  clear hK K hh3 g0 g1 g2 g3 g4 g5 g6 g7 f0 f1 f2 f3 f4 f5 f6 f7
  try simp only [List.getElem_toArray, List.getElem_cons_zero, List.getElem_cons_succ, Act.put, List.setIfInBounds_toArray, List.set_cons_zero, List.set_cons_succ]
  refine wpAnyH_done (by kernel_rfl) ?_ _
  have hS := set8 (u0 := .int .i64 y.ph) (u1 := .int .i64 y.be) (u2 := .int .i64 y.mi) (u3 := .int .i64 y.wa) (u4 := .bool y.l0) (u5 := .bool y.l1) (u6 := .bool y.l2) (u7 := .bool y.te) HC3.out
  obtain ⟨g0, g1, g2, g3, g4, g5, g6, g7⟩ := rn8 (x := y) hS
  have HS := Lib.hid (blk_lt hS)
  clear hS
  go_wp2_with fail
  refine bodyPost_ret (v := rnV y) (by simp [results, Try.results57, go_sem, g0, g1, g2, g3, g4, g5, g6, g7]) rfl ⟨rfl, ?_⟩
  exact HAL.out.trans (below_set8 (BX.out.mono HAL.out.size) (by omega))
set_option maxRecDepth 100000 in
set_option maxHeartbeats 1000000 in
theorem meet_go3 (r : Ru) (ph be mi wa : Int) (l0 l1 l2 te : Bool) (d : Nat) (h4 : ¬ ph = 4) (hp : 1 ≤ ph ∧ ph ≤ 3) (y : Rn) (j : Nat) (t : Int) (w : World)
    (HL : Hid (∀ w M, AnsMap w M → (Instr.lookup 116 (.map (some M)) (.int .i64 t) false).run Try.prog w = .ok (.func (.func 96) #[] #[]) w))
    (HC : Hid (∀ w, Calls Try.prog 96 #[rnV ⟨ph, be, mi, wa, l0, l1, l2, te⟩] w (RetRn y w)))
    (HT : Hid ((ruA r)[4 + j * 3 + d]? = some (.int .i64 t))) (hw : IntKind.i64.wrap (ph - 1) = (j : Int)) (hj0 : (0 : Int) ≤ j) (hj : (j : Int) < 3) (hd0 : (0 : Int) ≤ d) (hd : (d : Int) < 3) :
    Calls Try.prog 57 #[rnV ⟨ph, be, mi, wa, l0, l1, l2, te⟩, ruV r, .int .i64 d] w (RetRn y w) := by
  have t1 : (ph == 4) = false := by simp [h4]
  have hin : inR ph 1 3 = true := goes_yes hp
  clear h4 hp
  go_enter Try.func57, Try.ntmps57
  go_wp2_with fail
  refine (in_any _ _ _ _).mono ?_
  rintro e w' ⟨rfl, rfl⟩
  rw [hin]
  clear hin t1
  go_wp2_with fail
  generalize hW0 : ((w.alloc (.cells (rnA ⟨ph, be, mi, wa, l0, l1, l2, te⟩) 30)).alloc (.cells (ruA r) 25)).alloc (.cells _ _) = W at *
  obtain ⟨hal, hB1, hB2, hB3, hWs⟩ := boxesM w _ _ _ _ W hW0.symm
  clear hW0
  obtain ⟨k0, k1, k2, k3, k4, k5, k6, k7⟩ := rn8 hB1
  have k8 : W.cell? ⟨w.heap.size + 1, 4 + j * 3 + d, none⟩ = some (.int .i64 t) := blk_cell hB2 _ _ (HT.out)
  have HB3 := Lib.hid hB3
  have N3 : Hid (w.heap.size + 1 + 1 ≤ W.heap.size) := by show _ ≤ _; omega
  have HAL := Lib.hid hal
  clear hB1 hB2 hB3 hWs hal
  refine wp_region_held_drew (S := (fun w' => Below (w.heap.size + 1 + 1) W w' ∧ w'.cell? ⟨w.heap.size, 0, none⟩ = some (.int .i64 ph) ∧ w'.cell? ⟨w.heap.size, 1, none⟩ = some (.int .i64 be) ∧ w'.cell? ⟨w.heap.size, 2, none⟩ = some (.int .i64 mi) ∧ w'.cell? ⟨w.heap.size, 3, none⟩ = some (.int .i64 wa) ∧ w'.cell? ⟨w.heap.size, 4, none⟩ = some (.bool l0) ∧ w'.cell? ⟨w.heap.size, 5, none⟩ = some (.bool l1) ∧ w'.cell? ⟨w.heap.size, 6, none⟩ = some (.bool l2) ∧ w'.cell? ⟨w.heap.size, 7, none⟩ = some (.bool te) ∧ w'.cell? ⟨w.heap.size + 1, 4 + j * 3 + d, none⟩ = some (.int .i64 t))) (by kernel_rfl) ⟨(Below.refl _ _).drew, k0, k1, k2, k3, k4, k5, k6, k7, k8⟩ (fun hh0 => ?_)
  clear k0 k1 k2 k3 k4 k5 k6 k7 k8
  refine wpAnyH_take (i := 1) (v := ?vp1) rfl (by kernel_rfl) (by kernel_rfl) (by kernel_rfl) (fun _ _ _ h => h) (Or.inl ⟨by rfl, ?hyp1⟩) (by assumption) ?rep1
  case hyp1 => first | (intro w hSw; (try dsimp only at hSw); go_simp; done) | (intro w hSw; (try dsimp only at hSw); go_simp; with_reducible rfl)
  try simp only [List.getElem_toArray, List.getElem_cons_zero, List.getElem_cons_succ, Act.put, List.setIfInBounds_toArray, List.set_cons_zero, List.set_cons_succ]
  refine wpAnyH_take (i := 2) (v := ?vp2) rfl (by kernel_rfl) (by kernel_rfl) (by kernel_rfl) (fun _ _ _ h => h) (Or.inl ⟨by rfl, ?hyp2⟩) (by assumption) ?rep2
  case hyp2 => first | (intro w hSw; (try dsimp only at hSw); go_simp; done) | (intro w hSw; (try dsimp only at hSw); go_simp; with_reducible rfl)
  try simp only [List.getElem_toArray, List.getElem_cons_zero, List.getElem_cons_succ, Act.put, List.setIfInBounds_toArray, List.set_cons_zero, List.set_cons_succ]
  refine wpAnyH_take (i := 3) (v := ?vp3) rfl (by kernel_rfl) (by kernel_rfl) (by kernel_rfl) (fun _ _ _ h => h) (Or.inl ⟨by rfl, ?hyp3⟩) (by assumption) ?rep3
  case hyp3 => first | (intro w hSw; (try dsimp only at hSw); go_simp; done) | (intro w hSw; (try dsimp only at hSw); go_simp; with_reducible rfl)
  try simp only [List.getElem_toArray, List.getElem_cons_zero, List.getElem_cons_succ, Act.put, List.setIfInBounds_toArray, List.set_cons_zero, List.set_cons_succ]
  refine wpAnyH_take (i := 4) (v := ?vp4) rfl (by kernel_rfl) (by kernel_rfl) (by kernel_rfl) (fun _ _ _ h => h) (Or.inl ⟨by rfl, ?hyp4⟩) (by assumption) ?rep4
  case hyp4 => first | (intro w hSw; (try dsimp only at hSw); go_simp; done) | (intro w hSw; (try dsimp only at hSw); go_simp; with_reducible rfl)
  try simp only [List.getElem_toArray, List.getElem_cons_zero, List.getElem_cons_succ, Act.put, List.setIfInBounds_toArray, List.set_cons_zero, List.set_cons_succ]
  refine wpAnyH_take (i := 5) (v := ?vp5) rfl (by kernel_rfl) (by kernel_rfl) (by kernel_rfl) (fun _ _ _ h => h) (Or.inl ⟨by rfl, ?hyp5⟩) (by assumption) ?rep5
  case hyp5 => first | (intro w hSw; (try dsimp only at hSw); go_simp; done) | (intro w hSw; (try dsimp only at hSw); go_simp; with_reducible rfl)
  try simp only [List.getElem_toArray, List.getElem_cons_zero, List.getElem_cons_succ, Act.put, List.setIfInBounds_toArray, List.set_cons_zero, List.set_cons_succ]
  refine wpAnyH_take (i := 6) (v := ?vp6) rfl (by kernel_rfl) (by kernel_rfl) (by kernel_rfl) (fun _ _ _ h => h) (Or.inl ⟨by rfl, ?hyp6⟩) (by assumption) ?rep6
  case hyp6 => first | (intro w hSw; (try dsimp only at hSw); go_simp; done) | (intro w hSw; (try dsimp only at hSw); go_simp; with_reducible rfl)
  try simp only [List.getElem_toArray, List.getElem_cons_zero, List.getElem_cons_succ, Act.put, List.setIfInBounds_toArray, List.set_cons_zero, List.set_cons_succ]
  refine wpAnyH_take (i := 7) (v := ?vp7) rfl (by kernel_rfl) (by kernel_rfl) (by kernel_rfl) (fun _ _ _ h => h) (Or.inl ⟨by rfl, ?hyp7⟩) (by assumption) ?rep7
  case hyp7 => first | (intro w hSw; (try dsimp only at hSw); go_simp; done) | (intro w hSw; (try dsimp only at hSw); go_simp; with_reducible rfl)
  try simp only [List.getElem_toArray, List.getElem_cons_zero, List.getElem_cons_succ, Act.put, List.setIfInBounds_toArray, List.set_cons_zero, List.set_cons_succ]
  refine wpAnyH_take (i := 9) (v := ?vp9) rfl (by kernel_rfl) (by kernel_rfl) (by kernel_rfl) (fun _ _ _ h => h) (Or.inl ⟨by rfl, ?hyp9⟩) (by assumption) ?rep9
  case hyp9 => first | (intro w hSw; (try dsimp only at hSw); go_simp; done) | (intro w hSw; (try dsimp only at hSw); go_simp; with_reducible rfl)
  try simp only [List.getElem_toArray, List.getElem_cons_zero, List.getElem_cons_succ, Act.put, List.setIfInBounds_toArray, List.set_cons_zero, List.set_cons_succ]
  refine wpAnyH_ready (rs := [0]) (by kernel_rfl) (by simp) ?_
  refine AllReadyH.cons rfl (fun K hK => ?_) AllReadyH.nil
  go_simp
  go_wp2_with (go_at_call 81; (with_reducible refine (answers_any _).mono ?_); rintro e wA ⟨MA, rfl, hMA, hbA⟩)
  refine hK.out _ _ (keep9 N3.out hbA hh0) (fun hh1 => ?_)
  clear hK K hh0
  try simp only [List.getElem_toArray, List.getElem_cons_zero, List.getElem_cons_succ, Act.put, List.setIfInBounds_toArray, List.set_cons_zero, List.set_cons_succ]
  have hLA := HL.out _ _ hMA
  clear hMA
  refine wpAnyH_ready (rs := [8]) (by kernel_rfl) (by simp) ?_
  refine AllReadyH.cons rfl (fun K hK => ?_) AllReadyH.nil
  refine step_lookup _ rfl (.tmp 18) (.tmp 25) 116 rfl (.map (some MA)) (.int .i64 t) (.func (.func 96) #[] #[]) rfl rfl hLA ?_
  refine hK.out _ _ hh1 (fun hh2 => ?_)
  clear hK K hh1 hLA
  try simp only [List.getElem_toArray, List.getElem_cons_zero, List.getElem_cons_succ, Act.put, List.setIfInBounds_toArray, List.set_cons_zero, List.set_cons_succ]
  refine wpAnyH_ready (rs := [10]) (by kernel_rfl) (by simp) ?_
  refine AllReadyH.cons rfl (fun K hK => ?_) AllReadyH.nil
  go_simp
  go_wp2_with ((with_reducible refine (HC.out _).mono ?_); rintro e wB ⟨rfl, hbB⟩)
  refine hK.out _ _ (keep9 N3.out hbB hh2) (fun hh3 => ?_)
  clear hK K hh2
  try simp only [List.getElem_toArray, List.getElem_cons_zero, List.getElem_cons_succ, Act.put, List.setIfInBounds_toArray, List.set_cons_zero, List.set_cons_succ]
  have hB3 : W.drew.heap[w.heap.size + 1 + 1]? = _ := HB3.out
  have hA3 := blk_keep (w' := wA) hB3 hbA (blk_lt hB3)
  have hC3 := blk_keep hA3 hbB (blk_lt hA3)
  have bx : Below W.heap.size W wB := ((Below.refl _ _).drew.trans hbA).trans (hbB.mono ((Below.refl _ _).drew.trans hbA).size)
  have g0 := blk_cell hC3 0 _ rfl
  have g1 := blk_cell hC3 1 _ rfl
  have g2 := blk_cell hC3 2 _ rfl
  have g3 := blk_cell hC3 3 _ rfl
  have g4 := blk_cell hC3 4 _ rfl
  have g5 := blk_cell hC3 5 _ rfl
  have g6 := blk_cell hC3 6 _ rfl
  have g7 := blk_cell hC3 7 _ rfl
  have f0 := blk_frozen hC3 0
  have f1 := blk_frozen hC3 1
  have f2 := blk_frozen hC3 2
  have f3 := blk_frozen hC3 3
  have f4 := blk_frozen hC3 4
  have f5 := blk_frozen hC3 5
  have f6 := blk_frozen hC3 6
  have f7 := blk_frozen hC3 7
  have HC3 := Lib.hid hC3
  have BX := Lib.hid bx
  clear hB3 hA3 hC3 bx hbA hbB
  refine wpAnyH_ready (rs := [11]) (by kernel_rfl) (by simp) ?_
  refine AllReadyH.cons rfl (fun K hK => ?_) AllReadyH.nil
  go_simp
  refine hK.out _ _ ?_ (fun hh4 => ?_)
  · exact keep9s (Nat.le_refl _) (by omega) (by omega) (by have := blk_lt HC3.out; omega) (below_set8 (Below.refl _ _) (Nat.le_refl _)) hh3
  clear hK K hh3 g0 g1 g2 g3 g4 g5 g6 g7 f0 f1 f2 f3 f4 f5 f6 f7
  try simp only [List.getElem_toArray, List.getElem_cons_zero, List.getElem_cons_succ, Act.put, List.setIfInBounds_toArray, List.set_cons_zero, List.set_cons_succ]
  refine wpAnyH_done (by kernel_rfl) ?_ _
  have hS := set8 (u0 := .int .i64 y.ph) (u1 := .int .i64 y.be) (u2 := .int .i64 y.mi) (u3 := .int .i64 y.wa) (u4 := .bool y.l0) (u5 := .bool y.l1) (u6 := .bool y.l2) (u7 := .bool y.te) HC3.out
  obtain ⟨g0, g1, g2, g3, g4, g5, g6, g7⟩ := rn8 (x := y) hS
  have HS := Lib.hid (blk_lt hS)
  clear hS
  go_wp2_with fail
  refine bodyPost_ret (v := rnV y) (by simp [results, Try.results57, go_sem, g0, g1, g2, g3, g4, g5, g6, g7]) rfl ⟨rfl, ?_⟩
  exact HAL.out.trans (below_set8 (BX.out.mono HAL.out.size) (by omega))
set_option maxRecDepth 100000 in
set_option maxHeartbeats 1000000 in
theorem meet_go0w (r : Ru) (be mi wa : Int) (l0 l1 l2 te : Bool) (d : Nat) (hp : 1 ≤ be ∧ be ≤ 3) (y : Rn) (j : Nat) (t : Int) (w : World)
    (HL : Hid (∀ w M, AnsMap w M → (Instr.lookup 116 (.map (some M)) (.int .i64 t) false).run Try.prog w = .ok (.func (.func 93) #[] #[]) w))
    (HC : Hid (∀ w, Calls Try.prog 93 #[rnV ⟨4, be, mi, wa, l0, l1, l2, te⟩] w (RetRn y w)))
    (HT : Hid ((ruA r)[4 + j * 3 + d]? = some (.int .i64 t))) (hw : IntKind.i64.wrap (be - 1) = (j : Int)) (hj0 : (0 : Int) ≤ j) (hj : (j : Int) < 3) (hd0 : (0 : Int) ≤ d) (hd : (d : Int) < 3) :
    Calls Try.prog 57 #[rnV ⟨4, be, mi, wa, l0, l1, l2, te⟩, ruV r, .int .i64 d] w (RetRn y w) := by
  have hin : inR be 1 3 = true := goes_yes hp
  clear hp
  go_enter Try.func57, Try.ntmps57
  go_wp2_with fail
  refine (in_any _ _ _ _).mono ?_
  rintro e w' ⟨rfl, rfl⟩
  rw [hin]
  clear hin
  go_wp2_with fail
  generalize hW0 : ((w.alloc (.cells (rnA ⟨4, be, mi, wa, l0, l1, l2, te⟩) 30)).alloc (.cells (ruA r) 25)).alloc (.cells _ _) = W at *
  obtain ⟨hal, hB1, hB2, hB3, hWs⟩ := boxesM w _ _ _ _ W hW0.symm
  clear hW0
  obtain ⟨k0, k1, k2, k3, k4, k5, k6, k7⟩ := rn8 hB1
  have k8 : W.cell? ⟨w.heap.size + 1, 4 + j * 3 + d, none⟩ = some (.int .i64 t) := blk_cell hB2 _ _ (HT.out)
  have HB3 := Lib.hid hB3
  have N3 : Hid (w.heap.size + 1 + 1 ≤ W.heap.size) := by show _ ≤ _; omega
  have HAL := Lib.hid hal
  clear hB1 hB2 hB3 hWs hal
  refine wp_region_held_drew (S := (fun w' => Below (w.heap.size + 1 + 1) W w' ∧ w'.cell? ⟨w.heap.size, 0, none⟩ = some (.int .i64 4) ∧ w'.cell? ⟨w.heap.size, 1, none⟩ = some (.int .i64 be) ∧ w'.cell? ⟨w.heap.size, 2, none⟩ = some (.int .i64 mi) ∧ w'.cell? ⟨w.heap.size, 3, none⟩ = some (.int .i64 wa) ∧ w'.cell? ⟨w.heap.size, 4, none⟩ = some (.bool l0) ∧ w'.cell? ⟨w.heap.size, 5, none⟩ = some (.bool l1) ∧ w'.cell? ⟨w.heap.size, 6, none⟩ = some (.bool l2) ∧ w'.cell? ⟨w.heap.size, 7, none⟩ = some (.bool te) ∧ w'.cell? ⟨w.heap.size + 1, 4 + j * 3 + d, none⟩ = some (.int .i64 t))) (by kernel_rfl) ⟨(Below.refl _ _).drew, k0, k1, k2, k3, k4, k5, k6, k7, k8⟩ (fun hh0 => ?_)
  clear k0 k1 k2 k3 k4 k5 k6 k7 k8
  refine wpAnyH_take (i := 1) (v := ?vp1) rfl (by kernel_rfl) (by kernel_rfl) (by kernel_rfl) (fun _ _ _ h => h) (Or.inl ⟨by rfl, ?hyp1⟩) (by assumption) ?rep1
  case hyp1 => first | (intro w hSw; (try dsimp only at hSw); go_simp; done) | (intro w hSw; (try dsimp only at hSw); go_simp; with_reducible rfl)
  try simp only [List.getElem_toArray, List.getElem_cons_zero, List.getElem_cons_succ, Act.put, List.setIfInBounds_toArray, List.set_cons_zero, List.set_cons_succ]
  refine wpAnyH_take (i := 2) (v := ?vp2) rfl (by kernel_rfl) (by kernel_rfl) (by kernel_rfl) (fun _ _ _ h => h) (Or.inl ⟨by rfl, ?hyp2⟩) (by assumption) ?rep2
  case hyp2 => first | (intro w hSw; (try dsimp only at hSw); go_simp; done) | (intro w hSw; (try dsimp only at hSw); go_simp; with_reducible rfl)
  try simp only [List.getElem_toArray, List.getElem_cons_zero, List.getElem_cons_succ, Act.put, List.setIfInBounds_toArray, List.set_cons_zero, List.set_cons_succ]
  refine wpAnyH_take (i := 3) (v := ?vp3) rfl (by kernel_rfl) (by kernel_rfl) (by kernel_rfl) (fun _ _ _ h => h) (Or.inl ⟨by rfl, ?hyp3⟩) (by assumption) ?rep3
  case hyp3 => first | (intro w hSw; (try dsimp only at hSw); go_simp; done) | (intro w hSw; (try dsimp only at hSw); go_simp; with_reducible rfl)
  try simp only [List.getElem_toArray, List.getElem_cons_zero, List.getElem_cons_succ, Act.put, List.setIfInBounds_toArray, List.set_cons_zero, List.set_cons_succ]
  refine wpAnyH_take (i := 4) (v := ?vp4) rfl (by kernel_rfl) (by kernel_rfl) (by kernel_rfl) (fun _ _ _ h => h) (Or.inl ⟨by rfl, ?hyp4⟩) (by assumption) ?rep4
  case hyp4 => first | (intro w hSw; (try dsimp only at hSw); go_simp; done) | (intro w hSw; (try dsimp only at hSw); go_simp; with_reducible rfl)
  try simp only [List.getElem_toArray, List.getElem_cons_zero, List.getElem_cons_succ, Act.put, List.setIfInBounds_toArray, List.set_cons_zero, List.set_cons_succ]
  refine wpAnyH_take (i := 5) (v := ?vp5) rfl (by kernel_rfl) (by kernel_rfl) (by kernel_rfl) (fun _ _ _ h => h) (Or.inl ⟨by rfl, ?hyp5⟩) (by assumption) ?rep5
  case hyp5 => first | (intro w hSw; (try dsimp only at hSw); go_simp; done) | (intro w hSw; (try dsimp only at hSw); go_simp; with_reducible rfl)
  try simp only [List.getElem_toArray, List.getElem_cons_zero, List.getElem_cons_succ, Act.put, List.setIfInBounds_toArray, List.set_cons_zero, List.set_cons_succ]
  refine wpAnyH_take (i := 6) (v := ?vp6) rfl (by kernel_rfl) (by kernel_rfl) (by kernel_rfl) (fun _ _ _ h => h) (Or.inl ⟨by rfl, ?hyp6⟩) (by assumption) ?rep6
  case hyp6 => first | (intro w hSw; (try dsimp only at hSw); go_simp; done) | (intro w hSw; (try dsimp only at hSw); go_simp; with_reducible rfl)
  try simp only [List.getElem_toArray, List.getElem_cons_zero, List.getElem_cons_succ, Act.put, List.setIfInBounds_toArray, List.set_cons_zero, List.set_cons_succ]
  refine wpAnyH_take (i := 7) (v := ?vp7) rfl (by kernel_rfl) (by kernel_rfl) (by kernel_rfl) (fun _ _ _ h => h) (Or.inl ⟨by rfl, ?hyp7⟩) (by assumption) ?rep7
  case hyp7 => first | (intro w hSw; (try dsimp only at hSw); go_simp; done) | (intro w hSw; (try dsimp only at hSw); go_simp; with_reducible rfl)
  try simp only [List.getElem_toArray, List.getElem_cons_zero, List.getElem_cons_succ, Act.put, List.setIfInBounds_toArray, List.set_cons_zero, List.set_cons_succ]
  refine wpAnyH_take (i := 9) (v := ?vp9) rfl (by kernel_rfl) (by kernel_rfl) (by kernel_rfl) (fun _ _ _ h => h) (Or.inl ⟨by rfl, ?hyp9⟩) (by assumption) ?rep9
  case hyp9 => first | (intro w hSw; (try dsimp only at hSw); go_simp; done) | (intro w hSw; (try dsimp only at hSw); go_simp; with_reducible rfl)
  try simp only [List.getElem_toArray, List.getElem_cons_zero, List.getElem_cons_succ, Act.put, List.setIfInBounds_toArray, List.set_cons_zero, List.set_cons_succ]
  refine wpAnyH_ready (rs := [0]) (by kernel_rfl) (by simp) ?_
  refine AllReadyH.cons rfl (fun K hK => ?_) AllReadyH.nil
  go_simp
  go_wp2_with (go_at_call 81; (with_reducible refine (answers_any _).mono ?_); rintro e wA ⟨MA, rfl, hMA, hbA⟩)
  refine hK.out _ _ (keep9 N3.out hbA hh0) (fun hh1 => ?_)
  clear hK K hh0
  try simp only [List.getElem_toArray, List.getElem_cons_zero, List.getElem_cons_succ, Act.put, List.setIfInBounds_toArray, List.set_cons_zero, List.set_cons_succ]
  have hLA := HL.out _ _ hMA
  clear hMA
  refine wpAnyH_ready (rs := [8]) (by kernel_rfl) (by simp) ?_
  refine AllReadyH.cons rfl (fun K hK => ?_) AllReadyH.nil
  refine step_lookup _ rfl (.tmp 18) (.tmp 25) 116 rfl (.map (some MA)) (.int .i64 t) (.func (.func 93) #[] #[]) rfl rfl hLA ?_
  refine hK.out _ _ hh1 (fun hh2 => ?_)
  clear hK K hh1 hLA
  try simp only [List.getElem_toArray, List.getElem_cons_zero, List.getElem_cons_succ, Act.put, List.setIfInBounds_toArray, List.set_cons_zero, List.set_cons_succ]
  refine wpAnyH_ready (rs := [10]) (by kernel_rfl) (by simp) ?_
  refine AllReadyH.cons rfl (fun K hK => ?_) AllReadyH.nil
  go_simp
  go_wp2_with ((with_reducible refine (HC.out _).mono ?_); rintro e wB ⟨rfl, hbB⟩)
  refine hK.out _ _ (keep9 N3.out hbB hh2) (fun hh3 => ?_)
  clear hK K hh2
  try simp only [List.getElem_toArray, List.getElem_cons_zero, List.getElem_cons_succ, Act.put, List.setIfInBounds_toArray, List.set_cons_zero, List.set_cons_succ]
  have hB3 : W.drew.heap[w.heap.size + 1 + 1]? = _ := HB3.out
  have hA3 := blk_keep (w' := wA) hB3 hbA (blk_lt hB3)
  have hC3 := blk_keep hA3 hbB (blk_lt hA3)
  have bx : Below W.heap.size W wB := ((Below.refl _ _).drew.trans hbA).trans (hbB.mono ((Below.refl _ _).drew.trans hbA).size)
  have g0 := blk_cell hC3 0 _ rfl
  have g1 := blk_cell hC3 1 _ rfl
  have g2 := blk_cell hC3 2 _ rfl
  have g3 := blk_cell hC3 3 _ rfl
  have g4 := blk_cell hC3 4 _ rfl
  have g5 := blk_cell hC3 5 _ rfl
  have g6 := blk_cell hC3 6 _ rfl
  have g7 := blk_cell hC3 7 _ rfl
  have f0 := blk_frozen hC3 0
  have f1 := blk_frozen hC3 1
  have f2 := blk_frozen hC3 2
  have f3 := blk_frozen hC3 3
  have f4 := blk_frozen hC3 4
  have f5 := blk_frozen hC3 5
  have f6 := blk_frozen hC3 6
  have f7 := blk_frozen hC3 7
  have HC3 := Lib.hid hC3
  have BX := Lib.hid bx
  clear hB3 hA3 hC3 bx hbA hbB
  refine wpAnyH_ready (rs := [11]) (by kernel_rfl) (by simp) ?_
  refine AllReadyH.cons rfl (fun K hK => ?_) AllReadyH.nil
  go_simp
  refine hK.out _ _ ?_ (fun hh4 => ?_)
  · exact keep9s (Nat.le_refl _) (by omega) (by omega) (by have := blk_lt HC3.out; omega) (below_set8 (Below.refl _ _) (Nat.le_refl _)) hh3
  clear hK K hh3 g0 g1 g2 g3 g4 g5 g6 g7 f0 f1 f2 f3 f4 f5 f6 f7
  try simp only [List.getElem_toArray, List.getElem_cons_zero, List.getElem_cons_succ, Act.put, List.setIfInBounds_toArray, List.set_cons_zero, List.set_cons_succ]
  refine wpAnyH_done (by kernel_rfl) ?_ _
  have hS := set8 (u0 := .int .i64 y.ph) (u1 := .int .i64 y.be) (u2 := .int .i64 y.mi) (u3 := .int .i64 y.wa) (u4 := .bool y.l0) (u5 := .bool y.l1) (u6 := .bool y.l2) (u7 := .bool y.te) HC3.out
  obtain ⟨g0, g1, g2, g3, g4, g5, g6, g7⟩ := rn8 (x := y) hS
  have HS := Lib.hid (blk_lt hS)
  clear hS
  go_wp2_with fail
  refine bodyPost_ret (v := rnV y) (by simp [results, Try.results57, go_sem, g0, g1, g2, g3, g4, g5, g6, g7]) rfl ⟨rfl, ?_⟩
  exact HAL.out.trans (below_set8 (BX.out.mono HAL.out.size) (by omega))
set_option maxRecDepth 100000 in
set_option maxHeartbeats 1000000 in
theorem meet_go1w (r : Ru) (be mi wa : Int) (l0 l1 l2 te : Bool) (d : Nat) (hp : 1 ≤ be ∧ be ≤ 3) (y : Rn) (j : Nat) (t : Int) (w : World)
    (HL : Hid (∀ w M, AnsMap w M → (Instr.lookup 116 (.map (some M)) (.int .i64 t) false).run Try.prog w = .ok (.func (.func 94) #[] #[]) w))
    (HC : Hid (∀ w, Calls Try.prog 94 #[rnV ⟨4, be, mi, wa, l0, l1, l2, te⟩] w (RetRn y w)))
    (HT : Hid ((ruA r)[4 + j * 3 + d]? = some (.int .i64 t))) (hw : IntKind.i64.wrap (be - 1) = (j : Int)) (hj0 : (0 : Int) ≤ j) (hj : (j : Int) < 3) (hd0 : (0 : Int) ≤ d) (hd : (d : Int) < 3) :
    Calls Try.prog 57 #[rnV ⟨4, be, mi, wa, l0, l1, l2, te⟩, ruV r, .int .i64 d] w (RetRn y w) := by
  have hin : inR be 1 3 = true := goes_yes hp
  clear hp
  go_enter Try.func57, Try.ntmps57
  go_wp2_with fail
  refine (in_any _ _ _ _).mono ?_
  rintro e w' ⟨rfl, rfl⟩
  rw [hin]
  clear hin
  go_wp2_with fail
  generalize hW0 : ((w.alloc (.cells (rnA ⟨4, be, mi, wa, l0, l1, l2, te⟩) 30)).alloc (.cells (ruA r) 25)).alloc (.cells _ _) = W at *
  obtain ⟨hal, hB1, hB2, hB3, hWs⟩ := boxesM w _ _ _ _ W hW0.symm
  clear hW0
  obtain ⟨k0, k1, k2, k3, k4, k5, k6, k7⟩ := rn8 hB1
  have k8 : W.cell? ⟨w.heap.size + 1, 4 + j * 3 + d, none⟩ = some (.int .i64 t) := blk_cell hB2 _ _ (HT.out)
  have HB3 := Lib.hid hB3
  have N3 : Hid (w.heap.size + 1 + 1 ≤ W.heap.size) := by show _ ≤ _; omega
  have HAL := Lib.hid hal
  clear hB1 hB2 hB3 hWs hal
  refine wp_region_held_drew (S := (fun w' => Below (w.heap.size + 1 + 1) W w' ∧ w'.cell? ⟨w.heap.size, 0, none⟩ = some (.int .i64 4) ∧ w'.cell? ⟨w.heap.size, 1, none⟩ = some (.int .i64 be) ∧ w'.cell? ⟨w.heap.size, 2, none⟩ = some (.int .i64 mi) ∧ w'.cell? ⟨w.heap.size, 3, none⟩ = some (.int .i64 wa) ∧ w'.cell? ⟨w.heap.size, 4, none⟩ = some (.bool l0) ∧ w'.cell? ⟨w.heap.size, 5, none⟩ = some (.bool l1) ∧ w'.cell? ⟨w.heap.size, 6, none⟩ = some (.bool l2) ∧ w'.cell? ⟨w.heap.size, 7, none⟩ = some (.bool te) ∧ w'.cell? ⟨w.heap.size + 1, 4 + j * 3 + d, none⟩ = some (.int .i64 t))) (by kernel_rfl) ⟨(Below.refl _ _).drew, k0, k1, k2, k3, k4, k5, k6, k7, k8⟩ (fun hh0 => ?_)
  clear k0 k1 k2 k3 k4 k5 k6 k7 k8
  refine wpAnyH_take (i := 1) (v := ?vp1) rfl (by kernel_rfl) (by kernel_rfl) (by kernel_rfl) (fun _ _ _ h => h) (Or.inl ⟨by rfl, ?hyp1⟩) (by assumption) ?rep1
  case hyp1 => first | (intro w hSw; (try dsimp only at hSw); go_simp; done) | (intro w hSw; (try dsimp only at hSw); go_simp; with_reducible rfl)
  try simp only [List.getElem_toArray, List.getElem_cons_zero, List.getElem_cons_succ, Act.put, List.setIfInBounds_toArray, List.set_cons_zero, List.set_cons_succ]
  refine wpAnyH_take (i := 2) (v := ?vp2) rfl (by kernel_rfl) (by kernel_rfl) (by kernel_rfl) (fun _ _ _ h => h) (Or.inl ⟨by rfl, ?hyp2⟩) (by assumption) ?rep2
  case hyp2 => first | (intro w hSw; (try dsimp only at hSw); go_simp; done) | (intro w hSw; (try dsimp only at hSw); go_simp; with_reducible rfl)
  try simp only [List.getElem_toArray, List.getElem_cons_zero, List.getElem_cons_succ, Act.put, List.setIfInBounds_toArray, List.set_cons_zero, List.set_cons_succ]
  refine wpAnyH_take (i := 3) (v := ?vp3) rfl (by kernel_rfl) (by kernel_rfl) (by kernel_rfl) (fun _ _ _ h => h) (Or.inl ⟨by rfl, ?hyp3⟩) (by assumption) ?rep3
  case hyp3 => first | (intro w hSw; (try dsimp only at hSw); go_simp; done) | (intro w hSw; (try dsimp only at hSw); go_simp; with_reducible rfl)
  try simp only [List.getElem_toArray, List.getElem_cons_zero, List.getElem_cons_succ, Act.put, List.setIfInBounds_toArray, List.set_cons_zero, List.set_cons_succ]
  refine wpAnyH_take (i := 4) (v := ?vp4) rfl (by kernel_rfl) (by kernel_rfl) (by kernel_rfl) (fun _ _ _ h => h) (Or.inl ⟨by rfl, ?hyp4⟩) (by assumption) ?rep4
  case hyp4 => first | (intro w hSw; (try dsimp only at hSw); go_simp; done) | (intro w hSw; (try dsimp only at hSw); go_simp; with_reducible rfl)
  try simp only [List.getElem_toArray, List.getElem_cons_zero, List.getElem_cons_succ, Act.put, List.setIfInBounds_toArray, List.set_cons_zero, List.set_cons_succ]
  refine wpAnyH_take (i := 5) (v := ?vp5) rfl (by kernel_rfl) (by kernel_rfl) (by kernel_rfl) (fun _ _ _ h => h) (Or.inl ⟨by rfl, ?hyp5⟩) (by assumption) ?rep5
  case hyp5 => first | (intro w hSw; (try dsimp only at hSw); go_simp; done) | (intro w hSw; (try dsimp only at hSw); go_simp; with_reducible rfl)
  try simp only [List.getElem_toArray, List.getElem_cons_zero, List.getElem_cons_succ, Act.put, List.setIfInBounds_toArray, List.set_cons_zero, List.set_cons_succ]
  refine wpAnyH_take (i := 6) (v := ?vp6) rfl (by kernel_rfl) (by kernel_rfl) (by kernel_rfl) (fun _ _ _ h => h) (Or.inl ⟨by rfl, ?hyp6⟩) (by assumption) ?rep6
  case hyp6 => first | (intro w hSw; (try dsimp only at hSw); go_simp; done) | (intro w hSw; (try dsimp only at hSw); go_simp; with_reducible rfl)
  try simp only [List.getElem_toArray, List.getElem_cons_zero, List.getElem_cons_succ, Act.put, List.setIfInBounds_toArray, List.set_cons_zero, List.set_cons_succ]
  refine wpAnyH_take (i := 7) (v := ?vp7) rfl (by kernel_rfl) (by kernel_rfl) (by kernel_rfl) (fun _ _ _ h => h) (Or.inl ⟨by rfl, ?hyp7⟩) (by assumption) ?rep7
  case hyp7 => first | (intro w hSw; (try dsimp only at hSw); go_simp; done) | (intro w hSw; (try dsimp only at hSw); go_simp; with_reducible rfl)
  try simp only [List.getElem_toArray, List.getElem_cons_zero, List.getElem_cons_succ, Act.put, List.setIfInBounds_toArray, List.set_cons_zero, List.set_cons_succ]
  refine wpAnyH_take (i := 9) (v := ?vp9) rfl (by kernel_rfl) (by kernel_rfl) (by kernel_rfl) (fun _ _ _ h => h) (Or.inl ⟨by rfl, ?hyp9⟩) (by assumption) ?rep9
  case hyp9 => first | (intro w hSw; (try dsimp only at hSw); go_simp; done) | (intro w hSw; (try dsimp only at hSw); go_simp; with_reducible rfl)
  try simp only [List.getElem_toArray, List.getElem_cons_zero, List.getElem_cons_succ, Act.put, List.setIfInBounds_toArray, List.set_cons_zero, List.set_cons_succ]
  refine wpAnyH_ready (rs := [0]) (by kernel_rfl) (by simp) ?_
  refine AllReadyH.cons rfl (fun K hK => ?_) AllReadyH.nil
  go_simp
  go_wp2_with (go_at_call 81; (with_reducible refine (answers_any _).mono ?_); rintro e wA ⟨MA, rfl, hMA, hbA⟩)
  refine hK.out _ _ (keep9 N3.out hbA hh0) (fun hh1 => ?_)
  clear hK K hh0
  try simp only [List.getElem_toArray, List.getElem_cons_zero, List.getElem_cons_succ, Act.put, List.setIfInBounds_toArray, List.set_cons_zero, List.set_cons_succ]
  have hLA := HL.out _ _ hMA
  clear hMA
  refine wpAnyH_ready (rs := [8]) (by kernel_rfl) (by simp) ?_
  refine AllReadyH.cons rfl (fun K hK => ?_) AllReadyH.nil
  refine step_lookup _ rfl (.tmp 18) (.tmp 25) 116 rfl (.map (some MA)) (.int .i64 t) (.func (.func 94) #[] #[]) rfl rfl hLA ?_
  refine hK.out _ _ hh1 (fun hh2 => ?_)
  clear hK K hh1 hLA
  try simp only [List.getElem_toArray, List.getElem_cons_zero, List.getElem_cons_succ, Act.put, List.setIfInBounds_toArray, List.set_cons_zero, List.set_cons_succ]
  refine wpAnyH_ready (rs := [10]) (by kernel_rfl) (by simp) ?_
  refine AllReadyH.cons rfl (fun K hK => ?_) AllReadyH.nil
  go_simp
  go_wp2_with ((with_reducible refine (HC.out _).mono ?_); rintro e wB ⟨rfl, hbB⟩)
  refine hK.out _ _ (keep9 N3.out hbB hh2) (fun hh3 => ?_)
  clear hK K hh2
  try simp only [List.getElem_toArray, List.getElem_cons_zero, List.getElem_cons_succ, Act.put, List.setIfInBounds_toArray, List.set_cons_zero, List.set_cons_succ]
  have hB3 : W.drew.heap[w.heap.size + 1 + 1]? = _ := HB3.out
  have hA3 := blk_keep (w' := wA) hB3 hbA (blk_lt hB3)
  have hC3 := blk_keep hA3 hbB (blk_lt hA3)
  have bx : Below W.heap.size W wB := ((Below.refl _ _).drew.trans hbA).trans (hbB.mono ((Below.refl _ _).drew.trans hbA).size)
  have g0 := blk_cell hC3 0 _ rfl
  have g1 := blk_cell hC3 1 _ rfl
  have g2 := blk_cell hC3 2 _ rfl
  have g3 := blk_cell hC3 3 _ rfl
  have g4 := blk_cell hC3 4 _ rfl
  have g5 := blk_cell hC3 5 _ rfl
  have g6 := blk_cell hC3 6 _ rfl
  have g7 := blk_cell hC3 7 _ rfl
  have f0 := blk_frozen hC3 0
  have f1 := blk_frozen hC3 1
  have f2 := blk_frozen hC3 2
  have f3 := blk_frozen hC3 3
  have f4 := blk_frozen hC3 4
  have f5 := blk_frozen hC3 5
  have f6 := blk_frozen hC3 6
  have f7 := blk_frozen hC3 7
  have HC3 := Lib.hid hC3
  have BX := Lib.hid bx
  clear hB3 hA3 hC3 bx hbA hbB
  refine wpAnyH_ready (rs := [11]) (by kernel_rfl) (by simp) ?_
  refine AllReadyH.cons rfl (fun K hK => ?_) AllReadyH.nil
  go_simp
  refine hK.out _ _ ?_ (fun hh4 => ?_)
  · exact keep9s (Nat.le_refl _) (by omega) (by omega) (by have := blk_lt HC3.out; omega) (below_set8 (Below.refl _ _) (Nat.le_refl _)) hh3
  clear hK K hh3 g0 g1 g2 g3 g4 g5 g6 g7 f0 f1 f2 f3 f4 f5 f6 f7
  try simp only [List.getElem_toArray, List.getElem_cons_zero, List.getElem_cons_succ, Act.put, List.setIfInBounds_toArray, List.set_cons_zero, List.set_cons_succ]
  refine wpAnyH_done (by kernel_rfl) ?_ _
  have hS := set8 (u0 := .int .i64 y.ph) (u1 := .int .i64 y.be) (u2 := .int .i64 y.mi) (u3 := .int .i64 y.wa) (u4 := .bool y.l0) (u5 := .bool y.l1) (u6 := .bool y.l2) (u7 := .bool y.te) HC3.out
  obtain ⟨g0, g1, g2, g3, g4, g5, g6, g7⟩ := rn8 (x := y) hS
  have HS := Lib.hid (blk_lt hS)
  clear hS
  go_wp2_with fail
  refine bodyPost_ret (v := rnV y) (by simp [results, Try.results57, go_sem, g0, g1, g2, g3, g4, g5, g6, g7]) rfl ⟨rfl, ?_⟩
  exact HAL.out.trans (below_set8 (BX.out.mono HAL.out.size) (by omega))
set_option maxRecDepth 100000 in
set_option maxHeartbeats 1000000 in
theorem meet_go2w (r : Ru) (be mi wa : Int) (l0 l1 l2 te : Bool) (d : Nat) (hp : 1 ≤ be ∧ be ≤ 3) (y : Rn) (j : Nat) (t : Int) (w : World)
    (HL : Hid (∀ w M, AnsMap w M → (Instr.lookup 116 (.map (some M)) (.int .i64 t) false).run Try.prog w = .ok (.func (.func 95) #[] #[]) w))
    (HC : Hid (∀ w, Calls Try.prog 95 #[rnV ⟨4, be, mi, wa, l0, l1, l2, te⟩] w (RetRn y w)))
    (HT : Hid ((ruA r)[4 + j * 3 + d]? = some (.int .i64 t))) (hw : IntKind.i64.wrap (be - 1) = (j : Int)) (hj0 : (0 : Int) ≤ j) (hj : (j : Int) < 3) (hd0 : (0 : Int) ≤ d) (hd : (d : Int) < 3) :
    Calls Try.prog 57 #[rnV ⟨4, be, mi, wa, l0, l1, l2, te⟩, ruV r, .int .i64 d] w (RetRn y w) := by
  have hin : inR be 1 3 = true := goes_yes hp
  clear hp
  go_enter Try.func57, Try.ntmps57
  go_wp2_with fail
  refine (in_any _ _ _ _).mono ?_
  rintro e w' ⟨rfl, rfl⟩
  rw [hin]
  clear hin
  go_wp2_with fail
  generalize hW0 : ((w.alloc (.cells (rnA ⟨4, be, mi, wa, l0, l1, l2, te⟩) 30)).alloc (.cells (ruA r) 25)).alloc (.cells _ _) = W at *
  obtain ⟨hal, hB1, hB2, hB3, hWs⟩ := boxesM w _ _ _ _ W hW0.symm
  clear hW0
  obtain ⟨k0, k1, k2, k3, k4, k5, k6, k7⟩ := rn8 hB1
  have k8 : W.cell? ⟨w.heap.size + 1, 4 + j * 3 + d, none⟩ = some (.int .i64 t) := blk_cell hB2 _ _ (HT.out)
  have HB3 := Lib.hid hB3
  have N3 : Hid (w.heap.size + 1 + 1 ≤ W.heap.size) := by show _ ≤ _; omega
  have HAL := Lib.hid hal
  clear hB1 hB2 hB3 hWs hal
  refine wp_region_held_drew (S := (fun w' => Below (w.heap.size + 1 + 1) W w' ∧ w'.cell? ⟨w.heap.size, 0, none⟩ = some (.int .i64 4) ∧ w'.cell? ⟨w.heap.size, 1, none⟩ = some (.int .i64 be) ∧ w'.cell? ⟨w.heap.size, 2, none⟩ = some (.int .i64 mi) ∧ w'.cell? ⟨w.heap.size, 3, none⟩ = some (.int .i64 wa) ∧ w'.cell? ⟨w.heap.size, 4, none⟩ = some (.bool l0) ∧ w'.cell? ⟨w.heap.size, 5, none⟩ = some (.bool l1) ∧ w'.cell? ⟨w.heap.size, 6, none⟩ = some (.bool l2) ∧ w'.cell? ⟨w.heap.size, 7, none⟩ = some (.bool te) ∧ w'.cell? ⟨w.heap.size + 1, 4 + j * 3 + d, none⟩ = some (.int .i64 t))) (by kernel_rfl) ⟨(Below.refl _ _).drew, k0, k1, k2, k3, k4, k5, k6, k7, k8⟩ (fun hh0 => ?_)
  clear k0 k1 k2 k3 k4 k5 k6 k7 k8
  refine wpAnyH_take (i := 1) (v := ?vp1) rfl (by kernel_rfl) (by kernel_rfl) (by kernel_rfl) (fun _ _ _ h => h) (Or.inl ⟨by rfl, ?hyp1⟩) (by assumption) ?rep1
  case hyp1 => first | (intro w hSw; (try dsimp only at hSw); go_simp; done) | (intro w hSw; (try dsimp only at hSw); go_simp; with_reducible rfl)
  try simp only [List.getElem_toArray, List.getElem_cons_zero, List.getElem_cons_succ, Act.put, List.setIfInBounds_toArray, List.set_cons_zero, List.set_cons_succ]
  refine wpAnyH_take (i := 2) (v := ?vp2) rfl (by kernel_rfl) (by kernel_rfl) (by kernel_rfl) (fun _ _ _ h => h) (Or.inl ⟨by rfl, ?hyp2⟩) (by assumption) ?rep2
  case hyp2 => first | (intro w hSw; (try dsimp only at hSw); go_simp; done) | (intro w hSw; (try dsimp only at hSw); go_simp; with_reducible rfl)
  try simp only [List.getElem_toArray, List.getElem_cons_zero, List.getElem_cons_succ, Act.put, List.setIfInBounds_toArray, List.set_cons_zero, List.set_cons_succ]
  refine wpAnyH_take (i := 3) (v := ?vp3) rfl (by kernel_rfl) (by kernel_rfl) (by kernel_rfl) (fun _ _ _ h => h) (Or.inl ⟨by rfl, ?hyp3⟩) (by assumption) ?rep3
  case hyp3 => first | (intro w hSw; (try dsimp only at hSw); go_simp; done) | (intro w hSw; (try dsimp only at hSw); go_simp; with_reducible rfl)
  try simp only [List.getElem_toArray, List.getElem_cons_zero, List.getElem_cons_succ, Act.put, List.setIfInBounds_toArray, List.set_cons_zero, List.set_cons_succ]
  refine wpAnyH_take (i := 4) (v := ?vp4) rfl (by kernel_rfl) (by kernel_rfl) (by kernel_rfl) (fun _ _ _ h => h) (Or.inl ⟨by rfl, ?hyp4⟩) (by assumption) ?rep4
  case hyp4 => first | (intro w hSw; (try dsimp only at hSw); go_simp; done) | (intro w hSw; (try dsimp only at hSw); go_simp; with_reducible rfl)
  try simp only [List.getElem_toArray, List.getElem_cons_zero, List.getElem_cons_succ, Act.put, List.setIfInBounds_toArray, List.set_cons_zero, List.set_cons_succ]
  refine wpAnyH_take (i := 5) (v := ?vp5) rfl (by kernel_rfl) (by kernel_rfl) (by kernel_rfl) (fun _ _ _ h => h) (Or.inl ⟨by rfl, ?hyp5⟩) (by assumption) ?rep5
  case hyp5 => first | (intro w hSw; (try dsimp only at hSw); go_simp; done) | (intro w hSw; (try dsimp only at hSw); go_simp; with_reducible rfl)
  try simp only [List.getElem_toArray, List.getElem_cons_zero, List.getElem_cons_succ, Act.put, List.setIfInBounds_toArray, List.set_cons_zero, List.set_cons_succ]
  refine wpAnyH_take (i := 6) (v := ?vp6) rfl (by kernel_rfl) (by kernel_rfl) (by kernel_rfl) (fun _ _ _ h => h) (Or.inl ⟨by rfl, ?hyp6⟩) (by assumption) ?rep6
  case hyp6 => first | (intro w hSw; (try dsimp only at hSw); go_simp; done) | (intro w hSw; (try dsimp only at hSw); go_simp; with_reducible rfl)
  try simp only [List.getElem_toArray, List.getElem_cons_zero, List.getElem_cons_succ, Act.put, List.setIfInBounds_toArray, List.set_cons_zero, List.set_cons_succ]
  refine wpAnyH_take (i := 7) (v := ?vp7) rfl (by kernel_rfl) (by kernel_rfl) (by kernel_rfl) (fun _ _ _ h => h) (Or.inl ⟨by rfl, ?hyp7⟩) (by assumption) ?rep7
  case hyp7 => first | (intro w hSw; (try dsimp only at hSw); go_simp; done) | (intro w hSw; (try dsimp only at hSw); go_simp; with_reducible rfl)
  try simp only [List.getElem_toArray, List.getElem_cons_zero, List.getElem_cons_succ, Act.put, List.setIfInBounds_toArray, List.set_cons_zero, List.set_cons_succ]
  refine wpAnyH_take (i := 9) (v := ?vp9) rfl (by kernel_rfl) (by kernel_rfl) (by kernel_rfl) (fun _ _ _ h => h) (Or.inl ⟨by rfl, ?hyp9⟩) (by assumption) ?rep9
  case hyp9 => first | (intro w hSw; (try dsimp only at hSw); go_simp; done) | (intro w hSw; (try dsimp only at hSw); go_simp; with_reducible rfl)
  try simp only [List.getElem_toArray, List.getElem_cons_zero, List.getElem_cons_succ, Act.put, List.setIfInBounds_toArray, List.set_cons_zero, List.set_cons_succ]
  refine wpAnyH_ready (rs := [0]) (by kernel_rfl) (by simp) ?_
  refine AllReadyH.cons rfl (fun K hK => ?_) AllReadyH.nil
  go_simp
  go_wp2_with (go_at_call 81; (with_reducible refine (answers_any _).mono ?_); rintro e wA ⟨MA, rfl, hMA, hbA⟩)
  refine hK.out _ _ (keep9 N3.out hbA hh0) (fun hh1 => ?_)
  clear hK K hh0
  try simp only [List.getElem_toArray, List.getElem_cons_zero, List.getElem_cons_succ, Act.put, List.setIfInBounds_toArray, List.set_cons_zero, List.set_cons_succ]
  have hLA := HL.out _ _ hMA
  clear hMA
  refine wpAnyH_ready (rs := [8]) (by kernel_rfl) (by simp) ?_
  refine AllReadyH.cons rfl (fun K hK => ?_) AllReadyH.nil
  refine step_lookup _ rfl (.tmp 18) (.tmp 25) 116 rfl (.map (some MA)) (.int .i64 t) (.func (.func 95) #[] #[]) rfl rfl hLA ?_
  refine hK.out _ _ hh1 (fun hh2 => ?_)
  clear hK K hh1 hLA
  try simp only [List.getElem_toArray, List.getElem_cons_zero, List.getElem_cons_succ, Act.put, List.setIfInBounds_toArray, List.set_cons_zero, List.set_cons_succ]
  refine wpAnyH_ready (rs := [10]) (by kernel_rfl) (by simp) ?_
  refine AllReadyH.cons rfl (fun K hK => ?_) AllReadyH.nil
  go_simp
  go_wp2_with ((with_reducible refine (HC.out _).mono ?_); rintro e wB ⟨rfl, hbB⟩)
  refine hK.out _ _ (keep9 N3.out hbB hh2) (fun hh3 => ?_)
  clear hK K hh2
  try simp only [List.getElem_toArray, List.getElem_cons_zero, List.getElem_cons_succ, Act.put, List.setIfInBounds_toArray, List.set_cons_zero, List.set_cons_succ]
  have hB3 : W.drew.heap[w.heap.size + 1 + 1]? = _ := HB3.out
  have hA3 := blk_keep (w' := wA) hB3 hbA (blk_lt hB3)
  have hC3 := blk_keep hA3 hbB (blk_lt hA3)
  have bx : Below W.heap.size W wB := ((Below.refl _ _).drew.trans hbA).trans (hbB.mono ((Below.refl _ _).drew.trans hbA).size)
  have g0 := blk_cell hC3 0 _ rfl
  have g1 := blk_cell hC3 1 _ rfl
  have g2 := blk_cell hC3 2 _ rfl
  have g3 := blk_cell hC3 3 _ rfl
  have g4 := blk_cell hC3 4 _ rfl
  have g5 := blk_cell hC3 5 _ rfl
  have g6 := blk_cell hC3 6 _ rfl
  have g7 := blk_cell hC3 7 _ rfl
  have f0 := blk_frozen hC3 0
  have f1 := blk_frozen hC3 1
  have f2 := blk_frozen hC3 2
  have f3 := blk_frozen hC3 3
  have f4 := blk_frozen hC3 4
  have f5 := blk_frozen hC3 5
  have f6 := blk_frozen hC3 6
  have f7 := blk_frozen hC3 7
  have HC3 := Lib.hid hC3
  have BX := Lib.hid bx
  clear hB3 hA3 hC3 bx hbA hbB
  refine wpAnyH_ready (rs := [11]) (by kernel_rfl) (by simp) ?_
  refine AllReadyH.cons rfl (fun K hK => ?_) AllReadyH.nil
  go_simp
  refine hK.out _ _ ?_ (fun hh4 => ?_)
  · exact keep9s (Nat.le_refl _) (by omega) (by omega) (by have := blk_lt HC3.out; omega) (below_set8 (Below.refl _ _) (Nat.le_refl _)) hh3
  clear hK K hh3 g0 g1 g2 g3 g4 g5 g6 g7 f0 f1 f2 f3 f4 f5 f6 f7
  try simp only [List.getElem_toArray, List.getElem_cons_zero, List.getElem_cons_succ, Act.put, List.setIfInBounds_toArray, List.set_cons_zero, List.set_cons_succ]
  refine wpAnyH_done (by kernel_rfl) ?_ _
  have hS := set8 (u0 := .int .i64 y.ph) (u1 := .int .i64 y.be) (u2 := .int .i64 y.mi) (u3 := .int .i64 y.wa) (u4 := .bool y.l0) (u5 := .bool y.l1) (u6 := .bool y.l2) (u7 := .bool y.te) HC3.out
  obtain ⟨g0, g1, g2, g3, g4, g5, g6, g7⟩ := rn8 (x := y) hS
  have HS := Lib.hid (blk_lt hS)
  clear hS
  go_wp2_with fail
  refine bodyPost_ret (v := rnV y) (by simp [results, Try.results57, go_sem, g0, g1, g2, g3, g4, g5, g6, g7]) rfl ⟨rfl, ?_⟩
  exact HAL.out.trans (below_set8 (BX.out.mono HAL.out.size) (by omega))
set_option maxRecDepth 100000 in
set_option maxHeartbeats 1000000 in
theorem meet_go3w (r : Ru) (be mi wa : Int) (l0 l1 l2 te : Bool) (d : Nat) (hp : 1 ≤ be ∧ be ≤ 3) (y : Rn) (j : Nat) (t : Int) (w : World)
    (HL : Hid (∀ w M, AnsMap w M → (Instr.lookup 116 (.map (some M)) (.int .i64 t) false).run Try.prog w = .ok (.func (.func 96) #[] #[]) w))
    (HC : Hid (∀ w, Calls Try.prog 96 #[rnV ⟨4, be, mi, wa, l0, l1, l2, te⟩] w (RetRn y w)))
    (HT : Hid ((ruA r)[4 + j * 3 + d]? = some (.int .i64 t))) (hw : IntKind.i64.wrap (be - 1) = (j : Int)) (hj0 : (0 : Int) ≤ j) (hj : (j : Int) < 3) (hd0 : (0 : Int) ≤ d) (hd : (d : Int) < 3) :
    Calls Try.prog 57 #[rnV ⟨4, be, mi, wa, l0, l1, l2, te⟩, ruV r, .int .i64 d] w (RetRn y w) := by
  have hin : inR be 1 3 = true := goes_yes hp
  clear hp
  go_enter Try.func57, Try.ntmps57
  go_wp2_with fail
  refine (in_any _ _ _ _).mono ?_
  rintro e w' ⟨rfl, rfl⟩
  rw [hin]
  clear hin
  go_wp2_with fail
  generalize hW0 : ((w.alloc (.cells (rnA ⟨4, be, mi, wa, l0, l1, l2, te⟩) 30)).alloc (.cells (ruA r) 25)).alloc (.cells _ _) = W at *
  obtain ⟨hal, hB1, hB2, hB3, hWs⟩ := boxesM w _ _ _ _ W hW0.symm
  clear hW0
  obtain ⟨k0, k1, k2, k3, k4, k5, k6, k7⟩ := rn8 hB1
  have k8 : W.cell? ⟨w.heap.size + 1, 4 + j * 3 + d, none⟩ = some (.int .i64 t) := blk_cell hB2 _ _ (HT.out)
  have HB3 := Lib.hid hB3
  have N3 : Hid (w.heap.size + 1 + 1 ≤ W.heap.size) := by show _ ≤ _; omega
  have HAL := Lib.hid hal
  clear hB1 hB2 hB3 hWs hal
  refine wp_region_held_drew (S := (fun w' => Below (w.heap.size + 1 + 1) W w' ∧ w'.cell? ⟨w.heap.size, 0, none⟩ = some (.int .i64 4) ∧ w'.cell? ⟨w.heap.size, 1, none⟩ = some (.int .i64 be) ∧ w'.cell? ⟨w.heap.size, 2, none⟩ = some (.int .i64 mi) ∧ w'.cell? ⟨w.heap.size, 3, none⟩ = some (.int .i64 wa) ∧ w'.cell? ⟨w.heap.size, 4, none⟩ = some (.bool l0) ∧ w'.cell? ⟨w.heap.size, 5, none⟩ = some (.bool l1) ∧ w'.cell? ⟨w.heap.size, 6, none⟩ = some (.bool l2) ∧ w'.cell? ⟨w.heap.size, 7, none⟩ = some (.bool te) ∧ w'.cell? ⟨w.heap.size + 1, 4 + j * 3 + d, none⟩ = some (.int .i64 t))) (by kernel_rfl) ⟨(Below.refl _ _).drew, k0, k1, k2, k3, k4, k5, k6, k7, k8⟩ (fun hh0 => ?_)
  clear k0 k1 k2 k3 k4 k5 k6 k7 k8
  refine wpAnyH_take (i := 1) (v := ?vp1) rfl (by kernel_rfl) (by kernel_rfl) (by kernel_rfl) (fun _ _ _ h => h) (Or.inl ⟨by rfl, ?hyp1⟩) (by assumption) ?rep1
  case hyp1 => first | (intro w hSw; (try dsimp only at hSw); go_simp; done) | (intro w hSw; (try dsimp only at hSw); go_simp; with_reducible rfl)
  try simp only [List.getElem_toArray, List.getElem_cons_zero, List.getElem_cons_succ, Act.put, List.setIfInBounds_toArray, List.set_cons_zero, List.set_cons_succ]
  refine wpAnyH_take (i := 2) (v := ?vp2) rfl (by kernel_rfl) (by kernel_rfl) (by kernel_rfl) (fun _ _ _ h => h) (Or.inl ⟨by rfl, ?hyp2⟩) (by assumption) ?rep2
  case hyp2 => first | (intro w hSw; (try dsimp only at hSw); go_simp; done) | (intro w hSw; (try dsimp only at hSw); go_simp; with_reducible rfl)
  try simp only [List.getElem_toArray, List.getElem_cons_zero, List.getElem_cons_succ, Act.put, List.setIfInBounds_toArray, List.set_cons_zero, List.set_cons_succ]
  refine wpAnyH_take (i := 3) (v := ?vp3) rfl (by kernel_rfl) (by kernel_rfl) (by kernel_rfl) (fun _ _ _ h => h) (Or.inl ⟨by rfl, ?hyp3⟩) (by assumption) ?rep3
  case hyp3 => first | (intro w hSw; (try dsimp only at hSw); go_simp; done) | (intro w hSw; (try dsimp only at hSw); go_simp; with_reducible rfl)
  try simp only [List.getElem_toArray, List.getElem_cons_zero, List.getElem_cons_succ, Act.put, List.setIfInBounds_toArray, List.set_cons_zero, List.set_cons_succ]
  refine wpAnyH_take (i := 4) (v := ?vp4) rfl (by kernel_rfl) (by kernel_rfl) (by kernel_rfl) (fun _ _ _ h => h) (Or.inl ⟨by rfl, ?hyp4⟩) (by assumption) ?rep4
  case hyp4 => first | (intro w hSw; (try dsimp only at hSw); go_simp; done) | (intro w hSw; (try dsimp only at hSw); go_simp; with_reducible rfl)
  try simp only [List.getElem_toArray, List.getElem_cons_zero, List.getElem_cons_succ, Act.put, List.setIfInBounds_toArray, List.set_cons_zero, List.set_cons_succ]
  refine wpAnyH_take (i := 5) (v := ?vp5) rfl (by kernel_rfl) (by kernel_rfl) (by kernel_rfl) (fun _ _ _ h => h) (Or.inl ⟨by rfl, ?hyp5⟩) (by assumption) ?rep5
  case hyp5 => first | (intro w hSw; (try dsimp only at hSw); go_simp; done) | (intro w hSw; (try dsimp only at hSw); go_simp; with_reducible rfl)
  try simp only [List.getElem_toArray, List.getElem_cons_zero, List.getElem_cons_succ, Act.put, List.setIfInBounds_toArray, List.set_cons_zero, List.set_cons_succ]
  refine wpAnyH_take (i := 6) (v := ?vp6) rfl (by kernel_rfl) (by kernel_rfl) (by kernel_rfl) (fun _ _ _ h => h) (Or.inl ⟨by rfl, ?hyp6⟩) (by assumption) ?rep6
  case hyp6 => first | (intro w hSw; (try dsimp only at hSw); go_simp; done) | (intro w hSw; (try dsimp only at hSw); go_simp; with_reducible rfl)
  try simp only [List.getElem_toArray, List.getElem_cons_zero, List.getElem_cons_succ, Act.put, List.setIfInBounds_toArray, List.set_cons_zero, List.set_cons_succ]
  refine wpAnyH_take (i := 7) (v := ?vp7) rfl (by kernel_rfl) (by kernel_rfl) (by kernel_rfl) (fun _ _ _ h => h) (Or.inl ⟨by rfl, ?hyp7⟩) (by assumption) ?rep7
  case hyp7 => first | (intro w hSw; (try dsimp only at hSw); go_simp; done) | (intro w hSw; (try dsimp only at hSw); go_simp; with_reducible rfl)
  try simp only [List.getElem_toArray, List.getElem_cons_zero, List.getElem_cons_succ, Act.put, List.setIfInBounds_toArray, List.set_cons_zero, List.set_cons_succ]
  refine wpAnyH_take (i := 9) (v := ?vp9) rfl (by kernel_rfl) (by kernel_rfl) (by kernel_rfl) (fun _ _ _ h => h) (Or.inl ⟨by rfl, ?hyp9⟩) (by assumption) ?rep9
  case hyp9 => first | (intro w hSw; (try dsimp only at hSw); go_simp; done) | (intro w hSw; (try dsimp only at hSw); go_simp; with_reducible rfl)
  try simp only [List.getElem_toArray, List.getElem_cons_zero, List.getElem_cons_succ, Act.put, List.setIfInBounds_toArray, List.set_cons_zero, List.set_cons_succ]
  refine wpAnyH_ready (rs := [0]) (by kernel_rfl) (by simp) ?_
  refine AllReadyH.cons rfl (fun K hK => ?_) AllReadyH.nil
  go_simp
  go_wp2_with (go_at_call 81; (with_reducible refine (answers_any _).mono ?_); rintro e wA ⟨MA, rfl, hMA, hbA⟩)
  refine hK.out _ _ (keep9 N3.out hbA hh0) (fun hh1 => ?_)
  clear hK K hh0
  try simp only [List.getElem_toArray, List.getElem_cons_zero, List.getElem_cons_succ, Act.put, List.setIfInBounds_toArray, List.set_cons_zero, List.set_cons_succ]
  have hLA := HL.out _ _ hMA
  clear hMA
  refine wpAnyH_ready (rs := [8]) (by kernel_rfl) (by simp) ?_
  refine AllReadyH.cons rfl (fun K hK => ?_) AllReadyH.nil
  refine step_lookup _ rfl (.tmp 18) (.tmp 25) 116 rfl (.map (some MA)) (.int .i64 t) (.func (.func 96) #[] #[]) rfl rfl hLA ?_
  refine hK.out _ _ hh1 (fun hh2 => ?_)
  clear hK K hh1 hLA
  try simp only [List.getElem_toArray, List.getElem_cons_zero, List.getElem_cons_succ, Act.put, List.setIfInBounds_toArray, List.set_cons_zero, List.set_cons_succ]
  refine wpAnyH_ready (rs := [10]) (by kernel_rfl) (by simp) ?_
  refine AllReadyH.cons rfl (fun K hK => ?_) AllReadyH.nil
  go_simp
  go_wp2_with ((with_reducible refine (HC.out _).mono ?_); rintro e wB ⟨rfl, hbB⟩)
  refine hK.out _ _ (keep9 N3.out hbB hh2) (fun hh3 => ?_)
  clear hK K hh2
  try simp only [List.getElem_toArray, List.getElem_cons_zero, List.getElem_cons_succ, Act.put, List.setIfInBounds_toArray, List.set_cons_zero, List.set_cons_succ]
  have hB3 : W.drew.heap[w.heap.size + 1 + 1]? = _ := HB3.out
  have hA3 := blk_keep (w' := wA) hB3 hbA (blk_lt hB3)
  have hC3 := blk_keep hA3 hbB (blk_lt hA3)
  have bx : Below W.heap.size W wB := ((Below.refl _ _).drew.trans hbA).trans (hbB.mono ((Below.refl _ _).drew.trans hbA).size)
  have g0 := blk_cell hC3 0 _ rfl
  have g1 := blk_cell hC3 1 _ rfl
  have g2 := blk_cell hC3 2 _ rfl
  have g3 := blk_cell hC3 3 _ rfl
  have g4 := blk_cell hC3 4 _ rfl
  have g5 := blk_cell hC3 5 _ rfl
  have g6 := blk_cell hC3 6 _ rfl
  have g7 := blk_cell hC3 7 _ rfl
  have f0 := blk_frozen hC3 0
  have f1 := blk_frozen hC3 1
  have f2 := blk_frozen hC3 2
  have f3 := blk_frozen hC3 3
  have f4 := blk_frozen hC3 4
  have f5 := blk_frozen hC3 5
  have f6 := blk_frozen hC3 6
  have f7 := blk_frozen hC3 7
  have HC3 := Lib.hid hC3
  have BX := Lib.hid bx
  clear hB3 hA3 hC3 bx hbA hbB
  refine wpAnyH_ready (rs := [11]) (by kernel_rfl) (by simp) ?_
  refine AllReadyH.cons rfl (fun K hK => ?_) AllReadyH.nil
  go_simp
  refine hK.out _ _ ?_ (fun hh4 => ?_)
  · exact keep9s (Nat.le_refl _) (by omega) (by omega) (by have := blk_lt HC3.out; omega) (below_set8 (Below.refl _ _) (Nat.le_refl _)) hh3
  clear hK K hh3 g0 g1 g2 g3 g4 g5 g6 g7 f0 f1 f2 f3 f4 f5 f6 f7
  try simp only [List.getElem_toArray, List.getElem_cons_zero, List.getElem_cons_succ, Act.put, List.setIfInBounds_toArray, List.set_cons_zero, List.set_cons_succ]
  refine wpAnyH_done (by kernel_rfl) ?_ _
  have hS := set8 (u0 := .int .i64 y.ph) (u1 := .int .i64 y.be) (u2 := .int .i64 y.mi) (u3 := .int .i64 y.wa) (u4 := .bool y.l0) (u5 := .bool y.l1) (u6 := .bool y.l2) (u7 := .bool y.te) HC3.out
  obtain ⟨g0, g1, g2, g3, g4, g5, g6, g7⟩ := rn8 (x := y) hS
  have HS := Lib.hid (blk_lt hS)
  clear hS
  go_wp2_with fail
  refine bodyPost_ret (v := rnV y) (by simp [results, Try.results57, go_sem, g0, g1, g2, g3, g4, g5, g6, g7]) rfl ⟨rfl, ?_⟩
  exact HAL.out.trans (below_set8 (BX.out.mono HAL.out.size) (by omega))

end Go.Proofs.Ytmfochplnchgcaa

/- THE WALKS of Run.meet and Run.begin, all cases. -/
namespace Go.Proofs.Ytmfochplnchgcaa
open Go.RowKit

theorem ruA_tb (r : Ru) (j d : Nat) (hj : j < 3) (hd : d < 3) : (ruA r)[4 + j * 3 + d]? = some (.int .i64 (r.tb ((j : Int) + 1) d)) := by
  match j, d, hj, hd with
  | 0, 0, _, _ => rfl
  | 0, 1, _, _ => rfl
  | 0, 2, _, _ => rfl
  | 1, 0, _, _ => rfl
  | 1, 1, _, _ => rfl
  | 1, 2, _, _ => rfl
  | 2, 0, _, _ => rfl
  | 2, 1, _, _ => rfl
  | 2, 2, _, _ => rfl
theorem ru13 {w : World} {B : Nat} {r : Ru} (h : w.heap[B]? = some (.cells (ruA r) 25 (0, 0))) :
    w.cell? ⟨B, 0, none⟩ = some (.int .i64 r.m0) ∧ w.cell? ⟨B, 1, none⟩ = some (.int .i64 r.m1) ∧ w.cell? ⟨B, 2, none⟩ = some (.int .i64 r.m2) ∧ w.cell? ⟨B, 3, none⟩ = some (.int .i64 r.pa) ∧
    w.cell? ⟨B, 4, none⟩ = some (.int .i64 r.t00) ∧ w.cell? ⟨B, 5, none⟩ = some (.int .i64 r.t01) ∧ w.cell? ⟨B, 6, none⟩ = some (.int .i64 r.t02) ∧ w.cell? ⟨B, 7, none⟩ = some (.int .i64 r.t10) ∧
    w.cell? ⟨B, 8, none⟩ = some (.int .i64 r.t11) ∧ w.cell? ⟨B, 9, none⟩ = some (.int .i64 r.t12) ∧ w.cell? ⟨B, 10, none⟩ = some (.int .i64 r.t20) ∧ w.cell? ⟨B, 11, none⟩ = some (.int .i64 r.t21) ∧ w.cell? ⟨B, 12, none⟩ = some (.int .i64 r.t22) :=
  ⟨blk_cell h 0 _ rfl, blk_cell h 1 _ rfl, blk_cell h 2 _ rfl, blk_cell h 3 _ rfl, blk_cell h 4 _ rfl, blk_cell h 5 _ rfl, blk_cell h 6 _ rfl, blk_cell h 7 _ rfl, blk_cell h 8 _ rfl, blk_cell h 9 _ rfl, blk_cell h 10 _ rfl, blk_cell h 11 _ rfl, blk_cell h 12 _ rfl⟩
theorem oth1 {w : World} {N M j : Nat} {o : Option Obj} {u : Value} (h : w.heap[N]? = o) (hne : N ≠ M) : (w.setCell ⟨M, j, none⟩ u).heap[N]? = o := by
  rw [heap_setCell_other _ ⟨M, j, none⟩ N _ hne]
  exact h
theorem oth8 {w : World} {N M : Nat} {o : Option Obj} {u0 u1 u2 u3 u4 u5 u6 u7 : Value} (h : w.heap[N]? = o) (hne : N ≠ M) : (((((((((w.setCell ⟨M, 0, none⟩ u0).setCell ⟨M, 1, none⟩ u1).setCell ⟨M, 2, none⟩ u2).setCell ⟨M, 3, none⟩ u3).setCell ⟨M, 4, none⟩ u4).setCell ⟨M, 5, none⟩ u5).setCell ⟨M, 6, none⟩ u6).setCell ⟨M, 7, none⟩ u7)).heap[N]? = o :=
  oth1 (oth1 (oth1 (oth1 (oth1 (oth1 (oth1 (oth1 h hne) hne) hne) hne) hne) hne) hne) hne
theorem wrap3 (p : Int) (j : Nat) (hp : 1 ≤ p ∧ p ≤ 3) (hj : (j : Int) = p - 1) : IntKind.i64.wrap (p - 1) = (j : Int) := by
  rw [hj]
  rcases (show p = 1 ∨ p = 2 ∨ p = 3 by omega) with rfl | rfl | rfl <;> decide
set_option maxRecDepth 100000 in
set_option maxHeartbeats 1000000 in
theorem meet_out (r : Ru) (x : Rn) (d : Nat) (hg : inR (inPh x) 1 3 = false) (w : World) : Calls Try.prog 57 #[rnV x, ruV r, .int .i64 d] w (RetRn x w) := by
  obtain ⟨ph, be, mi, wa, l0, l1, l2, te⟩ := x
  by_cases h4 : ph = 4
  · subst h4
    have hin : inR be 1 3 = false := hg
    clear hg
    go_enter Try.func57, Try.ntmps57
    go_wp2_with fail
    refine (in_any _ _ _ _).mono ?_
    rintro e w' ⟨rfl, rfl⟩
    rw [hin]
    clear hin
    go_wp2_with fail
    refine bodyPost_ret (v := rnV ⟨4, be, mi, wa, l0, l1, l2, te⟩) (by simp [results, Try.results57, go_sem]) rfl ⟨rfl, ba (below2 _ _ _)⟩
  · have hin : inR ph 1 3 = false := by
      have e : inPh ⟨ph, be, mi, wa, l0, l1, l2, te⟩ = ph := if_neg h4
      rw [e] at hg
      exact hg
    have t1 : (ph == 4) = false := by simp [h4]
    clear hg h4
    go_enter Try.func57, Try.ntmps57
    go_wp2_with fail
    refine (in_any _ _ _ _).mono ?_
    rintro e w' ⟨rfl, rfl⟩
    rw [hin]
    clear hin t1
    go_wp2_with fail
    refine bodyPost_ret (v := rnV ⟨ph, be, mi, wa, l0, l1, l2, te⟩) (by simp [results, Try.results57, go_sem]) rfl ⟨rfl, ba (below2 _ _ _)⟩
theorem meet_any (r : Ru) (x : Rn) (d : Nat) (hd : d < 3) (G : GoodRules r) (w : World) : Calls Try.prog 57 #[rnV x, ruV r, .int .i64 d] w (RetRn (meet r x d) w) := by
  have hv := G.tb (inPh x) d
  by_cases hg : goes (inPh x) = true
  · have hp := (goes_iff _).1 hg
    obtain ⟨j, hj⟩ : ∃ j : Nat, (j : Int) = inPh x - 1 := ⟨(inPh x - 1).toNat, by omega⟩
    have hw := wrap3 _ j hp hj
    have hT := ruA_tb r j d (by omega) hd
    rw [show (j : Int) + 1 = inPh x from by omega] at hT
    rw [meet_ans hg hv]
    generalize r.tb (inPh x) d = t at *
    obtain ⟨ph, be, mi, wa, l0, l1, l2, te⟩ := x
    by_cases h4 : ph = 4
    · subst h4
      have e : inPh ⟨4, be, mi, wa, l0, l1, l2, te⟩ = be := if_pos rfl
      rw [e] at hp hw hj
      rcases (show t = 0 ∨ t = 1 ∨ t = 2 ∨ t = 3 by omega) with rfl | rfl | rfl | rfl
      · exact meet_go0w r be mi wa l0 l1 l2 te d hp _ j 0 w (fun w M h => ans_look h 0 hv) (fun w => ans_any 0 hv _ w) hT hw (by omega) (by omega) (by omega) (by omega)
      · exact meet_go1w r be mi wa l0 l1 l2 te d hp _ j 1 w (fun w M h => ans_look h 1 hv) (fun w => ans_any 1 hv _ w) hT hw (by omega) (by omega) (by omega) (by omega)
      · exact meet_go2w r be mi wa l0 l1 l2 te d hp _ j 2 w (fun w M h => ans_look h 2 hv) (fun w => ans_any 2 hv _ w) hT hw (by omega) (by omega) (by omega) (by omega)
      · exact meet_go3w r be mi wa l0 l1 l2 te d hp _ j 3 w (fun w M h => ans_look h 3 hv) (fun w => ans_any 3 hv _ w) hT hw (by omega) (by omega) (by omega) (by omega)
    · have e : inPh ⟨ph, be, mi, wa, l0, l1, l2, te⟩ = ph := if_neg h4
      rw [e] at hp hw hj
      rcases (show t = 0 ∨ t = 1 ∨ t = 2 ∨ t = 3 by omega) with rfl | rfl | rfl | rfl
      · exact meet_go0 r ph be mi wa l0 l1 l2 te d h4 hp _ j 0 w (fun w M h => ans_look h 0 hv) (fun w => ans_any 0 hv _ w) hT hw (by omega) (by omega) (by omega) (by omega)
      · exact meet_go1 r ph be mi wa l0 l1 l2 te d h4 hp _ j 1 w (fun w M h => ans_look h 1 hv) (fun w => ans_any 1 hv _ w) hT hw (by omega) (by omega) (by omega) (by omega)
      · exact meet_go2 r ph be mi wa l0 l1 l2 te d h4 hp _ j 2 w (fun w M h => ans_look h 2 hv) (fun w => ans_any 2 hv _ w) hT hw (by omega) (by omega) (by omega) (by omega)
      · exact meet_go3 r ph be mi wa l0 l1 l2 te d h4 hp _ j 3 w (fun w M h => ans_look h 3 hv) (fun w => ans_any 3 hv _ w) hT hw (by omega) (by omega) (by omega) (by omega)
  · have e : meet r x d = x := by unfold meet; rw [if_neg hg]
    rw [e]
    exact meet_out r x d (by simpa [goes] using hg) w
def stB (r : Ru) (x : Rn) (p : Int) : Nat → Rn
  | 0 => { x with ph := p, mi := 0 }
  | i + 1 => meetIf r (stB r x p i) i
theorem stB_three (r : Ru) (x : Rn) (p : Int) : stB r x p 3 = begin r x p := rfl
theorem meetIf_lost3 (r : Ru) (x : Rn) (d : Nat) : (meetIf r x d).l0 = x.l0 ∧ (meetIf r x d).l1 = x.l1 ∧ (meetIf r x d).l2 = x.l2 := by
  unfold meetIf
  split
  · unfold meet
    split
    · split
      · exact ⟨rfl, rfl, rfl⟩
      · split
        · exact ⟨rfl, rfl, rfl⟩
        · split
          · split <;> exact ⟨rfl, rfl, rfl⟩
          · exact ⟨rfl, rfl, rfl⟩
    · exact ⟨rfl, rfl, rfl⟩
  · exact ⟨rfl, rfl, rfl⟩
theorem stB_lost (r : Ru) (x : Rn) (p : Int) (d : Nat) : ∀ i, (stB r x p i).lost d = x.lost d
  | 0 => rfl
  | i + 1 => by
    rw [← stB_lost r x p d i]
    obtain ⟨a, b, c⟩ := meetIf_lost3 r (stB r x p i) i
    show (meetIf r (stB r x p i) i).lost d = _
    unfold Rn.lost
    rw [a, b, c]
theorem run_index3 (l0 l1 l2 : Bool) (i : Nat) (hi : i < 3) (w : World) : (Instr.index 28 (.agg #[.bool l0, .bool l1, .bool l2]) (.int .i64 i)).run Try.prog w = .ok (.bool (if i = 0 then l0 else if i = 1 then l1 else l2)) w := by
  rcases (show i = 0 ∨ i = 1 ∨ i = 2 by omega) with rfl | rfl | rfl
  · exact (show (Instr.index 28 (.agg #[.bool l0, .bool l1, .bool l2]) (.int .i64 0)).run Try.prog w = .ok (.bool l0) w by kernel_rfl)
  · exact (show (Instr.index 28 (.agg #[.bool l0, .bool l1, .bool l2]) (.int .i64 1)).run Try.prog w = .ok (.bool l1) w by kernel_rfl)
  · exact (show (Instr.index 28 (.agg #[.bool l0, .bool l1, .bool l2]) (.int .i64 2)).run Try.prog w = .ok (.bool l2) w by kernel_rfl)
set_option maxRecDepth 100000 in
set_option maxHeartbeats 1000000 in
theorem begin_any (r : Ru) (x : Rn) (p : Int) (G : GoodRules r) (w : World) : Calls Try.prog 56 #[rnV x, ruV r, .int .i64 p] w (RetRn (begin r x p) w) := by
  have HS0 : Hid (stB r x p 0 = { x with ph := p, mi := 0 }) := rfl
  have HG := Lib.hid G
  obtain ⟨ph, be, mi, wa, l0, l1, l2, te⟩ := x
  go_enter Try.func56, Try.ntmps56
  go_wp2_with fail
  generalize hW0 : ((w.alloc (.cells (rnA ⟨p, be, 0, wa, l0, l1, l2, te⟩) 30)).alloc (.cells (ruA r) 25)).alloc (.cells _ _) = W at *
  obtain ⟨hal, hB1, hB2, hB3, hWs⟩ := boxesM w _ _ _ _ W hW0.symm
  clear hW0 G
  have HAL := Lib.hid hal
  have HB1 := Lib.hid hB1
  have HB2 := Lib.hid hB2
  have HB3 := Lib.hid hB3
  clear hal hB1 hB2 hB3 hWs
  go_loopw [14] (fun iv wr => ∃ (i : Nat), i ≤ 3 ∧ iv = .int .i64 i ∧ Hid (wr.heap[w.heap.size]? = some (.cells (rnA (stB r ⟨ph, be, mi, wa, l0, l1, l2, te⟩ p i)) 30 (0, 0))) ∧ Hid (wr.heap[w.heap.size + 1]? = some (.cells (ruA r) 25 (0, 0))) ∧
      Hid (∃ c, wr.heap[w.heap.size + 1 + 1]? = some (.cells (rnA c) 30 (0, 0))) ∧ Hid (Below w.heap.size w wr))
    (fun iv _ => 3 - (intOf iv).toNat)
  case atStart => exact ⟨0, by omega, rfl, HB1, HB2, ⟨rn0, HB3.out⟩, HAL⟩
  case round =>
    obtain ⟨i, hi, rfl, K1, K2, K3, KB⟩ := hrel
    by_cases hlt : i < 3
    · have hix := run_index3 l0 l1 l2 i hlt wr
      have hlo : (if i = 0 then l0 else if i = 1 then l1 else l2) = (stB r ⟨ph, be, mi, wa, l0, l1, l2, te⟩ p i).lost i := (stB_lost r ⟨ph, be, mi, wa, l0, l1, l2, te⟩ p i i).symm
      rw [hlo] at hix
      have Hst : Hid (stB r ⟨ph, be, mi, wa, l0, l1, l2, te⟩ p (i + 1) = meetIf r (stB r ⟨ph, be, mi, wa, l0, l1, l2, te⟩ p i) i) := rfl
      have hlt' : (i : Int) < 3 := by omega
      have HLT := Lib.hid hlt
      clear hlo hlt
      generalize stB r ⟨ph, be, mi, wa, l0, l1, l2, te⟩ p i = y at *
      cases hl : y.lost i with
      | false =>
        rw [hl] at hix
        have HZ : Hid (stB r ⟨ph, be, mi, wa, l0, l1, l2, te⟩ p (i + 1) = y) := by
          show _ = _
          rw [Hst.out]
          unfold meetIf
          rw [if_neg (by rw [hl]; decide)]
        clear hl Hst
        go_wp2_with fail
        exact ⟨⟨i + 1, by have := HLT.out; omega, by go_num, by rw [HZ.out]; exact K1, K2, K3, KB⟩, meas_up HLT.out⟩
      | true =>
        rw [hl] at hix
        have HZ : Hid (stB r ⟨ph, be, mi, wa, l0, l1, l2, te⟩ p (i + 1) = meet r y i) := by
          show _ = _
          rw [Hst.out]
          unfold meetIf
          rw [if_pos hl]
        clear hl
        have hB1 := K1.out
        have hB2 := K2.out
        obtain ⟨k0, k1, k2, k3, k4, k5, k6, k7⟩ := rn8 hB1
        obtain ⟨m0, m1, m2, m3, m4, m5, m6, m7, m8, m9, m10, m11, m12⟩ := ru13 hB2
        clear hB1 hB2 Hst
        go_wp2_with fail
        refine (meet_any r y i HLT.out HG.out _).mono ?_
        rintro e w1 ⟨rfl, hb⟩
        generalize meet r y i = u at *
        have hB1 := K1.out
        have hB2 := K2.out
        obtain ⟨c, hB3⟩ := K3.out
        have e1 := blk_keep hB1 hb (blk_lt hB1)
        have E2 := Lib.hid (blk_keep hB2 hb (blk_lt hB2))
        have E3 := Lib.hid (blk_keep hB3 hb (blk_lt hB3))
        have HB := Lib.hid (KB.out.trans (hb.mono KB.out.size))
        obtain ⟨g0, g1, g2, g3, g4, g5, g6, g7⟩ := rn8 e1
        obtain ⟨f0, f1, f2, f3, f4, f5, f6, f7⟩ := rnf e1
        have E1 := Lib.hid e1
        clear hB1 hB2 hB3 e1 hb k0 k1 k2 k3 k4 k5 k6 k7 m0 m1 m2 m3 m4 m5 m6 m7 m8 m9 m10 m11 m12
        go_wp2_with fail
        exact ⟨⟨i + 1, by have := HLT.out; omega, by go_num, (by rw [HZ.out]; exact set8 E1.out), oth8 E2.out (by omega), ⟨c, oth8 E3.out (by omega)⟩, below_set8 HB.out (Nat.le_refl _)⟩, meas_up HLT.out⟩
    · obtain rfl : i = 3 := by omega
      rw [stB_three] at K1
      generalize begin r ⟨ph, be, mi, wa, l0, l1, l2, te⟩ p = u at *
      have hB1 := K1.out
      obtain ⟨c, hB3⟩ := K3.out
      obtain ⟨k0, k1, k2, k3, k4, k5, k6, k7⟩ := rn8 hB1
      obtain ⟨g0, g1, g2, g3, g4, g5, g6, g7⟩ := rn8 hB3
      obtain ⟨f0, f1, f2, f3, f4, f5, f6, f7⟩ := rnf hB3
      have E3 := Lib.hid hB3
      clear hB1 hB3
      go_wp2_with fail
      obtain ⟨h0, h1, h2, h3, h4, h5, h6, h7⟩ := rn8 (x := u) (set8 (u0 := .int .i64 u.ph) (u1 := .int .i64 u.be) (u2 := .int .i64 u.mi) (u3 := .int .i64 u.wa) (u4 := .bool u.l0) (u5 := .bool u.l1) (u6 := .bool u.l2) (u7 := .bool u.te) E3.out)
      refine bodyPost_ret (v := rnV u) (by simp [results, Try.results56, go_sem, h0, h1, h2, h3, h4, h5, h6, h7]) rfl ⟨rfl, ?_⟩
      exact below_set8 KB.out (by omega)
end Go.Proofs.Ytmfochplnchgcaa

/- THE WALKS of Run.held, Run.right and Run.tick. -/
namespace Go.Proofs.Ytmfochplnchgcaa
open Go.RowKit

def hB (r : Ru) (x : Rn) (p : Int) (d : Nat) : Bool := x.lost d && decide (r.tb p d = 2)
theorem heldAt_yes {r : Ru} {x : Rn} {p : Int} {d : Nat} (hd : d < 3) (h : hB r x p d = true) : heldAt r x p = true := by
  unfold hB at h
  simp only [Bool.and_eq_true, decide_eq_true_eq] at h
  exact held_of hd h.1 h.2
theorem heldAt_no {r : Ru} {x : Rn} {p : Int} (h : ∀ d, d < 3 → hB r x p d = false) : heldAt r x p = false := by
  have h0 := h 0 (by omega)
  have h1 := h 1 (by omega)
  have h2 := h 2 (by omega)
  unfold hB Rn.lost at h0 h1 h2
  unfold heldAt
  simp only [if_true, if_false, Nat.one_ne_zero] at h0 h1 h2
  rw [h0, h1]
  simpa using h2
theorem boxes2 (w : World) (x : Rn) (r : Ru) (W : World) (hW : W = (w.alloc (.cells (rnA x) 30)).alloc (.cells (ruA r) 25)) :
    Below w.heap.size w W ∧ W.heap[w.heap.size]? = some (.cells (rnA x) 30 (0, 0)) ∧ W.heap[w.heap.size + 1]? = some (.cells (ruA r) 25 (0, 0)) ∧ W.heap.size = w.heap.size + 2 := by
  subst hW
  have e1 : (w.alloc (.cells (rnA x) 30)).heap.size = w.heap.size + 1 := World.size_alloc ..
  have a1 := blk_new w (rnA x) 30
  have a2 := blk_new (w.alloc (.cells (rnA x) 30)) (ruA r) 25
  rw [e1] at a2
  exact ⟨below2 _ _ _, (heap_alloc_old _ (.cells (ruA r) 25) (blk_lt a1)).trans a1, a2, by rw [World.size_alloc, e1]⟩

set_option maxRecDepth 100000 in
set_option maxHeartbeats 1000000 in
theorem held_any (r : Ru) (x : Rn) (hp : 1 ≤ x.be ∧ x.be ≤ 3) (w : World) : Calls Try.prog 58 #[rnV x, ruV r] w (RetBW (heldAt r x x.be) ((w.alloc (rnO x)).alloc (ruO r))) := by
  obtain ⟨j, hj⟩ : ∃ j : Nat, (j : Int) = x.be - 1 := ⟨(x.be - 1).toNat, by omega⟩
  have hw := wrap3 _ j hp hj
  have hj0 : (0 : Int) ≤ j := by omega
  have hj3 : (j : Int) < 3 := by omega
  have hlo : ∀ i w, i < 3 → (Instr.index 28 (.agg #[.bool x.l0, .bool x.l1, .bool x.l2]) (.int .i64 (i : Nat))).run Try.prog w = .ok (.bool (x.lost i)) w := fun i w hi => run_index3 x.l0 x.l1 x.l2 i hi w
  have hT : ∀ d, d < 3 → (ruA r)[4 + j * 3 + d]? = some (.int .i64 (r.tb x.be d)) := fun d hd => by
    have := ruA_tb r j d (by omega) hd
    rw [show (j : Int) + 1 = x.be from by omega] at this
    exact this
  have HLO := Lib.hid hlo
  have HT := Lib.hid hT
  clear hj hlo hT hp
  obtain ⟨g, hg⟩ : ∃ g, g = heldAt r x x.be := ⟨_, rfl⟩
  have HG := Lib.hid hg
  rw [← hg]
  clear hg
  go_enter Try.func58, Try.ntmps58
  go_wp2_with fail
  generalize hW0 : (w.alloc (.cells (rnA x) 30)).alloc (.cells (ruA r) 25) = W at *
  obtain ⟨hal, hB1, hB2, hWs⟩ := boxes2 w _ _ W hW0.symm
  have HW0 := Lib.hid hW0
  clear hW0 hal hWs
  have HB1 := Lib.hid hB1
  have HB2 := Lib.hid hB2
  clear hB1 hB2
  go_loopw [9] (fun iv wr => ∃ (i : Nat), i ≤ 3 ∧ iv = .int .i64 i ∧ wr = W ∧ Hid (∀ d, d < i → hB r x x.be d = false))
    (fun iv _ => 3 - (intOf iv).toNat)
  case atStart => exact ⟨0, by omega, rfl, rfl, fun d hd => absurd hd (by omega)⟩
  case round =>
    obtain ⟨i, hi, rfl, rfl, HN⟩ := hrel
    by_cases hlt : i < 3
    · have hix := HLO.out i wr hlt
      have k8 := blk_cell HB2.out _ _ (HT.out i hlt)
      have k1 := (rn8 HB1.out).2.1
      have hlt' : (i : Int) < 3 := by omega
      have hi0 : (0 : Int) ≤ i := by omega
      have HLT := Lib.hid hlt
      have Hb : Hid (hB r x x.be i = (x.lost i && decide (r.tb x.be i = 2))) := rfl
      clear hlt
      generalize r.tb x.be i = t at *
      cases hl : x.lost i with
      | false =>
        rw [hl] at hix Hb
        clear hl k8
        go_wp2_with fail
        refine ⟨⟨i + 1, by have := HLT.out; omega, by go_num, by first | rfl | trivial, ?_⟩, meas_up HLT.out⟩
        intro d hd
        rcases Nat.lt_or_ge d i with h | h
        · exact HN.out d h
        · rw [show d = i from by omega, Hb.out]
          rfl
      | true =>
        rw [hl] at hix Hb
        clear hl
        by_cases h2 : t = 2
        · have t1 : (t == 2) = true := by simp [h2]
          have hgg : Hid (g = true) := by
            show _ = _
            rw [HG.out]
            refine heldAt_yes HLT.out ?_
            rw [Hb.out, h2]
            rfl
          clear h2
          go_wp2_with fail
          go_ret
          exact ⟨by rw [hgg.out]; rfl, rfl⟩
        · have t1 : (t == 2) = false := by simp [h2]
          have Hn : Hid (hB r x x.be i = false) := by
            show _ = _
            rw [Hb.out, decide_eq_false h2]
            rfl
          clear h2
          go_wp2_with fail
          refine ⟨⟨i + 1, by have := HLT.out; omega, by go_num, by first | rfl | trivial, ?_⟩, meas_up HLT.out⟩
          intro d hd
          rcases Nat.lt_or_ge d i with h | h
          · exact HN.out d h
          · rw [show d = i from by omega]
            exact Hn.out
    · obtain rfl : i = 3 := by omega
      have hgg : Hid (g = false) := by
        show _ = _
        rw [HG.out]
        exact heldAt_no HN.out
      clear HN
      go_wp2_with fail
      go_ret
      exact ⟨by rw [hgg.out]; rfl, rfl⟩
end Go.Proofs.Ytmfochplnchgcaa
