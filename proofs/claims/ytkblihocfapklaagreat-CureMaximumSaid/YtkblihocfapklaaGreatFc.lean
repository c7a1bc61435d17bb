/- Part c of the lemmas and walks. -/
import Derived.Test.YtkblihocfapklaaGreatFb
set_option maxRecDepth 100000
set_option maxHeartbeats 30000000
namespace Go.Proofs.YtkblihocfapklaaGreat
open Go.RowKit
theorem aam {r : Ru} {x : Rn} {d : Nat} (hg : goes (uz x) = true) (hv : 0 ≤ r.tb (uz x) d ∧ r.tb (uz x) d ≤ 3) : meet r x d = ahG (r.tb (uz x) d) x := by
 unfold meet ahG
 rw [if_pos hg]
theorem rY {w : World} {B : Nat} {x : Rn} (h : w.heap[B]? = some (.cells (zf x) 66 (0, 0))) :
  w.cell? ⟨B, 0, none⟩ = some (.int .i64 x.ph) ∧ w.cell? ⟨B, 1, none⟩ = some (.int .i64 x.be) ∧ w.cell? ⟨B, 2, none⟩ = some (.int .i64 x.mi) ∧ w.cell? ⟨B, 3, none⟩ = some (.int .i64 x.wa) ∧
  w.cell? ⟨B, 4, none⟩ = some (.bool x.l0) ∧ w.cell? ⟨B, 5, none⟩ = some (.bool x.l1) ∧ w.cell? ⟨B, 6, none⟩ = some (.bool x.l2) ∧ w.cell? ⟨B, 7, none⟩ = some (.bool x.te) :=
 ⟨af h 0 _ rfl, af h 1 _ rfl, af h 2 _ rfl, af h 3 _ rfl, af h 4 _ rfl, af h 5 _ rfl, af h 6 _ rfl, af h 7 _ rfl⟩
theorem Ob {w : World} {B : Nat} {x : Rn} (h : w.heap[B]? = some (.cells (zf x) 66 (0, 0))) :
  w.frozen? ⟨B, 0, none⟩ = false ∧ w.frozen? ⟨B, 1, none⟩ = false ∧ w.frozen? ⟨B, 2, none⟩ = false ∧ w.frozen? ⟨B, 3, none⟩ = false ∧ w.frozen? ⟨B, 4, none⟩ = false ∧ w.frozen? ⟨B, 5, none⟩ = false ∧ w.frozen? ⟨B, 6, none⟩ = false ∧ w.frozen? ⟨B, 7, none⟩ = false :=
 ⟨ah h 0, ah h 1, ah h 2, ah h 3, ah h 4, ah h 5, ah h 6, ah h 7⟩
def RN8 (w : World) (B : Nat) : Prop := ∃ c0 c1 c2 c3 c4 c5 c6 c7, w.heap[B]? = some (.cells #[c0, c1, c2, c3, c4, c5, c6, c7] 66 (0, 0))
theorem RN8.lt {w : World} {B : Nat} (h : RN8 w B) : B < w.heap.size := by
 obtain ⟨_, _, _, _, _, _, _, _, h⟩ := h
 exact ai h
theorem RN8.keep {a b : World} {B n : Nat} (h : RN8 a B) (hb : Below n a b) (hB : B < n) : RN8 b B := by
 obtain ⟨c0, c1, c2, c3, c4, c5, c6, c7, h⟩ := h
 exact ⟨c0, c1, c2, c3, c4, c5, c6, c7, ay h hb hB⟩
theorem RN8.cell {w : World} {B : Nat} (h : RN8 w B) : w.cell? ⟨B, 0, none⟩ = some (cellOf w ⟨B, 0, none⟩) ∧ w.cell? ⟨B, 1, none⟩ = some (cellOf w ⟨B, 1, none⟩) ∧ w.cell? ⟨B, 2, none⟩ = some (cellOf w ⟨B, 2, none⟩) ∧ w.cell? ⟨B, 3, none⟩ = some (cellOf w ⟨B, 3, none⟩) ∧ w.cell? ⟨B, 4, none⟩ = some (cellOf w ⟨B, 4, none⟩) ∧ w.cell? ⟨B, 5, none⟩ = some (cellOf w ⟨B, 5, none⟩) ∧ w.cell? ⟨B, 6, none⟩ = some (cellOf w ⟨B, 6, none⟩) ∧ w.cell? ⟨B, 7, none⟩ = some (cellOf w ⟨B, 7, none⟩) ∧ w.frozen? ⟨B, 0, none⟩ = false ∧ w.frozen? ⟨B, 1, none⟩ = false ∧ w.frozen? ⟨B, 2, none⟩ = false ∧ w.frozen? ⟨B, 3, none⟩ = false ∧ w.frozen? ⟨B, 4, none⟩ = false ∧ w.frozen? ⟨B, 5, none⟩ = false ∧ w.frozen? ⟨B, 6, none⟩ = false ∧ w.frozen? ⟨B, 7, none⟩ = false := by
 obtain ⟨c0, c1, c2, c3, c4, c5, c6, c7, h⟩ := h
 have e : ∀ j v, (#[c0, c1, c2, c3, c4, c5, c6, c7] : Array Value)[j]? = some v → w.cell? ⟨B, j, none⟩ = some (cellOf w ⟨B, j, none⟩) := fun j v hv => by
  have := af h j v hv
  unfold cellOf
  rw [this]
  rfl
 exact ⟨e 0 _ rfl, e 1 _ rfl, e 2 _ rfl, e 3 _ rfl, e 4 _ rfl, e 5 _ rfl, e 6 _ rfl, e 7 _ rfl, ah h 0, ah h 1, ah h 2, ah h 3, ah h 4, ah h 5, ah h 6, ah h 7⟩
theorem tC {w : World} {B T : Nat} {c0 c1 c2 c3 c4 c5 c6 c7 u0 u1 u2 u3 u4 u5 u6 u7 : Value} (h : w.heap[B]? = some (.cells #[c0, c1, c2, c3, c4, c5, c6, c7] T (0, 0))) :
  (((((((((w.setCell ⟨B, 0, none⟩ u0).setCell ⟨B, 1, none⟩ u1).setCell ⟨B, 2, none⟩ u2).setCell ⟨B, 3, none⟩ u3).setCell ⟨B, 4, none⟩ u4).setCell ⟨B, 5, none⟩ u5).setCell ⟨B, 6, none⟩ u6).setCell ⟨B, 7, none⟩ u7)).heap[B]? = some (.cells #[u0, u1, u2, u3, u4, u5, u6, u7] T (0, 0)) := by
 have h0 : (w.setCell ⟨B, 0, none⟩ u0).heap[B]? = some (.cells #[u0, c1, c2, c3, c4, c5, c6, c7] T (0, 0)) := bM h 0 _
 have h1 : ((w.setCell ⟨B, 0, none⟩ u0).setCell ⟨B, 1, none⟩ u1).heap[B]? = some (.cells #[u0, u1, c2, c3, c4, c5, c6, c7] T (0, 0)) := bM h0 1 _
 have h2 : (((w.setCell ⟨B, 0, none⟩ u0).setCell ⟨B, 1, none⟩ u1).setCell ⟨B, 2, none⟩ u2).heap[B]? = some (.cells #[u0, u1, u2, c3, c4, c5, c6, c7] T (0, 0)) := bM h1 2 _
 have h3 : ((((w.setCell ⟨B, 0, none⟩ u0).setCell ⟨B, 1, none⟩ u1).setCell ⟨B, 2, none⟩ u2).setCell ⟨B, 3, none⟩ u3).heap[B]? = some (.cells #[u0, u1, u2, u3, c4, c5, c6, c7] T (0, 0)) := bM h2 3 _
 have h4 : (((((w.setCell ⟨B, 0, none⟩ u0).setCell ⟨B, 1, none⟩ u1).setCell ⟨B, 2, none⟩ u2).setCell ⟨B, 3, none⟩ u3).setCell ⟨B, 4, none⟩ u4).heap[B]? = some (.cells #[u0, u1, u2, u3, u4, c5, c6, c7] T (0, 0)) := bM h3 4 _
 have h5 : ((((((w.setCell ⟨B, 0, none⟩ u0).setCell ⟨B, 1, none⟩ u1).setCell ⟨B, 2, none⟩ u2).setCell ⟨B, 3, none⟩ u3).setCell ⟨B, 4, none⟩ u4).setCell ⟨B, 5, none⟩ u5).heap[B]? = some (.cells #[u0, u1, u2, u3, u4, u5, c6, c7] T (0, 0)) := bM h4 5 _
 have h6 : (((((((w.setCell ⟨B, 0, none⟩ u0).setCell ⟨B, 1, none⟩ u1).setCell ⟨B, 2, none⟩ u2).setCell ⟨B, 3, none⟩ u3).setCell ⟨B, 4, none⟩ u4).setCell ⟨B, 5, none⟩ u5).setCell ⟨B, 6, none⟩ u6).heap[B]? = some (.cells #[u0, u1, u2, u3, u4, u5, u6, c7] T (0, 0)) := bM h5 6 _
 have h7 : ((((((((w.setCell ⟨B, 0, none⟩ u0).setCell ⟨B, 1, none⟩ u1).setCell ⟨B, 2, none⟩ u2).setCell ⟨B, 3, none⟩ u3).setCell ⟨B, 4, none⟩ u4).setCell ⟨B, 5, none⟩ u5).setCell ⟨B, 6, none⟩ u6).setCell ⟨B, 7, none⟩ u7).heap[B]? = some (.cells #[u0, u1, u2, u3, u4, u5, u6, u7] T (0, 0)) := bM h6 7 _
 exact h7
theorem RN8.store {w : World} {B : Nat} (u0 u1 u2 u3 u4 u5 u6 u7 : Value) (h : RN8 w B) : RN8 (((((((((w.setCell ⟨B, 0, none⟩ u0).setCell ⟨B, 1, none⟩ u1).setCell ⟨B, 2, none⟩ u2).setCell ⟨B, 3, none⟩ u3).setCell ⟨B, 4, none⟩ u4).setCell ⟨B, 5, none⟩ u5).setCell ⟨B, 6, none⟩ u6).setCell ⟨B, 7, none⟩ u7)) B := by
 obtain ⟨_, _, _, _, _, _, _, _, h⟩ := h
 exact ⟨_, _, _, _, _, _, _, _, tC h⟩
theorem dE {n : Nat} {w0 w : World} {B : Nat} {u0 u1 u2 u3 u4 u5 u6 u7 : Value} (h : Below n w0 w) (hB : n ≤ B) : Below n w0 (((((((((w.setCell ⟨B, 0, none⟩ u0).setCell ⟨B, 1, none⟩ u1).setCell ⟨B, 2, none⟩ u2).setCell ⟨B, 3, none⟩ u3).setCell ⟨B, 4, none⟩ u4).setCell ⟨B, 5, none⟩ u5).setCell ⟨B, 6, none⟩ u6).setCell ⟨B, 7, none⟩ u7)) :=
 (((((((h.setCell (p := ⟨B, 0, none⟩) hB u0).setCell (p := ⟨B, 1, none⟩) hB u1).setCell (p := ⟨B, 2, none⟩) hB u2).setCell (p := ⟨B, 3, none⟩) hB u3).setCell (p := ⟨B, 4, none⟩) hB u4).setCell (p := ⟨B, 5, none⟩) hB u5).setCell (p := ⟨B, 6, none⟩) hB u6).setCell (p := ⟨B, 7, none⟩) hB u7
theorem BL {P : Program} (w : World) {ops : Array Oper} {o : Oper} {a : Act} {K : Act → World → Prop} {Q : Exit → Act → World → Prop} {E : Prop} (hgd : o.guard = none) (m x : Operand) (t : TypeId)
  (hop : o.op = Op.lookup t m x false) (vm vx v : Value) (hm : a.eval m = vm) (hx : a.eval x = vx) (hrun : (Instr.lookup t vm vx false).run P w = .ok v w) (h : K (a.put o.dst v) w) :
  if Region.wanted o (yielded ops a.tmps) = true then Oper.wp P o a w K Q else E := by
 have hw : Region.wanted o (yielded ops a.tmps) = true := by simp [Region.wanted, hgd]
 rw [if_pos hw]
 unfold Oper.wp
 simp [execOp, hop, hm, hx, hrun, Result.andThen]
 exact h
theorem uw (w : World) (x : Rn) (r : Ru) (cs : Array Value) (T : Nat) (W : World) (hW : W = ((w.alloc (.cells (zf x) 66)).alloc (.cells (yF r) 63)).alloc (.cells cs T)) :
  Below w.heap.size w W ∧ W.heap[w.heap.size]? = some (.cells (zf x) 66 (0, 0)) ∧ W.heap[w.heap.size + 1]? = some (.cells (yF r) 63 (0, 0)) ∧ W.heap[w.heap.size + 1 + 1]? = some (.cells cs T (0, 0)) ∧ W.heap.size = w.heap.size + 3 := by
 subst hW
 have e1 : (w.alloc (.cells (zf x) 66)).heap.size = w.heap.size + 1 := World.size_alloc ..
 have e2 : ((w.alloc (.cells (zf x) 66)).alloc (.cells (yF r) 63)).heap.size = w.heap.size + 1 + 1 := by rw [World.size_alloc, e1]
 have a1 := aV w (zf x) 66
 have a2 := aV (w.alloc (.cells (zf x) 66)) (yF r) 63
 have a3 := aV ((w.alloc (.cells (zf x) 66)).alloc (.cells (yF r) 63)) cs T
 rw [e1] at a2
 rw [e2] at a3
 have a1' := (heap_alloc_old _ (.cells (yF r) 63) (ai a1)).trans a1
 exact ⟨ba (below2 _ _ _), (heap_alloc_old _ _ (ai a1')).trans a1', (heap_alloc_old _ _ (ai a2)).trans a2, a3, by rw [World.size_alloc, e2]⟩
theorem SS {n : Nat} {W a b : World} {B1 B2 o : Nat} {v0 v1 v2 v3 v4 v5 v6 v7 v8 : Value} (hn : n ≤ W.heap.size) (hb : Below a.heap.size a b)
  (h : Below n W a ∧ a.cell? ⟨B1, 0, none⟩ = some (v0) ∧ a.cell? ⟨B1, 1, none⟩ = some (v1) ∧ a.cell? ⟨B1, 2, none⟩ = some (v2) ∧ a.cell? ⟨B1, 3, none⟩ = some (v3) ∧ a.cell? ⟨B1, 4, none⟩ = some (v4) ∧ a.cell? ⟨B1, 5, none⟩ = some (v5) ∧ a.cell? ⟨B1, 6, none⟩ = some (v6) ∧ a.cell? ⟨B1, 7, none⟩ = some (v7) ∧ a.cell? ⟨B2, o, none⟩ = some v8) : Below n W b ∧ b.cell? ⟨B1, 0, none⟩ = some (v0) ∧ b.cell? ⟨B1, 1, none⟩ = some (v1) ∧ b.cell? ⟨B1, 2, none⟩ = some (v2) ∧ b.cell? ⟨B1, 3, none⟩ = some (v3) ∧ b.cell? ⟨B1, 4, none⟩ = some (v4) ∧ b.cell? ⟨B1, 5, none⟩ = some (v5) ∧ b.cell? ⟨B1, 6, none⟩ = some (v6) ∧ b.cell? ⟨B1, 7, none⟩ = some (v7) ∧ b.cell? ⟨B2, o, none⟩ = some v8 := by
 obtain ⟨h0, k0, k1, k2, k3, k4, k5, k6, k7, k8⟩ := h
 have e : ∀ B j v, a.cell? ⟨B, j, none⟩ = some v → b.cell? ⟨B, j, none⟩ = some v := fun B j v h => (hb.cell (p := ⟨B, j, none⟩) (World.block_lt_of_cell? (h := h))).trans h
 have hs := h0.size
 exact ⟨h0.trans (hb.mono (by omega)), e _ _ _ k0, e _ _ _ k1, e _ _ _ k2, e _ _ _ k3, e _ _ _ k4, e _ _ _ k5, e _ _ _ k6, e _ _ _ k7, e _ _ _ k8⟩
theorem Z5 {n B : Nat} {W a b : World} {B1 B2 o : Nat} {v0 v1 v2 v3 v4 v5 v6 v7 v8 : Value} (hn : n ≤ B) (h1 : B1 < B) (h2 : B2 < B) (hs : B ≤ a.heap.size) (hb : Below B a b)
  (h : Below n W a ∧ a.cell? ⟨B1, 0, none⟩ = some (v0) ∧ a.cell? ⟨B1, 1, none⟩ = some (v1) ∧ a.cell? ⟨B1, 2, none⟩ = some (v2) ∧ a.cell? ⟨B1, 3, none⟩ = some (v3) ∧ a.cell? ⟨B1, 4, none⟩ = some (v4) ∧ a.cell? ⟨B1, 5, none⟩ = some (v5) ∧ a.cell? ⟨B1, 6, none⟩ = some (v6) ∧ a.cell? ⟨B1, 7, none⟩ = some (v7) ∧ a.cell? ⟨B2, o, none⟩ = some v8) : Below n W b ∧ b.cell? ⟨B1, 0, none⟩ = some (v0) ∧ b.cell? ⟨B1, 1, none⟩ = some (v1) ∧ b.cell? ⟨B1, 2, none⟩ = some (v2) ∧ b.cell? ⟨B1, 3, none⟩ = some (v3) ∧ b.cell? ⟨B1, 4, none⟩ = some (v4) ∧ b.cell? ⟨B1, 5, none⟩ = some (v5) ∧ b.cell? ⟨B1, 6, none⟩ = some (v6) ∧ b.cell? ⟨B1, 7, none⟩ = some (v7) ∧ b.cell? ⟨B2, o, none⟩ = some v8 := by
 obtain ⟨h0, k0, k1, k2, k3, k4, k5, k6, k7, k8⟩ := h
 have e : ∀ B' j v, B' < B → a.cell? ⟨B', j, none⟩ = some v → b.cell? ⟨B', j, none⟩ = some v := fun B' j v hl h => (hb.cell (p := ⟨B', j, none⟩) hl).trans h
 exact ⟨h0.trans (hb.mono hn), e _ _ _ h1 k0, e _ _ _ h1 k1, e _ _ _ h1 k2, e _ _ _ h1 k3, e _ _ _ h1 k4, e _ _ _ h1 k5, e _ _ _ h1 k6, e _ _ _ h1 k7, e _ _ _ h2 k8⟩
/-! WALKS -/
theorem aeF (F : Nat) (r : Ru) (ph be mi wa : Int) (l0 l1 l2 te : Bool) (d : Nat) (h4 : ¬ ph = 4) (hp : 1 ≤ ph ∧ ph ≤ 3) (y : Rn) (j : Nat) (t : Int) (w : World)
  (HL : Hid (∀ w M, Dn w M → (Instr.lookup 142 (.map (some M)) (.int .i64 t) false).run Tryz.prog w = .ok (.func (.func F) #[] #[]) w))
  (HF : Hid (∀ vs w, (callFunc F vs).run Tryz.prog w = .ok (.enter F vs) w))
  (HC : Hid (∀ w, Calls Tryz.prog F #[iq ⟨ph, be, mi, wa, l0, l1, l2, te⟩] w (qi y w)))
  (HT : Hid ((yF r)[4 + j * 3 + d]? = some (.int .i64 t))) (hw : IntKind.i64.wrap (ph - 1) = (j : Int)) (hj0 : (0 : Int) ≤ j) (hj : (j : Int) < 3) (hd0 : (0 : Int) ≤ d) (hd : (d : Int) < 3) :
  Calls Tryz.prog 64 #[iq ⟨ph, be, mi, wa, l0, l1, l2, te⟩, rZ r, .int .i64 d] w (qi y w) := by
 have t1 : (ph == 4) = false := by simp [h4]
 have hin : iC ph 1 3 = true := Me hp
 clear h4 hp
 go_enter Tryz.func64, Tryz.ntmps64
 go_wp2_with fail
 refine (eH _ _ _ _).mono ?_
 rintro e w' ⟨rfl, rfl⟩
 rw [hin]
 clear hin t1
 go_wp2_with fail
 generalize hW0 : ((w.alloc (.cells (zf ⟨ph, be, mi, wa, l0, l1, l2, te⟩) 66)).alloc (.cells (yF r) 63)).alloc (.cells _ _) = W at *
 obtain ⟨hal, hB1, hB2, hB3, hWs⟩ := uw w _ _ _ _ W hW0.symm
 clear hW0
 obtain ⟨k0, k1, k2, k3, k4, k5, k6, k7⟩ := rY hB1
 have k8 : W.cell? ⟨w.heap.size + 1, 4 + j * 3 + d, none⟩ = some (.int .i64 t) := af hB2 _ _ (HT.out)
 have HB3 := ae hB3
 have N3 : Hid (w.heap.size + 1 + 1 ≤ W.heap.size) := by show _ ≤ _; omega
 have pI := ae hal
 clear hB1 hB2 hB3 hWs hal
 refine wp_region_held_drew (S := (fun w' => Below (w.heap.size + 1 + 1) W w' ∧ w'.cell? ⟨w.heap.size, 0, none⟩ = some (.int .i64 ph) ∧ w'.cell? ⟨w.heap.size, 1, none⟩ = some (.int .i64 be) ∧ w'.cell? ⟨w.heap.size, 2, none⟩ = some (.int .i64 mi) ∧ w'.cell? ⟨w.heap.size, 3, none⟩ = some (.int .i64 wa) ∧ w'.cell? ⟨w.heap.size, 4, none⟩ = some (.bool l0) ∧ w'.cell? ⟨w.heap.size, 5, none⟩ = some (.bool l1) ∧ w'.cell? ⟨w.heap.size, 6, none⟩ = some (.bool l2) ∧ w'.cell? ⟨w.heap.size, 7, none⟩ = some (.bool te) ∧ w'.cell? ⟨w.heap.size + 1, 4 + j * 3 + d, none⟩ = some (.int .i64 t))) (by kernel_rfl) ⟨(Below.refl _ _).drew, k0, k1, k2, k3, k4, k5, k6, k7, k8⟩ (fun hh0 => ?_)
 clear k0 k1 k2 k3 k4 k5 k6 k7 k8
 refine iI (i := 1) (v := ?vp1) rfl (Or.inl ⟨by rfl, ?rQ⟩) (by assumption) ?Hl
 case rQ => intro w hSw; (try dsimp only at hSw); (go_simp <;> with_reducible rfl)
 try simp only [ag]
 refine iI (i := 2) (v := ?vp2) rfl (Or.inl ⟨by rfl, ?yX⟩) (by assumption) ?QP
 case yX => intro w hSw; (try dsimp only at hSw); (go_simp <;> with_reducible rfl)
 try simp only [ag]
 refine iI (i := 3) (v := ?vp3) rfl (Or.inl ⟨by rfl, ?Az⟩) (by assumption) ?U_
 case Az => intro w hSw; (try dsimp only at hSw); (go_simp <;> with_reducible rfl)
 try simp only [ag]
 refine iI (i := 4) (v := ?vp4) rfl (Or.inl ⟨by rfl, ?wO⟩) (by assumption) ?NV
 case wO => intro w hSw; (try dsimp only at hSw); (go_simp <;> with_reducible rfl)
 try simp only [ag]
 refine iI (i := 5) (v := ?vp5) rfl (Or.inl ⟨by rfl, ?wP⟩) (by assumption) ?NW
 case wP => intro w hSw; (try dsimp only at hSw); (go_simp <;> with_reducible rfl)
 try simp only [ag]
 refine iI (i := 6) (v := ?vp6) rfl (Or.inl ⟨by rfl, ?JC⟩) (by assumption) ?ae8
 case JC => intro w hSw; (try dsimp only at hSw); (go_simp <;> with_reducible rfl)
 try simp only [ag]
 refine iI (i := 7) (v := ?vp7) rfl (Or.inl ⟨by rfl, ?JD⟩) (by assumption) ?ae9
 case JD => intro w hSw; (try dsimp only at hSw); (go_simp <;> with_reducible rfl)
 try simp only [ag]
 refine iI (i := 9) (v := ?vp9) rfl (Or.inl ⟨by rfl, ?AA⟩) (by assumption) ?Va
 case AA => intro w hSw; (try dsimp only at hSw); (go_simp <;> with_reducible rfl)
 try simp only [ag]
 refine o8 (i := 0) rfl (fun K hK => ?_)
 go_simp
 go_wp2_with (go_at_call 89; (with_reducible refine (Bg _).mono ?_); rintro e wA ⟨MA, rfl, hMA, ji⟩)
 refine hK.out _ _ (SS N3.out ji hh0) (fun hh1 => ?_)
 clear hK K hh0
 try simp only [ag]
 have hLA := HL.out _ _ hMA
 clear hMA
 refine o8 (i := 8) rfl (fun K hK => ?_)
 refine BL _ rfl (.tmp 18) (.tmp 25) 142 rfl (.map (some MA)) (.int .i64 t) (.func (.func F) #[] #[]) rfl rfl hLA ?_
 refine hK.out _ _ hh1 (fun hh2 => ?_)
 clear hK K hh1 hLA
 try simp only [ag]
 refine o8 (i := 10) rfl (fun K hK => ?_)
 go_simp
 rw [HF.out, Oper.upon_enter]
 refine (HC.out _).mono ?_
 rintro e wB ⟨rfl, hbB⟩
 go_simp
 refine hK.out _ _ (SS N3.out hbB hh2) (fun hh3 => ?_)
 clear hK K hh2
 try simp only [ag]
 have hB3 : W.drew.heap[w.heap.size + 1 + 1]? = _ := HB3.out
 have hA3 := ay (w' := wA) hB3 ji (ai hB3)
 have tK := ay hA3 hbB (ai hA3)
 have bx : Below W.heap.size W wB := ((Below.refl _ _).drew.trans ji).trans (hbB.mono ((Below.refl _ _).drew.trans ji).size)
 have g0 := af tK 0 _ rfl
 have g1 := af tK 1 _ rfl
 have g2 := af tK 2 _ rfl
 have g3 := af tK 3 _ rfl
 have g4 := af tK 4 _ rfl
 have g5 := af tK 5 _ rfl
 have g6 := af tK 6 _ rfl
 have g7 := af tK 7 _ rfl
 have f0 := ah tK 0
 have f1 := ah tK 1
 have f2 := ah tK 2
 have f3 := ah tK 3
 have f4 := ah tK 4
 have f5 := ah tK 5
 have f6 := ah tK 6
 have f7 := ah tK 7
 have VF := ae tK
 have BX := ae bx
 clear hB3 hA3 tK bx ji hbB
 refine o8 (i := 11) rfl (fun K hK => ?_)
 go_simp
 refine hK.out _ _ ?_ (fun hh4 => ?_)
 · exact Z5 (Nat.le_refl _) (by omega) (by omega) (by have := ai VF.out; omega) (dE (Below.refl _ _) (Nat.le_refl _)) hh3
 clear hK K hh3 g0 g1 g2 g3 g4 g5 g6 g7 f0 f1 f2 f3 f4 f5 f6 f7
 try simp only [ag]
 refine wpAnyH_done (by kernel_rfl) ?_ _
 have hS := tC (u0 := .int .i64 y.ph) (u1 := .int .i64 y.be) (u2 := .int .i64 y.mi) (u3 := .int .i64 y.wa) (u4 := .bool y.l0) (u5 := .bool y.l1) (u6 := .bool y.l2) (u7 := .bool y.te) VF.out
 obtain ⟨g0, g1, g2, g3, g4, g5, g6, g7⟩ := rY (x := y) hS
 have HS := ae (ai hS)
 clear hS
 go_wp2_with fail
 refine bodyPost_ret (v := iq y) (by simp [results, Tryz.results64, go_sem, g0, g1, g2, g3, g4, g5, g6, g7]) rfl ⟨rfl, ?_⟩
 exact pI.out.trans (dE (BX.out.mono pI.out.size) (by omega))
theorem aan (F : Nat) (r : Ru) (be mi wa : Int) (l0 l1 l2 te : Bool) (d : Nat) (hp : 1 ≤ be ∧ be ≤ 3) (y : Rn) (j : Nat) (t : Int) (w : World)
  (HL : Hid (∀ w M, Dn w M → (Instr.lookup 142 (.map (some M)) (.int .i64 t) false).run Tryz.prog w = .ok (.func (.func F) #[] #[]) w))
  (HF : Hid (∀ vs w, (callFunc F vs).run Tryz.prog w = .ok (.enter F vs) w))
  (HC : Hid (∀ w, Calls Tryz.prog F #[iq ⟨4, be, mi, wa, l0, l1, l2, te⟩] w (qi y w)))
  (HT : Hid ((yF r)[4 + j * 3 + d]? = some (.int .i64 t))) (hw : IntKind.i64.wrap (be - 1) = (j : Int)) (hj0 : (0 : Int) ≤ j) (hj : (j : Int) < 3) (hd0 : (0 : Int) ≤ d) (hd : (d : Int) < 3) :
  Calls Tryz.prog 64 #[iq ⟨4, be, mi, wa, l0, l1, l2, te⟩, rZ r, .int .i64 d] w (qi y w) := by
 have hin : iC be 1 3 = true := Me hp
 clear hp
 go_enter Tryz.func64, Tryz.ntmps64
 go_wp2_with fail
 refine (eH _ _ _ _).mono ?_
 rintro e w' ⟨rfl, rfl⟩
 rw [hin]
 clear hin
 go_wp2_with fail
 generalize hW0 : ((w.alloc (.cells (zf ⟨4, be, mi, wa, l0, l1, l2, te⟩) 66)).alloc (.cells (yF r) 63)).alloc (.cells _ _) = W at *
 obtain ⟨hal, hB1, hB2, hB3, hWs⟩ := uw w _ _ _ _ W hW0.symm
 clear hW0
 obtain ⟨k0, k1, k2, k3, k4, k5, k6, k7⟩ := rY hB1
 have k8 : W.cell? ⟨w.heap.size + 1, 4 + j * 3 + d, none⟩ = some (.int .i64 t) := af hB2 _ _ (HT.out)
 have HB3 := ae hB3
 have N3 : Hid (w.heap.size + 1 + 1 ≤ W.heap.size) := by show _ ≤ _; omega
 have pI := ae hal
 clear hB1 hB2 hB3 hWs hal
 refine wp_region_held_drew (S := (fun w' => Below (w.heap.size + 1 + 1) W w' ∧ w'.cell? ⟨w.heap.size, 0, none⟩ = some (.int .i64 4) ∧ w'.cell? ⟨w.heap.size, 1, none⟩ = some (.int .i64 be) ∧ w'.cell? ⟨w.heap.size, 2, none⟩ = some (.int .i64 mi) ∧ w'.cell? ⟨w.heap.size, 3, none⟩ = some (.int .i64 wa) ∧ w'.cell? ⟨w.heap.size, 4, none⟩ = some (.bool l0) ∧ w'.cell? ⟨w.heap.size, 5, none⟩ = some (.bool l1) ∧ w'.cell? ⟨w.heap.size, 6, none⟩ = some (.bool l2) ∧ w'.cell? ⟨w.heap.size, 7, none⟩ = some (.bool te) ∧ w'.cell? ⟨w.heap.size + 1, 4 + j * 3 + d, none⟩ = some (.int .i64 t))) (by kernel_rfl) ⟨(Below.refl _ _).drew, k0, k1, k2, k3, k4, k5, k6, k7, k8⟩ (fun hh0 => ?_)
 clear k0 k1 k2 k3 k4 k5 k6 k7 k8
 refine iI (i := 1) (v := ?vp1) rfl (Or.inl ⟨by rfl, ?rQ⟩) (by assumption) ?Hl
 case rQ => intro w hSw; (try dsimp only at hSw); (go_simp <;> with_reducible rfl)
 try simp only [ag]
 refine iI (i := 2) (v := ?vp2) rfl (Or.inl ⟨by rfl, ?yX⟩) (by assumption) ?QP
 case yX => intro w hSw; (try dsimp only at hSw); (go_simp <;> with_reducible rfl)
 try simp only [ag]
 refine iI (i := 3) (v := ?vp3) rfl (Or.inl ⟨by rfl, ?Az⟩) (by assumption) ?U_
 case Az => intro w hSw; (try dsimp only at hSw); (go_simp <;> with_reducible rfl)
 try simp only [ag]
 refine iI (i := 4) (v := ?vp4) rfl (Or.inl ⟨by rfl, ?wO⟩) (by assumption) ?NV
 case wO => intro w hSw; (try dsimp only at hSw); (go_simp <;> with_reducible rfl)
 try simp only [ag]
 refine iI (i := 5) (v := ?vp5) rfl (Or.inl ⟨by rfl, ?wP⟩) (by assumption) ?NW
 case wP => intro w hSw; (try dsimp only at hSw); (go_simp <;> with_reducible rfl)
 try simp only [ag]
 refine iI (i := 6) (v := ?vp6) rfl (Or.inl ⟨by rfl, ?JC⟩) (by assumption) ?ae8
 case JC => intro w hSw; (try dsimp only at hSw); (go_simp <;> with_reducible rfl)
 try simp only [ag]
 refine iI (i := 7) (v := ?vp7) rfl (Or.inl ⟨by rfl, ?JD⟩) (by assumption) ?ae9
 case JD => intro w hSw; (try dsimp only at hSw); (go_simp <;> with_reducible rfl)
 try simp only [ag]
 refine iI (i := 9) (v := ?vp9) rfl (Or.inl ⟨by rfl, ?AA⟩) (by assumption) ?Va
 case AA => intro w hSw; (try dsimp only at hSw); (go_simp <;> with_reducible rfl)
 try simp only [ag]
 refine o8 (i := 0) rfl (fun K hK => ?_)
 go_simp
 go_wp2_with (go_at_call 89; (with_reducible refine (Bg _).mono ?_); rintro e wA ⟨MA, rfl, hMA, ji⟩)
 refine hK.out _ _ (SS N3.out ji hh0) (fun hh1 => ?_)
 clear hK K hh0
 try simp only [ag]
 have hLA := HL.out _ _ hMA
 clear hMA
 refine o8 (i := 8) rfl (fun K hK => ?_)
 refine BL _ rfl (.tmp 18) (.tmp 25) 142 rfl (.map (some MA)) (.int .i64 t) (.func (.func F) #[] #[]) rfl rfl hLA ?_
 refine hK.out _ _ hh1 (fun hh2 => ?_)
 clear hK K hh1 hLA
 try simp only [ag]
 refine o8 (i := 10) rfl (fun K hK => ?_)
 go_simp
 rw [HF.out, Oper.upon_enter]
 refine (HC.out _).mono ?_
 rintro e wB ⟨rfl, hbB⟩
 go_simp
 refine hK.out _ _ (SS N3.out hbB hh2) (fun hh3 => ?_)
 clear hK K hh2
 try simp only [ag]
 have hB3 : W.drew.heap[w.heap.size + 1 + 1]? = _ := HB3.out
 have hA3 := ay (w' := wA) hB3 ji (ai hB3)
 have tK := ay hA3 hbB (ai hA3)
 have bx : Below W.heap.size W wB := ((Below.refl _ _).drew.trans ji).trans (hbB.mono ((Below.refl _ _).drew.trans ji).size)
 have g0 := af tK 0 _ rfl
 have g1 := af tK 1 _ rfl
 have g2 := af tK 2 _ rfl
 have g3 := af tK 3 _ rfl
 have g4 := af tK 4 _ rfl
 have g5 := af tK 5 _ rfl
 have g6 := af tK 6 _ rfl
 have g7 := af tK 7 _ rfl
 have f0 := ah tK 0
 have f1 := ah tK 1
 have f2 := ah tK 2
 have f3 := ah tK 3
 have f4 := ah tK 4
 have f5 := ah tK 5
 have f6 := ah tK 6
 have f7 := ah tK 7
 have VF := ae tK
 have BX := ae bx
 clear hB3 hA3 tK bx ji hbB
 refine o8 (i := 11) rfl (fun K hK => ?_)
 go_simp
 refine hK.out _ _ ?_ (fun hh4 => ?_)
 · exact Z5 (Nat.le_refl _) (by omega) (by omega) (by have := ai VF.out; omega) (dE (Below.refl _ _) (Nat.le_refl _)) hh3
 clear hK K hh3 g0 g1 g2 g3 g4 g5 g6 g7 f0 f1 f2 f3 f4 f5 f6 f7
 try simp only [ag]
 refine wpAnyH_done (by kernel_rfl) ?_ _
 have hS := tC (u0 := .int .i64 y.ph) (u1 := .int .i64 y.be) (u2 := .int .i64 y.mi) (u3 := .int .i64 y.wa) (u4 := .bool y.l0) (u5 := .bool y.l1) (u6 := .bool y.l2) (u7 := .bool y.te) VF.out
 obtain ⟨g0, g1, g2, g3, g4, g5, g6, g7⟩ := rY (x := y) hS
 have HS := ae (ai hS)
 clear hS
 go_wp2_with fail
 refine bodyPost_ret (v := iq y) (by simp [results, Tryz.results64, go_sem, g0, g1, g2, g3, g4, g5, g6, g7]) rfl ⟨rfl, ?_⟩
 exact pI.out.trans (dE (BX.out.mono pI.out.size) (by omega))
theorem Gm (r : Ru) (j d : Nat) (hj : j < 3) (hd : d < 3) : (yF r)[4 + j * 3 + d]? = some (.int .i64 (r.tb ((j : Int) + 1) d)) := by
 match j, d, hj, hd with
 | 0, 0, _, _ => rfl
 | 0, 1, _, _ => rfl
 | 0, 2, _, _ => rfl
 | 1, 0, _, _ => rfl
 | 1, 1, _, _ => rfl
 | 1, 2, _, _ => rfl
 | 2, 0, _, _ => rfl
 | 2, 1, _, _ => rfl
 | 2, 2, _, _ => rfl
theorem aks {w : World} {B : Nat} {r : Ru} (h : w.heap[B]? = some (.cells (yF r) 63 (0, 0))) :
  w.cell? ⟨B, 0, none⟩ = some (.int .i64 r.m0) ∧ w.cell? ⟨B, 1, none⟩ = some (.int .i64 r.m1) ∧ w.cell? ⟨B, 2, none⟩ = some (.int .i64 r.m2) ∧ w.cell? ⟨B, 3, none⟩ = some (.int .i64 r.pa) ∧
  w.cell? ⟨B, 4, none⟩ = some (.int .i64 r.t00) ∧ w.cell? ⟨B, 5, none⟩ = some (.int .i64 r.t01) ∧ w.cell? ⟨B, 6, none⟩ = some (.int .i64 r.t02) ∧ w.cell? ⟨B, 7, none⟩ = some (.int .i64 r.t10) ∧
  w.cell? ⟨B, 8, none⟩ = some (.int .i64 r.t11) ∧ w.cell? ⟨B, 9, none⟩ = some (.int .i64 r.t12) ∧ w.cell? ⟨B, 10, none⟩ = some (.int .i64 r.t20) ∧ w.cell? ⟨B, 11, none⟩ = some (.int .i64 r.t21) ∧ w.cell? ⟨B, 12, none⟩ = some (.int .i64 r.t22) :=
 ⟨af h 0 _ rfl, af h 1 _ rfl, af h 2 _ rfl, af h 3 _ rfl, af h 4 _ rfl, af h 5 _ rfl, af h 6 _ rfl, af h 7 _ rfl, af h 8 _ rfl, af h 9 _ rfl, af h 10 _ rfl, af h 11 _ rfl, af h 12 _ rfl⟩
theorem NJ {w : World} {N M j : Nat} {o : Option Obj} {u : Value} (h : w.heap[N]? = o) (hne : N ≠ M) : (w.setCell ⟨M, j, none⟩ u).heap[N]? = o := by
 rw [heap_setCell_other _ ⟨M, j, none⟩ N _ hne]
 exact h
theorem Qp {w : World} {N M : Nat} {o : Option Obj} {u0 u1 u2 u3 u4 u5 u6 u7 : Value} (h : w.heap[N]? = o) (hne : N ≠ M) : (((((((((w.setCell ⟨M, 0, none⟩ u0).setCell ⟨M, 1, none⟩ u1).setCell ⟨M, 2, none⟩ u2).setCell ⟨M, 3, none⟩ u3).setCell ⟨M, 4, none⟩ u4).setCell ⟨M, 5, none⟩ u5).setCell ⟨M, 6, none⟩ u6).setCell ⟨M, 7, none⟩ u7)).heap[N]? = o :=
 NJ (NJ (NJ (NJ (NJ (NJ (NJ (NJ h hne) hne) hne) hne) hne) hne) hne) hne
theorem acA (p : Int) (j : Nat) (hp : 1 ≤ p ∧ p ≤ 3) (hj : (j : Int) = p - 1) : IntKind.i64.wrap (p - 1) = (j : Int) := by
 rw [hj]
 rcases (show p = 1 ∨ p = 2 ∨ p = 3 by omega) with rfl | rfl | rfl <;> decide
theorem aao (r : Ru) (x : Rn) (d : Nat) (hg : iC (uz x) 1 3 = false) (w : World) : Calls Tryz.prog 64 #[iq x, rZ r, .int .i64 d] w (qi x w) := by
 obtain ⟨ph, be, mi, wa, l0, l1, l2, te⟩ := x
 by_cases h4 : ph = 4
 ·
  subst h4
  have hin : iC be 1 3 = false := hg
  clear hg
  go_enter Tryz.func64, Tryz.ntmps64
  go_wp2_with fail
  refine (eH _ _ _ _).mono ?_
  rintro e w' ⟨rfl, rfl⟩
  rw [hin]
  clear hin
  go_wp2_with fail
  refine bodyPost_ret (v := iq ⟨4, be, mi, wa, l0, l1, l2, te⟩) (by simp [results, Tryz.results64, go_sem]) rfl ⟨rfl, ba (below2 _ _ _)⟩
 ·
  have hin : iC ph 1 3 = false := by
   have e : uz ⟨ph, be, mi, wa, l0, l1, l2, te⟩ = ph := if_neg h4
   rw [e] at hg
   exact hg
  have t1 : (ph == 4) = false := by simp [h4]
  clear hg h4
  go_enter Tryz.func64, Tryz.ntmps64
  go_wp2_with fail
  refine (eH _ _ _ _).mono ?_
  rintro e w' ⟨rfl, rfl⟩
  rw [hin]
  clear hin t1
  go_wp2_with fail
  refine bodyPost_ret (v := iq ⟨ph, be, mi, wa, l0, l1, l2, te⟩) (by simp [results, Tryz.results64, go_sem]) rfl ⟨rfl, ba (below2 _ _ _)⟩
theorem Ia (v : Int) (hv : 0 ≤ v ∧ v ≤ 3) (vs : Array Value) (w : World) : (callFunc (XH v) vs).run Tryz.prog w = .ok (.enter (XH v) vs) w := by
 rcases (show v = 0 ∨ v = 1 ∨ v = 2 ∨ v = 3 by omega) with rfl | rfl | rfl | rfl <;> kernel_rfl
theorem zO (r : Ru) (x : Rn) (d : Nat) (hd : d < 3) (G : aW r) (w : World) : Calls Tryz.prog 64 #[iq x, rZ r, .int .i64 d] w (qi (meet r x d) w) := by
 have hv := G.tb (uz x) d
 by_cases hg : goes (uz x) = true
 ·
  have hp := (wz _).1 hg
  obtain ⟨j, hj⟩ : ∃ j : Nat, (j : Int) = uz x - 1 := ⟨(uz x - 1).toNat, by omega⟩
  have hw := acA _ j hp hj
  have hT := Gm r j d (by omega) hd
  rw [show (j : Int) + 1 = uz x from by omega] at hT
  rw [aam hg hv]
  generalize r.tb (uz x) d = t at *
  obtain ⟨ph, be, mi, wa, l0, l1, l2, te⟩ := x
  by_cases h4 : ph = 4
  ·
   subst h4
   have e : uz ⟨4, be, mi, wa, l0, l1, l2, te⟩ = be := if_pos rfl
   rw [e] at hp hw hj
   exact aan _ r be mi wa l0 l1 l2 te d hp _ j _ w (fun w M h => Lc h _ hv) (Ia _ hv) (fun w => RP _ hv _ w) hT hw (by omega) (by omega) (by omega) (by omega)
  ·
   have e : uz ⟨ph, be, mi, wa, l0, l1, l2, te⟩ = ph := if_neg h4
   rw [e] at hp hw hj
   exact aeF _ r ph be mi wa l0 l1 l2 te d h4 hp _ j _ w (fun w M h => Lc h _ hv) (Ia _ hv) (fun w => RP _ hv _ w) hT hw (by omega) (by omega) (by omega) (by omega)
 ·
  have e : meet r x d = x := by unfold meet; rw [if_neg hg]
  rw [e]
  exact aao r x d (by simpa [goes] using hg) w
def stB (r : Ru) (x : Rn) (p : Int) : Nat → Rn
 | 0 => { x with ph := p, mi := 0 }
 | i + 1 => ng r (stB r x p i) i
theorem Vj (r : Ru) (x : Rn) (p : Int) : stB r x p 3 = begin r x p := rfl
theorem Ku (r : Ru) (x : Rn) (d : Nat) : (ng r x d).l0 = x.l0 ∧ (ng r x d).l1 = x.l1 ∧ (ng r x d).l2 = x.l2 := by
 unfold ng
 split
 ·
  unfold meet
  split
  ·
   split
   · exact ⟨rfl, rfl, rfl⟩
   ·
    split
    · exact ⟨rfl, rfl, rfl⟩
    ·
     split
     · split <;> exact ⟨rfl, rfl, rfl⟩
     · exact ⟨rfl, rfl, rfl⟩
  · exact ⟨rfl, rfl, rfl⟩
 · exact ⟨rfl, rfl, rfl⟩
theorem Oi (r : Ru) (x : Rn) (p : Int) (d : Nat) : ∀ i, (stB r x p i).lost d = x.lost d
 | 0 => rfl
 | i + 1 => by
  rw [← Oi r x p d i]
  obtain ⟨a, b, c⟩ := Ku r (stB r x p i) i
  show (ng r (stB r x p i) i).lost d = _
  unfold Rn.lost
  rw [a, b, c]
theorem Gn (l0 l1 l2 : Bool) (i : Nat) (hi : i < 3) (w : World) : (Instr.index 64 (.agg #[.bool l0, .bool l1, .bool l2]) (.int .i64 i)).run Tryz.prog w = .ok (.bool (if i = 0 then l0 else if i = 1 then l1 else l2)) w := by
 rcases (show i = 0 ∨ i = 1 ∨ i = 2 by omega) with rfl | rfl | rfl
 · exact (show (Instr.index 64 (.agg #[.bool l0, .bool l1, .bool l2]) (.int .i64 0)).run Tryz.prog w = .ok (.bool l0) w by kernel_rfl)
 · exact (show (Instr.index 64 (.agg #[.bool l0, .bool l1, .bool l2]) (.int .i64 1)).run Tryz.prog w = .ok (.bool l1) w by kernel_rfl)
 · exact (show (Instr.index 64 (.agg #[.bool l0, .bool l1, .bool l2]) (.int .i64 2)).run Tryz.prog w = .ok (.bool l2) w by kernel_rfl)
theorem Ic (r : Ru) (x : Rn) (p : Int) (G : aW r) (w : World) : Calls Tryz.prog 63 #[iq x, rZ r, .int .i64 p] w (qi (begin r x p) w) := by
 have HS0 : Hid (stB r x p 0 = { x with ph := p, mi := 0 }) := rfl
 have HG := ae G
 obtain ⟨ph, be, mi, wa, l0, l1, l2, te⟩ := x
 go_enter Tryz.func63, Tryz.ntmps63
 go_wp2_with fail
 generalize hW0 : ((w.alloc (.cells (zf ⟨p, be, 0, wa, l0, l1, l2, te⟩) 66)).alloc (.cells (yF r) 63)).alloc (.cells _ _) = W at *
 obtain ⟨hal, hB1, hB2, hB3, hWs⟩ := uw w _ _ _ _ W hW0.symm
 clear hW0 G
 have pI := ae hal
 have HB1 := ae hB1
 have HB2 := ae hB2
 have HB3 := ae hB3
 clear hal hB1 hB2 hB3 hWs
 go_loopw [14] (fun iv wr => ∃ (i : Nat), i ≤ 3 ∧ iv = .int .i64 i ∧ Hid (wr.heap[w.heap.size]? = some (.cells (zf (stB r ⟨ph, be, mi, wa, l0, l1, l2, te⟩ p i)) 66 (0, 0))) ∧ Hid (wr.heap[w.heap.size + 1]? = some (.cells (yF r) 63 (0, 0))) ∧
   Hid (∃ c, wr.heap[w.heap.size + 1 + 1]? = some (.cells (zf c) 66 (0, 0))) ∧ Hid (Below w.heap.size w wr))
  (fun iv _ => 3 - (intOf iv).toNat)
 case atStart => exact ⟨0, by omega, rfl, HB1, HB2, ⟨lH, HB3.out⟩, pI⟩
 case round =>
  obtain ⟨i, hi, rfl, K1, K2, K3, KB⟩ := hrel
  by_cases hlt : i < 3
  ·
   have hix := Gn l0 l1 l2 i hlt wr
   have hlo : (if i = 0 then l0 else if i = 1 then l1 else l2) = (stB r ⟨ph, be, mi, wa, l0, l1, l2, te⟩ p i).lost i := (Oi r ⟨ph, be, mi, wa, l0, l1, l2, te⟩ p i i).symm
   rw [hlo] at hix
   have Hst : Hid (stB r ⟨ph, be, mi, wa, l0, l1, l2, te⟩ p (i + 1) = ng r (stB r ⟨ph, be, mi, wa, l0, l1, l2, te⟩ p i) i) := rfl
   have hlt' : (i : Int) < 3 := by omega
   have gq := ae hlt
   clear hlo hlt
   generalize stB r ⟨ph, be, mi, wa, l0, l1, l2, te⟩ p i = y at *
   cases hl : y.lost i with
   | false =>
    rw [hl] at hix
    have HZ : Hid (stB r ⟨ph, be, mi, wa, l0, l1, l2, te⟩ p (i + 1) = y) := by
     show _ = _
     rw [Hst.out]
     unfold ng
     rw [if_neg (by rw [hl]; decide)]
    clear hl Hst
    go_wp2_with fail
    exact ⟨⟨i + 1, by have := gq.out; omega, by go_num, by rw [HZ.out]; exact K1, K2, K3, KB⟩, bU gq.out⟩
   | true =>
    rw [hl] at hix
    have HZ : Hid (stB r ⟨ph, be, mi, wa, l0, l1, l2, te⟩ p (i + 1) = meet r y i) := by
     show _ = _
     rw [Hst.out]
     unfold ng
     rw [if_pos hl]
    clear hl
    have hB1 := K1.out
    have hB2 := K2.out
    obtain ⟨k0, k1, k2, k3, k4, k5, k6, k7⟩ := rY hB1
    obtain ⟨m0, m1, m2, m3, m4, m5, m6, m7, m8, m9, m10, m11, m12⟩ := aks hB2
    clear hB1 hB2 Hst
    go_wp2_with fail
    refine (zO r y i gq.out HG.out _).mono ?_
    rintro e w1 ⟨rfl, hb⟩
    generalize meet r y i = u at *
    have hB1 := K1.out
    have hB2 := K2.out
    obtain ⟨c, hB3⟩ := K3.out
    have e1 := ay hB1 hb (ai hB1)
    have E2 := ae (ay hB2 hb (ai hB2))
    have E3 := ae (ay hB3 hb (ai hB3))
    have HB := ae (KB.out.trans (hb.mono KB.out.size))
    obtain ⟨g0, g1, g2, g3, g4, g5, g6, g7⟩ := rY e1
    obtain ⟨f0, f1, f2, f3, f4, f5, f6, f7⟩ := Ob e1
    have E1 := ae e1
    clear hB1 hB2 hB3 e1 hb k0 k1 k2 k3 k4 k5 k6 k7 m0 m1 m2 m3 m4 m5 m6 m7 m8 m9 m10 m11 m12
    go_wp2_with fail
    exact ⟨⟨i + 1, by have := gq.out; omega, by go_num, (by rw [HZ.out]; exact tC E1.out), Qp E2.out (by omega), ⟨c, Qp E3.out (by omega)⟩, dE HB.out (Nat.le_refl _)⟩, bU gq.out⟩
  ·
   obtain rfl : i = 3 := by omega
   rw [Vj] at K1
   generalize begin r ⟨ph, be, mi, wa, l0, l1, l2, te⟩ p = u at *
   have hB1 := K1.out
   obtain ⟨c, hB3⟩ := K3.out
   obtain ⟨k0, k1, k2, k3, k4, k5, k6, k7⟩ := rY hB1
   obtain ⟨g0, g1, g2, g3, g4, g5, g6, g7⟩ := rY hB3
   obtain ⟨f0, f1, f2, f3, f4, f5, f6, f7⟩ := Ob hB3
   have E3 := ae hB3
   clear hB1 hB3
   go_wp2_with fail
   obtain ⟨h0, h1, h2, h3, h4, h5, h6, h7⟩ := rY (x := u) (tC (u0 := .int .i64 u.ph) (u1 := .int .i64 u.be) (u2 := .int .i64 u.mi) (u3 := .int .i64 u.wa) (u4 := .bool u.l0) (u5 := .bool u.l1) (u6 := .bool u.l2) (u7 := .bool u.te) E3.out)
   refine bodyPost_ret (v := iq u) (by simp [results, Tryz.results63, go_sem, h0, h1, h2, h3, h4, h5, h6, h7]) rfl ⟨rfl, ?_⟩
   exact dE KB.out (by omega)
def hB (r : Ru) (x : Rn) (p : Int) (d : Nat) : Bool := x.lost d && decide (r.tb p d = 2)
theorem PO {r : Ru} {x : Rn} {p : Int} {d : Nat} (hd : d < 3) (h : hB r x p d = true) : gQ r x p = true := by
 unfold hB at h
 simp only [Bool.and_eq_true, decide_eq_true_eq] at h
 exact SN hd h.1 h.2
theorem UI {r : Ru} {x : Rn} {p : Int} (h : ∀ d, d < 3 → hB r x p d = false) : gQ r x p = false := by
 have h0 := h 0 (by omega)
 have h1 := h 1 (by omega)
 have h2 := h 2 (by omega)
 unfold hB Rn.lost at h0 h1 h2
 unfold gQ
 simp only [if_true, if_false, Nat.one_ne_zero] at h0 h1 h2
 rw [h0, h1]
 simpa using h2
theorem aid (w : World) (x : Rn) (r : Ru) (W : World) (hW : W = (w.alloc (.cells (zf x) 66)).alloc (.cells (yF r) 63)) :
  Below w.heap.size w W ∧ W.heap[w.heap.size]? = some (.cells (zf x) 66 (0, 0)) ∧ W.heap[w.heap.size + 1]? = some (.cells (yF r) 63 (0, 0)) ∧ W.heap.size = w.heap.size + 2 := by
 subst hW
 have e1 : (w.alloc (.cells (zf x) 66)).heap.size = w.heap.size + 1 := World.size_alloc ..
 have a1 := aV w (zf x) 66
 have a2 := aV (w.alloc (.cells (zf x) 66)) (yF r) 63
 rw [e1] at a2
 exact ⟨below2 _ _ _, (heap_alloc_old _ (.cells (yF r) 63) (ai a1)).trans a1, a2, by rw [World.size_alloc, e1]⟩
theorem sN (r : Ru) (x : Rn) (hp : 1 ≤ x.be ∧ x.be ≤ 3) (w : World) : Calls Tryz.prog 65 #[iq x, rZ r] w (af0 (gQ r x x.be) ((w.alloc (yE x)).alloc (Oc r))) := by
 obtain ⟨j, hj⟩ : ∃ j : Nat, (j : Int) = x.be - 1 := ⟨(x.be - 1).toNat, by omega⟩
 have hw := acA _ j hp hj
 have hj0 : (0 : Int) ≤ j := by omega
 have hj3 : (j : Int) < 3 := by omega
 have hlo : ∀ i w, i < 3 → (Instr.index 64 (.agg #[.bool x.l0, .bool x.l1, .bool x.l2]) (.int .i64 (i : Nat))).run Tryz.prog w = .ok (.bool (x.lost i)) w := fun i w hi => Gn x.l0 x.l1 x.l2 i hi w
 have hT : ∀ d, d < 3 → (yF r)[4 + j * 3 + d]? = some (.int .i64 (r.tb x.be d)) := fun d hd => by
  have := Gm r j d (by omega) hd
  rw [show (j : Int) + 1 = x.be from by omega] at this
  exact this
 have HLO := ae hlo
 have HT := ae hT
 clear hj hlo hT hp
 obtain ⟨g, hg⟩ : ∃ g, g = gQ r x x.be := ⟨_, rfl⟩
 have HG := ae hg
 rw [← hg]
 clear hg
 go_enter Tryz.func65, Tryz.ntmps65
 go_wp2_with fail
 generalize hW0 : (w.alloc (.cells (zf x) 66)).alloc (.cells (yF r) 63) = W at *
 obtain ⟨hal, hB1, hB2, hWs⟩ := aid w _ _ W hW0.symm
 have HW0 := ae hW0
 clear hW0 hal hWs
 have HB1 := ae hB1
 have HB2 := ae hB2
 clear hB1 hB2
 go_loopw [9] (fun iv wr => ∃ (i : Nat), i ≤ 3 ∧ iv = .int .i64 i ∧ wr = W ∧ Hid (∀ d, d < i → hB r x x.be d = false))
  (fun iv _ => 3 - (intOf iv).toNat)
 case atStart => exact ⟨0, by omega, rfl, rfl, fun d hd => absurd hd (by omega)⟩
 case round =>
  obtain ⟨i, hi, rfl, rfl, HN⟩ := hrel
  by_cases hlt : i < 3
  ·
   have hix := HLO.out i wr hlt
   have k8 := af HB2.out _ _ (HT.out i hlt)
   have k1 := (rY HB1.out).2.1
   have hlt' : (i : Int) < 3 := by omega
   have hi0 : (0 : Int) ≤ i := by omega
   have gq := ae hlt
   have Hb : Hid (hB r x x.be i = (x.lost i && decide (r.tb x.be i = 2))) := rfl
   clear hlt
   generalize r.tb x.be i = t at *
   cases hl : x.lost i with
   | false =>
    rw [hl] at hix Hb
    clear hl k8
    go_wp2_with fail
    refine ⟨⟨i + 1, by have := gq.out; omega, by go_num, by first | rfl | trivial, ?_⟩, bU gq.out⟩
    intro d hd
    rcases Nat.lt_or_ge d i with h | h
    · exact HN.out d h
    ·
     rw [show d = i from by omega, Hb.out]
     rfl
   | true =>
    rw [hl] at hix Hb
    clear hl
    by_cases h2 : t = 2
    ·
     have t1 : (t == 2) = true := by simp [h2]
     have hgg : Hid (g = true) := by
      show _ = _
      rw [HG.out]
      refine PO gq.out ?_
      rw [Hb.out, h2]
      rfl
     clear h2
     go_wp2_with fail
     go_ret
     exact ⟨by rw [hgg.out]; rfl, rfl⟩
    ·
     have t1 : (t == 2) = false := by simp [h2]
     have Hn : Hid (hB r x x.be i = false) := by
      show _ = _
      rw [Hb.out, decide_eq_false h2]
      rfl
     clear h2
     go_wp2_with fail
     refine ⟨⟨i + 1, by have := gq.out; omega, by go_num, by first | rfl | trivial, ?_⟩, bU gq.out⟩
     intro d hd
     rcases Nat.lt_or_ge d i with h | h
     · exact HN.out d h
     ·
      rw [show d = i from by omega]
      exact Hn.out
  ·
   obtain rfl : i = 3 := by omega
   have hgg : Hid (g = false) := by
    show _ = _
    rw [HG.out]
    exact UI HN.out
   clear HN
   go_wp2_with fail
   go_ret
   exact ⟨by rw [hgg.out]; rfl, rfl⟩
theorem ab9 (r : Ru) (j : Nat) (hj : j < 3) : (yF r)[j]? = some (.int .i64 (r.mn ((j : Int) + 1))) := by
 match j, hj with
 | 0, _ => rfl
 | 1, _ => rfl
 | 2, _ => rfl
theorem Rh {m : Int} (h : 0 ≤ m ∧ m ≤ 256) : IntKind.i64.wrap (m + 1) = m + 1 := by
 rw [IntWalk.i64_left, IntWalk.wrap64_in _ (by omega)]
theorem Vt (r : Ru) (be mi wa : Int) (l0 l1 l2 te : Bool) (hw : IntKind.i64.wrap (wa + 1) = wa + 1) (w : World) :
  Calls Tryz.prog 62 #[iq ⟨4, be, mi, wa, l0, l1, l2, te⟩, rZ r] w (qi (tick r ⟨4, be, mi, wa, l0, l1, l2, te⟩) w) := by
 by_cases h : r.pa < wa + 1
 ·
  have t1 : decide (wa + 1 > r.pa) = true := decide_eq_true h
  have e : tick r ⟨4, be, mi, wa, l0, l1, l2, te⟩ = ended ⟨4, be, mi, wa + 1, l0, l1, l2, te⟩ 7 := by unfold tick; rw [if_pos rfl, if_pos h]
  rw [e]
  clear h e
  go_enter Tryz.func62, Tryz.ntmps62
  go_wp2_with fail
  refine (xQ ⟨4, be, mi, wa + 1, l0, l1, l2, te⟩ 7 _).mono ?_
  rintro e w' ⟨rfl, rfl⟩
  go_wp2_with fail
  refine bodyPost_ret (v := iq (ended ⟨4, be, mi, wa + 1, l0, l1, l2, te⟩ 7)) (by simp [results, Tryz.results62, go_sem]) rfl ⟨rfl, ?_⟩
  exact ba (ba (ba (below2 _ _ _)))
 ·
  have t1 : decide (wa + 1 > r.pa) = false := decide_eq_false h
  have e : tick r ⟨4, be, mi, wa, l0, l1, l2, te⟩ = ⟨4, be, mi, wa + 1, l0, l1, l2, te⟩ := by unfold tick; rw [if_pos rfl, if_neg h]
  rw [e]
  clear h e
  go_enter Tryz.func62, Tryz.ntmps62
  go_wp2_with fail
  refine bodyPost_ret (v := iq ⟨4, be, mi, wa + 1, l0, l1, l2, te⟩) (by simp [results, Tryz.results62, go_sem]) rfl ⟨rfl, ?_⟩
  exact ba (below2 _ _ _)
theorem Vs (r : Ru) (x : Rn) (h4 : ¬ x.ph = 4) (hg : goes x.ph = false) (w : World) : Calls Tryz.prog 62 #[iq x, rZ r] w (qi x w) := by
 have t1 : (x.ph == 4) = false := by simp [h4]
 clear h4
 go_enter Tryz.func62, Tryz.ntmps62
 go_wp2_with fail
 refine (zK x _).mono ?_
 rintro e w' ⟨rfl, rfl⟩
 rw [hg]
 go_wp2_with fail
 refine bodyPost_ret (v := iq x) (by simp [results, Tryz.results62, go_sem]) rfl ⟨rfl, ?_⟩
 exact ba (ba (below2 _ _ _))
theorem Vr (r : Ru) (ph be mi wa : Int) (l0 l1 l2 te : Bool) (G : aW r) (h4 : ¬ ph = 4) (hg : goes ph = true) (hm : IntKind.i64.wrap (mi + 1) = mi + 1)
  (j : Nat) (mv : Int) (hw : IntKind.i64.wrap (ph - 1) = (j : Int)) (hj0 : (0 : Int) ≤ j) (hj3 : (j : Int) < 3) (HM : Hid ((yF r)[j]? = some (.int .i64 mv))) (hp : IntKind.i64.wrap (ph + 1) = ph + 1) (w : World) :
  Calls Tryz.prog 62 #[iq ⟨ph, be, mi, wa, l0, l1, l2, te⟩, rZ r] w (qi (if mi + 1 < mv then ⟨ph, be, mi + 1, wa, l0, l1, l2, te⟩ else if ph < 3 then begin r ⟨ph, be, mi + 1, wa, l0, l1, l2, te⟩ (ph + 1) else if te then ended ⟨ph, be, mi + 1, wa, l0, l1, l2, te⟩ 6 else ended ⟨ph, be, mi + 1, wa, l0, l1, l2, te⟩ 5) w) := by
 have t1 : (ph == 4) = false := by simp [h4]
 have HG := ae G
 clear h4 G
 obtain ⟨u, hu⟩ : ∃ u : Rn, u = (if mi + 1 < mv then ⟨ph, be, mi + 1, wa, l0, l1, l2, te⟩ else if ph < 3 then begin r ⟨ph, be, mi + 1, wa, l0, l1, l2, te⟩ (ph + 1) else if te then ended ⟨ph, be, mi + 1, wa, l0, l1, l2, te⟩ 6 else ended ⟨ph, be, mi + 1, wa, l0, l1, l2, te⟩ 5) := ⟨_, rfl⟩
 rw [← hu]
 have HU := ae hu
 clear hu
 go_enter Tryz.func62, Tryz.ntmps62
 go_wp2_with fail
 refine (zK ⟨ph, be, mi, wa, l0, l1, l2, te⟩ _).mono ?_
 rintro e w' ⟨rfl, rfl⟩
 rw [show goes (⟨ph, be, mi, wa, l0, l1, l2, te⟩ : Rn).ph = true from hg]
 go_wp2_with fail
 generalize hW0 : ((w.alloc (.cells (zf ⟨ph, be, mi + 1, wa, l0, l1, l2, te⟩) 66)).alloc (.cells (yF r) 63)).alloc (.cells _ _) = W1 at *
 obtain ⟨hal, hB1, hB2, hB3, hWs⟩ := uw w _ _ _ _ W1 hW0.symm
 clear hW0
 have pI := ae (ba (o := yE ⟨ph, be, mi, wa, l0, l1, l2, te⟩) hal)
 have hC1 := (heap_alloc_old _ (yE ⟨ph, be, mi, wa, l0, l1, l2, te⟩) (ai hB1)).trans hB1
 have hC2 := (heap_alloc_old _ (yE ⟨ph, be, mi, wa, l0, l1, l2, te⟩) (ai hB2)).trans hB2
 have tK := (heap_alloc_old _ (yE ⟨ph, be, mi, wa, l0, l1, l2, te⟩) (ai hB3)).trans hB3
 clear hal hB1 hB2 hB3 hWs
 generalize W1.alloc (yE ⟨ph, be, mi, wa, l0, l1, l2, te⟩) = W at *
 have a0 := af hC1 0 _ rfl
 have a2 := af hC1 2 _ rfl
 have k3 := af hC2 _ _ HM.out
 have D1 : Hid (W.drew.heap[w.heap.size]? = _) := hC1
 have D2 : Hid (W.drew.heap[w.heap.size + 1]? = _) := hC2
 have D3 : Hid (W.drew.heap[w.heap.size + 1 + 1]? = _) := tK
 have BV := ae pI.out.drew
 clear hC1 hC2 tK
 go_region_held3 (fun w' => Below W.heap.size W w' ∧ w'.cell? ⟨w.heap.size, 0, none⟩ = some (.int .i64 ph) ∧ w'.cell? ⟨w.heap.size, 2, none⟩ = some (.int .i64 (mi + 1)) ∧ w'.cell? ⟨w.heap.size + 1, j, none⟩ = some (.int .i64 mv))
  (first | exact ⟨(Below.refl _ _).drew, a0, a2, k3⟩ | assumption)
  (fail)
 rename_i hHeld
 clear hHeld a0 a2 k3
 generalize W.drew = V at *
 obtain ⟨k0, k1, k2, k3, k4, k5, k6, k7⟩ := rY D1.out
 by_cases c1 : mi + 1 < mv
 ·
  rw [decide_eq_true c1]
  have HU2 : Hid (u = ⟨ph, be, mi + 1, wa, l0, l1, l2, te⟩) := by show _ = _; rw [HU.out, if_pos c1]
  clear c1 HU
  obtain ⟨f0, f1, f2, f3, f4, f5, f6, f7⟩ := Ob (x := lH) D3.out
  obtain ⟨g0, g1, g2, g3, g4, g5, g6, g7⟩ := rY (x := lH) D3.out
  go_wp2_with fail
  have hE := tC (u0 := .int .i64 ph) (u1 := .int .i64 be) (u2 := .int .i64 (mi + 1)) (u3 := .int .i64 wa) (u4 := .bool l0) (u5 := .bool l1) (u6 := .bool l2) (u7 := .bool te) D3.out
  obtain ⟨h0, h1, h2, h3, h4, h5, h6, h7⟩ := rY (x := ⟨ph, be, mi + 1, wa, l0, l1, l2, te⟩) hE
  refine bodyPost_ret (v := iq ⟨ph, be, mi + 1, wa, l0, l1, l2, te⟩) (by simp [results, Tryz.results62, go_sem, h0, h1, h2, h3, h4, h5, h6, h7]) rfl ⟨by rw [HU2.out], ?_⟩
  exact dE BV.out (by omega)
 ·
  rw [decide_eq_false c1]
  by_cases c2 : ph < 3
  ·
   have t3 : decide (ph < 3) = true := decide_eq_true c2
   have HU2 : Hid (u = begin r ⟨ph, be, mi + 1, wa, l0, l1, l2, te⟩ (ph + 1)) := by show _ = _; rw [HU.out, if_neg c1, if_pos c2]
   clear c1 c2 HU
   obtain ⟨m0, m1, m2, m3, m4, m5, m6, m7, m8, m9, m10, m11, m12⟩ := aks D2.out
   go_wp2_with fail
   refine (Ic r ⟨ph, be, mi + 1, wa, l0, l1, l2, te⟩ (ph + 1) HG.out _).mono ?_
   rintro e w1 ⟨rfl, hb⟩
   rw [← HU2.out]
   clear m0 m1 m2 m3 m4 m5 m6 m7 m8 m9 m10 m11 m12 HU2
   have E3 := ae (ay D3.out hb (ai D3.out))
   have HB := ae (BV.out.trans (hb.mono BV.out.size))
   obtain ⟨f0, f1, f2, f3, f4, f5, f6, f7⟩ := Ob (x := lH) E3.out
   obtain ⟨g0, g1, g2, g3, g4, g5, g6, g7⟩ := rY (x := lH) E3.out
   clear k0 k1 k2 k3 k4 k5 k6 k7 hb
   go_wp2_with fail
   obtain ⟨h0, h1, h2, h3, h4, h5, h6, h7⟩ := rY (x := u) (tC (u0 := .int .i64 u.ph) (u1 := .int .i64 u.be) (u2 := .int .i64 u.mi) (u3 := .int .i64 u.wa) (u4 := .bool u.l0) (u5 := .bool u.l1) (u6 := .bool u.l2) (u7 := .bool u.te) E3.out)
   refine bodyPost_ret (v := iq u) (by simp [results, Tryz.results62, go_sem, h0, h1, h2, h3, h4, h5, h6, h7]) rfl ⟨rfl, ?_⟩
   exact dE HB.out (by omega)
  ·
   have t3 : decide (ph < 3) = false := decide_eq_false c2
   cases te with
   | true =>
    have HU2 : Hid (u = ended ⟨ph, be, mi + 1, wa, l0, l1, l2, true⟩ 6) := by show _ = _; rw [HU.out, if_neg c1, if_neg c2, if_pos rfl]
    clear c1 c2 HU
    go_wp2_with fail
    refine (xQ ⟨ph, be, mi + 1, wa, l0, l1, l2, true⟩ 6 _).mono ?_
    rintro e w1 ⟨rfl, hw1⟩
    have hb : Below V.heap.size V w1 := by rw [hw1]; exact below2 _ _ _
    rw [← HU2.out]
    clear hw1 HU2
    have E3 := ae (ay D3.out hb (ai D3.out))
    have HB := ae (BV.out.trans (hb.mono BV.out.size))
    obtain ⟨f0, f1, f2, f3, f4, f5, f6, f7⟩ := Ob (x := lH) E3.out
    obtain ⟨g0, g1, g2, g3, g4, g5, g6, g7⟩ := rY (x := lH) E3.out
    clear k0 k1 k2 k3 k4 k5 k6 k7 hb
    go_wp2_with fail
    obtain ⟨h0, h1, h2, h3, h4, h5, h6, h7⟩ := rY (x := u) (tC (u0 := .int .i64 u.ph) (u1 := .int .i64 u.be) (u2 := .int .i64 u.mi) (u3 := .int .i64 u.wa) (u4 := .bool u.l0) (u5 := .bool u.l1) (u6 := .bool u.l2) (u7 := .bool u.te) E3.out)
    refine bodyPost_ret (v := iq u) (by simp [results, Tryz.results62, go_sem, h0, h1, h2, h3, h4, h5, h6, h7]) rfl ⟨rfl, ?_⟩
    exact dE HB.out (by omega)
   | false =>
    have HU2 : Hid (u = ended ⟨ph, be, mi + 1, wa, l0, l1, l2, false⟩ 5) := by show _ = _; rw [HU.out, if_neg c1, if_neg c2, if_neg (by decide)]
    clear c1 c2 HU
    go_wp2_with fail
    refine (xQ ⟨ph, be, mi + 1, wa, l0, l1, l2, false⟩ 5 _).mono ?_
    rintro e w1 ⟨rfl, hw1⟩
    have hb : Below V.heap.size V w1 := by rw [hw1]; exact below2 _ _ _
    rw [← HU2.out]
    clear hw1 HU2
    have E3 := ae (ay D3.out hb (ai D3.out))
    have HB := ae (BV.out.trans (hb.mono BV.out.size))
    obtain ⟨f0, f1, f2, f3, f4, f5, f6, f7⟩ := Ob (x := lH) E3.out
    obtain ⟨g0, g1, g2, g3, g4, g5, g6, g7⟩ := rY (x := lH) E3.out
    clear k0 k1 k2 k3 k4 k5 k6 k7 hb
    go_wp2_with fail
    obtain ⟨h0, h1, h2, h3, h4, h5, h6, h7⟩ := rY (x := u) (tC (u0 := .int .i64 u.ph) (u1 := .int .i64 u.be) (u2 := .int .i64 u.mi) (u3 := .int .i64 u.wa) (u4 := .bool u.l0) (u5 := .bool u.l1) (u6 := .bool u.l2) (u7 := .bool u.te) E3.out)
    refine bodyPost_ret (v := iq u) (by simp [results, Tryz.results62, go_sem, h0, h1, h2, h3, h4, h5, h6, h7]) rfl ⟨rfl, ?_⟩
    exact dE HB.out (by omega)
theorem ack (r : Ru) (x : Rn) (G : aW r) (hR : Right r x) (w : World) : Calls Tryz.prog 62 #[iq x, rZ r] w (qi (tick r x) w) := by
 by_cases h4 : x.ph = 4
 ·
  obtain ⟨ph, be, mi, wa, l0, l1, l2, te⟩ := x
  obtain rfl : ph = 4 := h4
  have hpa := G.pa
  have hwa : 0 ≤ wa ∧ wa ≤ 256 := by
   rcases hR with ⟨a, b, c, d, e⟩ | ⟨a, b, c, d⟩ | ⟨a, b, c, d⟩
   ·
    have : 0 ≤ wa ∧ wa ≤ r.pa := d
    omega
   ·
    have : (1 : Int) ≤ 4 ∧ (4 : Int) ≤ 3 := c
    omega
   ·
    have : (4 : Int) = 0 ∨ (4 : Int) = 5 ∨ (4 : Int) = 6 ∨ (4 : Int) = 7 := d
    omega
  exact Vt r be mi wa l0 l1 l2 te (Rh hwa) w
 ·
  cases hg : goes x.ph with
  | true =>
   have hp := (wz _).1 hg
   have hmn := G.mn x.ph
   have hmi : 0 ≤ x.mi ∧ x.mi ≤ 256 := by rcases hR with ⟨a, b, c, d, e⟩ | ⟨a, b, c, d⟩ | ⟨a, b, c, d⟩ <;> omega
   obtain ⟨j, hj⟩ : ∃ j : Nat, (j : Int) = x.ph - 1 := ⟨(x.ph - 1).toNat, by omega⟩
   have hM := ab9 r j (by omega)
   rw [show (j : Int) + 1 = x.ph from by omega] at hM
   have e : tick r x = (if x.mi + 1 < r.mn x.ph then { x with mi := x.mi + 1 } else if x.ph < 3 then begin r { x with mi := x.mi + 1 } (x.ph + 1) else if x.te then ended { x with mi := x.mi + 1 } 6 else ended { x with mi := x.mi + 1 } 5) := by
    unfold tick
    rw [if_neg h4, if_pos hg]
   rw [e]
   obtain ⟨ph, be, mi, wa, l0, l1, l2, te⟩ := x
   exact Vr r ph be mi wa l0 l1 l2 te G h4 hg (Rh hmi) j _ (acA _ j hp hj) (by omega) (by omega) hM (Rh (by have : 1 ≤ ph ∧ ph ≤ 3 := hp; omega)) w
  | false =>
   have e : tick r x = x := by unfold tick; rw [if_neg h4, if_neg (by rw [hg]; decide)]
   rw [e]
   exact Vs r x h4 hg w
def jE (o : Option Rn) (w : World) (e : Ending) (w' : World) : Prop := e = .returned (.tuple #[iq (o.getD lH), .bool o.isSome]) ∧ Below w.heap.size w w'
theorem ajK (r : Ru) (ph be mi wa : Int) (l0 l1 l2 te : Bool) (G : aW r) (hR : Right r ⟨ph, be, mi, wa, l0, l1, l2, te⟩) (w : World) : Calls Tryz.prog 32 #[iq ⟨ph, be, mi, wa, l0, l1, l2, te⟩, rZ r, .int .i64 0] w (jE (some (tick r ⟨ph, be, mi, wa, l0, l1, l2, te⟩)) w) := by
 have HG := ae G
 have HR := ae hR
 obtain ⟨u, hu⟩ : ∃ u, u = tick r ⟨ph, be, mi, wa, l0, l1, l2, te⟩ := ⟨_, rfl⟩
 have HU := ae hu
 rw [← hu]
 clear hu G hR
 go_enter Tryz.func32, Tryz.ntmps32
 go_wp2_with fail
 generalize hW0 : ((w.alloc (.cells (zf ⟨ph, be, mi, wa, l0, l1, l2, te⟩) 66)).alloc (.cells (yF r) 63)).alloc (.cells _ _) = W at *
 obtain ⟨hal, hB1, hB2, hB3, hWs⟩ := uw w _ _ _ _ W hW0.symm
 have pI := ae hal
 have HB1 := ae hB1
 have HB2 := ae hB2
 have HB3 := ae hB3
 clear hW0 hal hB1 hB2 hB3 hWs
 refine (ack r ⟨ph, be, mi, wa, l0, l1, l2, te⟩ HG.out HR.out _).mono ?_
 rintro e w1 ⟨rfl, hb⟩
 rw [← HU.out]
 have E3 := ae (ay HB3.out hb (ai HB3.out))
 have HB := ae (pI.out.trans (hb.mono pI.out.size))
 obtain ⟨f0, f1, f2, f3, f4, f5, f6, f7⟩ := Ob (x := lH) E3.out
 obtain ⟨g0, g1, g2, g3, g4, g5, g6, g7⟩ := rY (x := lH) E3.out
 clear hb HU
 go_wp2_with fail
 obtain ⟨h0, h1, h2, h3, h4, h5, h6, h7⟩ := rY (x := u) (tC (u0 := .int .i64 (u).ph) (u1 := .int .i64 (u).be) (u2 := .int .i64 (u).mi) (u3 := .int .i64 (u).wa) (u4 := .bool (u).l0) (u5 := .bool (u).l1) (u6 := .bool (u).l2) (u7 := .bool (u).te) E3.out)
 refine bodyPost_ret (v := .tuple #[iq u, .bool true]) (by simp [results, Tryz.results32, go_sem, h0, h1, h2, h3, h4, h5, h6, h7]) rfl ⟨rfl, ?_⟩
 exact dE HB.out (by omega)
theorem ajL (r : Ru) (ph be mi wa : Int) (l0 l1 l2 te : Bool) (G : aW r) (h0 : ph = 0) (w : World) : Calls Tryz.prog 32 #[iq ⟨ph, be, mi, wa, l0, l1, l2, te⟩, rZ r, .int .i64 1] w (jE (some (begin r ⟨ph, be, mi, wa, l0, l1, l2, false⟩ 1)) w) := by
 have HG := ae G
 have t1 : (ph != 0) = false := by simp [h0]
 obtain ⟨u, hu⟩ : ∃ u, u = begin r ⟨ph, be, mi, wa, l0, l1, l2, false⟩ 1 := ⟨_, rfl⟩
 have HU := ae hu
 rw [← hu]
 clear hu G h0
 go_enter Tryz.func32, Tryz.ntmps32
 go_wp2_with fail
 generalize hW0 : ((w.alloc (.cells (zf ⟨ph, be, mi, wa, l0, l1, l2, false⟩) 66)).alloc (.cells (yF r) 63)).alloc (.cells _ _) = W at *
 obtain ⟨hal, hB1, hB2, hB3, hWs⟩ := uw w _ _ _ _ W hW0.symm
 have pI := ae hal
 have HB1 := ae hB1
 have HB2 := ae hB2
 have HB3 := ae hB3
 clear hW0 hal hB1 hB2 hB3 hWs
 refine (Ic r ⟨ph, be, mi, wa, l0, l1, l2, false⟩ 1 HG.out _).mono ?_
 rintro e w1 ⟨rfl, hb⟩
 rw [← HU.out]
 have E3 := ae (ay HB3.out hb (ai HB3.out))
 have HB := ae (pI.out.trans (hb.mono pI.out.size))
 obtain ⟨f0, f1, f2, f3, f4, f5, f6, f7⟩ := Ob (x := lH) E3.out
 obtain ⟨g0, g1, g2, g3, g4, g5, g6, g7⟩ := rY (x := lH) E3.out
 clear hb HU
 go_wp2_with fail
 obtain ⟨h0, h1, h2, h3, h4, h5, h6, h7⟩ := rY (x := u) (tC (u0 := .int .i64 (u).ph) (u1 := .int .i64 (u).be) (u2 := .int .i64 (u).mi) (u3 := .int .i64 (u).wa) (u4 := .bool (u).l0) (u5 := .bool (u).l1) (u6 := .bool (u).l2) (u7 := .bool (u).te) E3.out)
 refine bodyPost_ret (v := .tuple #[iq u, .bool true]) (by simp [results, Tryz.results32, go_sem, h0, h1, h2, h3, h4, h5, h6, h7]) rfl ⟨rfl, ?_⟩
 exact dE HB.out (by omega)
theorem aeH (r : Ru) (ph be mi wa : Int) (l0 l1 l2 te : Bool) (G : aW r) (h0 : ¬ ph = 0) (w : World) : Calls Tryz.prog 32 #[iq ⟨ph, be, mi, wa, l0, l1, l2, te⟩, rZ r, .int .i64 1] w (jE none w) := by
 have t1 : (ph != 0) = true := by simp [h0]
 clear G h0
 go_enter Tryz.func32, Tryz.ntmps32
 go_wp2_with fail
 refine bodyPost_ret (v := .tuple #[iq lH, .bool false]) (by simp [results, Tryz.results32, go_sem, lH]) rfl ⟨rfl, ba (below2 _ _ _)⟩
theorem aeI (r : Ru) (ph be mi wa : Int) (l0 l1 l2 te : Bool) (G : aW r) (h4 : iC ph 0 4 = false) (w : World) : Calls Tryz.prog 32 #[iq ⟨ph, be, mi, wa, l0, l1, l2, te⟩, rZ r, .int .i64 2] w (jE none w) := by
 clear G
 go_enter Tryz.func32, Tryz.ntmps32
 go_wp2_with fail
 refine (eH _ _ _ _).mono ?_
 rintro e w1 ⟨rfl, rfl⟩
 rw [h4]
 go_wp2_with fail
 refine bodyPost_ret (v := .tuple #[iq lH, .bool false]) (by simp [results, Tryz.results32, go_sem, lH]) rfl ⟨rfl, ba (below2 _ _ _)⟩
theorem aeJ (r : Ru) (ph be mi wa : Int) (l0 l1 l2 te : Bool) (G : aW r) (h4 : iC ph 0 4 = true) (w : World) : Calls Tryz.prog 32 #[iq ⟨ph, be, mi, wa, true, l1, l2, te⟩, rZ r, .int .i64 2] w (jE none w) := by
 clear G
 go_enter Tryz.func32, Tryz.ntmps32
 go_wp2_with fail
 refine (eH _ _ _ _).mono ?_
 rintro e w1 ⟨rfl, rfl⟩
 rw [h4]
 go_wp2_with fail
 refine bodyPost_ret (v := .tuple #[iq lH, .bool false]) (by simp [results, Tryz.results32, go_sem, lH]) rfl ⟨rfl, ba (below2 _ _ _)⟩
theorem ajM (r : Ru) (ph be mi wa : Int) (l0 l1 l2 te : Bool) (G : aW r) (h4 : iC ph 0 4 = true) (w : World) : Calls Tryz.prog 32 #[iq ⟨ph, be, mi, wa, false, l1, l2, te⟩, rZ r, .int .i64 2] w (jE (some (meet r ⟨ph, be, mi, wa, true, l1, l2, te⟩ 0)) w) := by
 have HG := ae G
 obtain ⟨u, hu⟩ : ∃ u, u = meet r ⟨ph, be, mi, wa, true, l1, l2, te⟩ 0 := ⟨_, rfl⟩
 have HU := ae hu
 rw [← hu]
 clear hu G
 go_enter Tryz.func32, Tryz.ntmps32
 go_wp2_with fail
 refine (eH _ _ _ _).mono ?_
 rintro e w1 ⟨rfl, rfl⟩
 rw [h4]
 go_wp2_with fail
 generalize hW0 : ((w.alloc (.cells (zf ⟨ph, be, mi, wa, true, l1, l2, te⟩) 66)).alloc (.cells (yF r) 63)).alloc (.cells _ _) = W at *
 obtain ⟨hal, hB1, hB2, hB3, hWs⟩ := uw w _ _ _ _ W hW0.symm
 have pI := ae hal
 have HB1 := ae hB1
 have HB2 := ae hB2
 have HB3 := ae hB3
 clear hW0 hal hB1 hB2 hB3 hWs
 refine (zO r ⟨ph, be, mi, wa, true, l1, l2, te⟩ 0 (by omega) HG.out _).mono ?_
 rintro e w1 ⟨rfl, hb⟩
 rw [← HU.out]
 have E1 := ae (ay HB1.out hb (ai HB1.out))
 have D3 := ae (ay HB3.out hb (ai HB3.out))
 have BB := ae (pI.out.trans (hb.mono pI.out.size))
 obtain ⟨f0, f1, f2, f3, f4, f5, f6, f7⟩ := Ob E1.out
 obtain ⟨g0, g1, g2, g3, g4, g5, g6, g7⟩ := rY E1.out
 have KV := tC (u0 := .int .i64 u.ph) (u1 := .int .i64 u.be) (u2 := .int .i64 u.mi) (u3 := .int .i64 u.wa) (u4 := .bool u.l0) (u5 := .bool u.l1) (u6 := .bool u.l2) (u7 := .bool u.te) E1.out
 have E3 := ae (Qp (u0 := .int .i64 u.ph) (u1 := .int .i64 u.be) (u2 := .int .i64 u.mi) (u3 := .int .i64 u.wa) (u4 := .bool u.l0) (u5 := .bool u.l1) (u6 := .bool u.l2) (u7 := .bool u.te) D3.out (show w.heap.size + 1 + 1 ≠ w.heap.size by omega))
 have HB := ae (dE (u0 := .int .i64 u.ph) (u1 := .int .i64 u.be) (u2 := .int .i64 u.mi) (u3 := .int .i64 u.wa) (u4 := .bool u.l0) (u5 := .bool u.l1) (u6 := .bool u.l2) (u7 := .bool u.te) BB.out (Nat.le_refl w.heap.size))
 obtain ⟨x0, x1, x2, x3, x4, x5, x6, x7⟩ := rY (x := u) KV
 obtain ⟨y0, y1, y2, y3, y4, y5, y6, y7⟩ := Ob (x := lH) E3.out
 obtain ⟨z0, z1, z2, z3, z4, z5, z6, z7⟩ := rY (x := lH) E3.out
 clear hb HU KV
 go_wp2_with fail
 obtain ⟨h0, h1, h2, h3, h4, h5, h6, h7⟩ := rY (x := u) (tC (u0 := .int .i64 (u).ph) (u1 := .int .i64 (u).be) (u2 := .int .i64 (u).mi) (u3 := .int .i64 (u).wa) (u4 := .bool (u).l0) (u5 := .bool (u).l1) (u6 := .bool (u).l2) (u7 := .bool (u).te) E3.out)
 refine bodyPost_ret (v := .tuple #[iq u, .bool true]) (by simp [results, Tryz.results32, go_sem, h0, h1, h2, h3, h4, h5, h6, h7]) rfl ⟨rfl, ?_⟩
 exact dE HB.out (by omega)
theorem aeM (r : Ru) (ph be mi wa : Int) (l0 l1 l2 te : Bool) (G : aW r) (h4 : iC ph 0 4 = false) (w : World) : Calls Tryz.prog 32 #[iq ⟨ph, be, mi, wa, l0, l1, l2, te⟩, rZ r, .int .i64 3] w (jE none w) := by
 clear G
 go_enter Tryz.func32, Tryz.ntmps32
 go_wp2_with fail
 refine (eH _ _ _ _).mono ?_
 rintro e w1 ⟨rfl, rfl⟩
 rw [h4]
 go_wp2_with fail
 refine bodyPost_ret (v := .tuple #[iq lH, .bool false]) (by simp [results, Tryz.results32, go_sem, lH]) rfl ⟨rfl, ba (below2 _ _ _)⟩
theorem aeN (r : Ru) (ph be mi wa : Int) (l0 l1 l2 te : Bool) (G : aW r) (h4 : iC ph 0 4 = true) (w : World) : Calls Tryz.prog 32 #[iq ⟨ph, be, mi, wa, false, l1, l2, te⟩, rZ r, .int .i64 3] w (jE none w) := by
 clear G
 go_enter Tryz.func32, Tryz.ntmps32
 go_wp2_with fail
 refine (eH _ _ _ _).mono ?_
 rintro e w1 ⟨rfl, rfl⟩
 rw [h4]
 go_wp2_with fail
 refine bodyPost_ret (v := .tuple #[iq lH, .bool false]) (by simp [results, Tryz.results32, go_sem, lH]) rfl ⟨rfl, ba (below2 _ _ _)⟩
theorem aeL (r : Ru) (ph be mi wa : Int) (l0 l1 l2 te : Bool) (G : aW r) (h4 : iC ph 0 4 = true) (hn : ¬ ph = 4) (w : World) : Calls Tryz.prog 32 #[iq ⟨ph, be, mi, wa, true, l1, l2, te⟩, rZ r, .int .i64 3] w (jE (some ⟨ph, be, mi, wa, false, l1, l2, te⟩) w) := by
 have t1 : (ph == 4) = false := by simp [hn]
 clear G hn
 go_enter Tryz.func32, Tryz.ntmps32
 go_wp2_with fail
 refine (eH _ _ _ _).mono ?_
 rintro e w1 ⟨rfl, rfl⟩
 rw [h4]
 go_wp2_with fail
 refine bodyPost_ret (v := .tuple #[iq ⟨ph, be, mi, wa, false, l1, l2, te⟩, .bool true]) (by simp [results, Tryz.results32, go_sem]) rfl ⟨rfl, ba (below2 _ _ _)⟩
theorem aeK (r : Ru) (be mi wa : Int) (l0 l1 l2 te : Bool) (G : aW r) (hp : 1 ≤ be ∧ be ≤ 3) (hh : gQ r ⟨4, be, mi, wa, false, l1, l2, te⟩ be = true) (w : World) : Calls Tryz.prog 32 #[iq ⟨4, be, mi, wa, true, l1, l2, te⟩, rZ r, .int .i64 3] w (jE (some ⟨4, be, mi, wa, false, l1, l2, te⟩) w) := by
 have HP := ae hp
 have HH := ae hh
 clear G hp hh
 go_enter Tryz.func32, Tryz.ntmps32
 go_wp2_with fail
 refine (eH _ _ _ _).mono ?_
 rintro e w1 ⟨rfl, rfl⟩
 rw [show iC 4 0 4 = true from rfl]
 go_wp2_with fail
 refine (sN r ⟨4, be, mi, wa, false, l1, l2, te⟩ HP.out _).mono ?_
 rintro e w1 ⟨rfl, rfl⟩
 rw [HH.out]
 go_wp2_with fail
 refine bodyPost_ret (v := .tuple #[iq ⟨4, be, mi, wa, false, l1, l2, te⟩, .bool true]) (by simp [results, Tryz.results32, go_sem]) rfl ⟨rfl, ba (ba (ba (below2 _ _ _)))⟩
theorem aeO (r : Ru) (be mi wa : Int) (l0 l1 l2 te : Bool) (G : aW r) (hp : 1 ≤ be ∧ be ≤ 3) (hh : gQ r ⟨4, be, mi, wa, false, l1, l2, te⟩ be = false) (w : World) : Calls Tryz.prog 32 #[iq ⟨4, be, mi, wa, true, l1, l2, te⟩, rZ r, .int .i64 3] w (jE (some ⟨be, 0, mi, 0, false, l1, l2, te⟩) w) := by
 have HP := ae hp
 have HH := ae hh
 clear G hp hh
 go_enter Tryz.func32, Tryz.ntmps32
 go_wp2_with fail
 refine (eH _ _ _ _).mono ?_
 rintro e w1 ⟨rfl, rfl⟩
 rw [show iC 4 0 4 = true from rfl]
 go_wp2_with fail
 refine (sN r ⟨4, be, mi, wa, false, l1, l2, te⟩ HP.out _).mono ?_
 rintro e w1 ⟨rfl, rfl⟩
 rw [HH.out]
 go_wp2_with fail
 refine bodyPost_ret (v := .tuple #[iq ⟨be, 0, mi, 0, false, l1, l2, te⟩, .bool true]) (by simp [results, Tryz.results32, go_sem]) rfl ⟨rfl, ba (ba (ba (below2 _ _ _)))⟩
theorem aeP (r : Ru) (ph be mi wa : Int) (l0 l1 l2 te : Bool) (G : aW r) (h4 : iC ph 0 4 = false) (w : World) : Calls Tryz.prog 32 #[iq ⟨ph, be, mi, wa, l0, l1, l2, te⟩, rZ r, .int .i64 4] w (jE none w) := by
 clear G
 go_enter Tryz.func32, Tryz.ntmps32
 go_wp2_with fail
 refine (eH _ _ _ _).mono ?_
 rintro e w1 ⟨rfl, rfl⟩
 rw [h4]
 go_wp2_with fail
 refine bodyPost_ret (v := .tuple #[iq lH, .bool false]) (by simp [results, Tryz.results32, go_sem, lH]) rfl ⟨rfl, ba (below2 _ _ _)⟩
theorem aeQ (r : Ru) (ph be mi wa : Int) (l0 l2 te : Bool) (G : aW r) (h4 : iC ph 0 4 = true) (w : World) : Calls Tryz.prog 32 #[iq ⟨ph, be, mi, wa, l0, true, l2, te⟩, rZ r, .int .i64 4] w (jE none w) := by
 clear G
 go_enter Tryz.func32, Tryz.ntmps32
 go_wp2_with fail
 refine (eH _ _ _ _).mono ?_
 rintro e w1 ⟨rfl, rfl⟩
 rw [h4]
 go_wp2_with fail
 refine bodyPost_ret (v := .tuple #[iq lH, .bool false]) (by simp [results, Tryz.results32, go_sem, lH]) rfl ⟨rfl, ba (below2 _ _ _)⟩
theorem ajN (r : Ru) (ph be mi wa : Int) (l0 l2 te : Bool) (G : aW r) (h4 : iC ph 0 4 = true) (w : World) : Calls Tryz.prog 32 #[iq ⟨ph, be, mi, wa, l0, false, l2, te⟩, rZ r, .int .i64 4] w (jE (some (meet r ⟨ph, be, mi, wa, l0, true, l2, te⟩ 1)) w) := by
 have HG := ae G
 obtain ⟨u, hu⟩ : ∃ u, u = meet r ⟨ph, be, mi, wa, l0, true, l2, te⟩ 1 := ⟨_, rfl⟩
 have HU := ae hu
 rw [← hu]
 clear hu G
 go_enter Tryz.func32, Tryz.ntmps32
 go_wp2_with fail
 refine (eH _ _ _ _).mono ?_
 rintro e w1 ⟨rfl, rfl⟩
 rw [h4]
 go_wp2_with fail
 generalize hW0 : ((w.alloc (.cells (zf ⟨ph, be, mi, wa, l0, true, l2, te⟩) 66)).alloc (.cells (yF r) 63)).alloc (.cells _ _) = W at *
 obtain ⟨hal, hB1, hB2, hB3, hWs⟩ := uw w _ _ _ _ W hW0.symm
 have pI := ae hal
 have HB1 := ae hB1
 have HB2 := ae hB2
 have HB3 := ae hB3
 clear hW0 hal hB1 hB2 hB3 hWs
 refine (zO r ⟨ph, be, mi, wa, l0, true, l2, te⟩ 1 (by omega) HG.out _).mono ?_
 rintro e w1 ⟨rfl, hb⟩
 rw [← HU.out]
 have E1 := ae (ay HB1.out hb (ai HB1.out))
 have D3 := ae (ay HB3.out hb (ai HB3.out))
 have BB := ae (pI.out.trans (hb.mono pI.out.size))
 obtain ⟨f0, f1, f2, f3, f4, f5, f6, f7⟩ := Ob E1.out
 obtain ⟨g0, g1, g2, g3, g4, g5, g6, g7⟩ := rY E1.out
 have KV := tC (u0 := .int .i64 u.ph) (u1 := .int .i64 u.be) (u2 := .int .i64 u.mi) (u3 := .int .i64 u.wa) (u4 := .bool u.l0) (u5 := .bool u.l1) (u6 := .bool u.l2) (u7 := .bool u.te) E1.out
 have E3 := ae (Qp (u0 := .int .i64 u.ph) (u1 := .int .i64 u.be) (u2 := .int .i64 u.mi) (u3 := .int .i64 u.wa) (u4 := .bool u.l0) (u5 := .bool u.l1) (u6 := .bool u.l2) (u7 := .bool u.te) D3.out (show w.heap.size + 1 + 1 ≠ w.heap.size by omega))
 have HB := ae (dE (u0 := .int .i64 u.ph) (u1 := .int .i64 u.be) (u2 := .int .i64 u.mi) (u3 := .int .i64 u.wa) (u4 := .bool u.l0) (u5 := .bool u.l1) (u6 := .bool u.l2) (u7 := .bool u.te) BB.out (Nat.le_refl w.heap.size))
 obtain ⟨x0, x1, x2, x3, x4, x5, x6, x7⟩ := rY (x := u) KV
 obtain ⟨y0, y1, y2, y3, y4, y5, y6, y7⟩ := Ob (x := lH) E3.out
 obtain ⟨z0, z1, z2, z3, z4, z5, z6, z7⟩ := rY (x := lH) E3.out
 clear hb HU KV
 go_wp2_with fail
 obtain ⟨h0, h1, h2, h3, h4, h5, h6, h7⟩ := rY (x := u) (tC (u0 := .int .i64 (u).ph) (u1 := .int .i64 (u).be) (u2 := .int .i64 (u).mi) (u3 := .int .i64 (u).wa) (u4 := .bool (u).l0) (u5 := .bool (u).l1) (u6 := .bool (u).l2) (u7 := .bool (u).te) E3.out)
 refine bodyPost_ret (v := .tuple #[iq u, .bool true]) (by simp [results, Tryz.results32, go_sem, h0, h1, h2, h3, h4, h5, h6, h7]) rfl ⟨rfl, ?_⟩
 exact dE HB.out (by omega)
theorem aeT (r : Ru) (ph be mi wa : Int) (l0 l1 l2 te : Bool) (G : aW r) (h4 : iC ph 0 4 = false) (w : World) : Calls Tryz.prog 32 #[iq ⟨ph, be, mi, wa, l0, l1, l2, te⟩, rZ r, .int .i64 5] w (jE none w) := by
 clear G
 go_enter Tryz.func32, Tryz.ntmps32
 go_wp2_with fail
 refine (eH _ _ _ _).mono ?_
 rintro e w1 ⟨rfl, rfl⟩
 rw [h4]
 go_wp2_with fail
 refine bodyPost_ret (v := .tuple #[iq lH, .bool false]) (by simp [results, Tryz.results32, go_sem, lH]) rfl ⟨rfl, ba (below2 _ _ _)⟩
theorem aeU (r : Ru) (ph be mi wa : Int) (l0 l2 te : Bool) (G : aW r) (h4 : iC ph 0 4 = true) (w : World) : Calls Tryz.prog 32 #[iq ⟨ph, be, mi, wa, l0, false, l2, te⟩, rZ r, .int .i64 5] w (jE none w) := by
 clear G
 go_enter Tryz.func32, Tryz.ntmps32
 go_wp2_with fail
 refine (eH _ _ _ _).mono ?_
 rintro e w1 ⟨rfl, rfl⟩
 rw [h4]
 go_wp2_with fail
 refine bodyPost_ret (v := .tuple #[iq lH, .bool false]) (by simp [results, Tryz.results32, go_sem, lH]) rfl ⟨rfl, ba (below2 _ _ _)⟩
theorem aeS (r : Ru) (ph be mi wa : Int) (l0 l2 te : Bool) (G : aW r) (h4 : iC ph 0 4 = true) (hn : ¬ ph = 4) (w : World) : Calls Tryz.prog 32 #[iq ⟨ph, be, mi, wa, l0, true, l2, te⟩, rZ r, .int .i64 5] w (jE (some ⟨ph, be, mi, wa, l0, false, l2, te⟩) w) := by
 have t1 : (ph == 4) = false := by simp [hn]
 clear G hn
 go_enter Tryz.func32, Tryz.ntmps32
 go_wp2_with fail
 refine (eH _ _ _ _).mono ?_
 rintro e w1 ⟨rfl, rfl⟩
 rw [h4]
 go_wp2_with fail
 refine bodyPost_ret (v := .tuple #[iq ⟨ph, be, mi, wa, l0, false, l2, te⟩, .bool true]) (by simp [results, Tryz.results32, go_sem]) rfl ⟨rfl, ba (below2 _ _ _)⟩
theorem aeR (r : Ru) (be mi wa : Int) (l0 l2 te : Bool) (G : aW r) (hp : 1 ≤ be ∧ be ≤ 3) (hh : gQ r ⟨4, be, mi, wa, l0, false, l2, te⟩ be = true) (w : World) : Calls Tryz.prog 32 #[iq ⟨4, be, mi, wa, l0, true, l2, te⟩, rZ r, .int .i64 5] w (jE (some ⟨4, be, mi, wa, l0, false, l2, te⟩) w) := by
 have HP := ae hp
 have HH := ae hh
 clear G hp hh
 go_enter Tryz.func32, Tryz.ntmps32
 go_wp2_with fail
 refine (eH _ _ _ _).mono ?_
 rintro e w1 ⟨rfl, rfl⟩
 rw [show iC 4 0 4 = true from rfl]
 go_wp2_with fail
 refine (sN r ⟨4, be, mi, wa, l0, false, l2, te⟩ HP.out _).mono ?_
 rintro e w1 ⟨rfl, rfl⟩
 rw [HH.out]
 go_wp2_with fail
 refine bodyPost_ret (v := .tuple #[iq ⟨4, be, mi, wa, l0, false, l2, te⟩, .bool true]) (by simp [results, Tryz.results32, go_sem]) rfl ⟨rfl, ba (ba (ba (below2 _ _ _)))⟩
theorem aeV (r : Ru) (be mi wa : Int) (l0 l2 te : Bool) (G : aW r) (hp : 1 ≤ be ∧ be ≤ 3) (hh : gQ r ⟨4, be, mi, wa, l0, false, l2, te⟩ be = false) (w : World) : Calls Tryz.prog 32 #[iq ⟨4, be, mi, wa, l0, true, l2, te⟩, rZ r, .int .i64 5] w (jE (some ⟨be, 0, mi, 0, l0, false, l2, te⟩) w) := by
 have HP := ae hp
 have HH := ae hh
 clear G hp hh
 go_enter Tryz.func32, Tryz.ntmps32
 go_wp2_with fail
 refine (eH _ _ _ _).mono ?_
 rintro e w1 ⟨rfl, rfl⟩
 rw [show iC 4 0 4 = true from rfl]
 go_wp2_with fail
 refine (sN r ⟨4, be, mi, wa, l0, false, l2, te⟩ HP.out _).mono ?_
 rintro e w1 ⟨rfl, rfl⟩
 rw [HH.out]
 go_wp2_with fail
 refine bodyPost_ret (v := .tuple #[iq ⟨be, 0, mi, 0, l0, false, l2, te⟩, .bool true]) (by simp [results, Tryz.results32, go_sem]) rfl ⟨rfl, ba (ba (ba (below2 _ _ _)))⟩
theorem aeW (r : Ru) (ph be mi wa : Int) (l0 l1 l2 te : Bool) (G : aW r) (h4 : iC ph 0 4 = false) (w : World) : Calls Tryz.prog 32 #[iq ⟨ph, be, mi, wa, l0, l1, l2, te⟩, rZ r, .int .i64 6] w (jE none w) := by
 clear G
 go_enter Tryz.func32, Tryz.ntmps32
 go_wp2_with fail
 refine (eH _ _ _ _).mono ?_
 rintro e w1 ⟨rfl, rfl⟩
 rw [h4]
 go_wp2_with fail
 refine bodyPost_ret (v := .tuple #[iq lH, .bool false]) (by simp [results, Tryz.results32, go_sem, lH]) rfl ⟨rfl, ba (below2 _ _ _)⟩
theorem aeX (r : Ru) (ph be mi wa : Int) (l0 l1 te : Bool) (G : aW r) (h4 : iC ph 0 4 = true) (w : World) : Calls Tryz.prog 32 #[iq ⟨ph, be, mi, wa, l0, l1, true, te⟩, rZ r, .int .i64 6] w (jE none w) := by
 clear G
 go_enter Tryz.func32, Tryz.ntmps32
 go_wp2_with fail
 refine (eH _ _ _ _).mono ?_
 rintro e w1 ⟨rfl, rfl⟩
 rw [h4]
 go_wp2_with fail
 refine bodyPost_ret (v := .tuple #[iq lH, .bool false]) (by simp [results, Tryz.results32, go_sem, lH]) rfl ⟨rfl, ba (below2 _ _ _)⟩
theorem ajO (r : Ru) (ph be mi wa : Int) (l0 l1 te : Bool) (G : aW r) (h4 : iC ph 0 4 = true) (w : World) : Calls Tryz.prog 32 #[iq ⟨ph, be, mi, wa, l0, l1, false, te⟩, rZ r, .int .i64 6] w (jE (some (meet r ⟨ph, be, mi, wa, l0, l1, true, te⟩ 2)) w) := by
 have HG := ae G
 obtain ⟨u, hu⟩ : ∃ u, u = meet r ⟨ph, be, mi, wa, l0, l1, true, te⟩ 2 := ⟨_, rfl⟩
 have HU := ae hu
 rw [← hu]
 clear hu G
 go_enter Tryz.func32, Tryz.ntmps32
 go_wp2_with fail
 refine (eH _ _ _ _).mono ?_
 rintro e w1 ⟨rfl, rfl⟩
 rw [h4]
 go_wp2_with fail
 generalize hW0 : ((w.alloc (.cells (zf ⟨ph, be, mi, wa, l0, l1, true, te⟩) 66)).alloc (.cells (yF r) 63)).alloc (.cells _ _) = W at *
 obtain ⟨hal, hB1, hB2, hB3, hWs⟩ := uw w _ _ _ _ W hW0.symm
 have pI := ae hal
 have HB1 := ae hB1
 have HB2 := ae hB2
 have HB3 := ae hB3
 clear hW0 hal hB1 hB2 hB3 hWs
 refine (zO r ⟨ph, be, mi, wa, l0, l1, true, te⟩ 2 (by omega) HG.out _).mono ?_
 rintro e w1 ⟨rfl, hb⟩
 rw [← HU.out]
 have E1 := ae (ay HB1.out hb (ai HB1.out))
 have D3 := ae (ay HB3.out hb (ai HB3.out))
 have BB := ae (pI.out.trans (hb.mono pI.out.size))
 obtain ⟨f0, f1, f2, f3, f4, f5, f6, f7⟩ := Ob E1.out
 obtain ⟨g0, g1, g2, g3, g4, g5, g6, g7⟩ := rY E1.out
 have KV := tC (u0 := .int .i64 u.ph) (u1 := .int .i64 u.be) (u2 := .int .i64 u.mi) (u3 := .int .i64 u.wa) (u4 := .bool u.l0) (u5 := .bool u.l1) (u6 := .bool u.l2) (u7 := .bool u.te) E1.out
 have E3 := ae (Qp (u0 := .int .i64 u.ph) (u1 := .int .i64 u.be) (u2 := .int .i64 u.mi) (u3 := .int .i64 u.wa) (u4 := .bool u.l0) (u5 := .bool u.l1) (u6 := .bool u.l2) (u7 := .bool u.te) D3.out (show w.heap.size + 1 + 1 ≠ w.heap.size by omega))
 have HB := ae (dE (u0 := .int .i64 u.ph) (u1 := .int .i64 u.be) (u2 := .int .i64 u.mi) (u3 := .int .i64 u.wa) (u4 := .bool u.l0) (u5 := .bool u.l1) (u6 := .bool u.l2) (u7 := .bool u.te) BB.out (Nat.le_refl w.heap.size))
 obtain ⟨x0, x1, x2, x3, x4, x5, x6, x7⟩ := rY (x := u) KV
 obtain ⟨y0, y1, y2, y3, y4, y5, y6, y7⟩ := Ob (x := lH) E3.out
 obtain ⟨z0, z1, z2, z3, z4, z5, z6, z7⟩ := rY (x := lH) E3.out
 clear hb HU KV
 go_wp2_with fail
 obtain ⟨h0, h1, h2, h3, h4, h5, h6, h7⟩ := rY (x := u) (tC (u0 := .int .i64 (u).ph) (u1 := .int .i64 (u).be) (u2 := .int .i64 (u).mi) (u3 := .int .i64 (u).wa) (u4 := .bool (u).l0) (u5 := .bool (u).l1) (u6 := .bool (u).l2) (u7 := .bool (u).te) E3.out)
 refine bodyPost_ret (v := .tuple #[iq u, .bool true]) (by simp [results, Tryz.results32, go_sem, h0, h1, h2, h3, h4, h5, h6, h7]) rfl ⟨rfl, ?_⟩
 exact dE HB.out (by omega)
theorem ae0 (r : Ru) (ph be mi wa : Int) (l0 l1 l2 te : Bool) (G : aW r) (h4 : iC ph 0 4 = false) (w : World) : Calls Tryz.prog 32 #[iq ⟨ph, be, mi, wa, l0, l1, l2, te⟩, rZ r, .int .i64 7] w (jE none w) := by
 clear G
 go_enter Tryz.func32, Tryz.ntmps32
 go_wp2_with fail
 refine (eH _ _ _ _).mono ?_
 rintro e w1 ⟨rfl, rfl⟩
 rw [h4]
 go_wp2_with fail
 refine bodyPost_ret (v := .tuple #[iq lH, .bool false]) (by simp [results, Tryz.results32, go_sem, lH]) rfl ⟨rfl, ba (below2 _ _ _)⟩
theorem ae1 (r : Ru) (ph be mi wa : Int) (l0 l1 te : Bool) (G : aW r) (h4 : iC ph 0 4 = true) (w : World) : Calls Tryz.prog 32 #[iq ⟨ph, be, mi, wa, l0, l1, false, te⟩, rZ r, .int .i64 7] w (jE none w) := by
 clear G
 go_enter Tryz.func32, Tryz.ntmps32
 go_wp2_with fail
 refine (eH _ _ _ _).mono ?_
 rintro e w1 ⟨rfl, rfl⟩
 rw [h4]
 go_wp2_with fail
 refine bodyPost_ret (v := .tuple #[iq lH, .bool false]) (by simp [results, Tryz.results32, go_sem, lH]) rfl ⟨rfl, ba (below2 _ _ _)⟩
theorem aeZ (r : Ru) (ph be mi wa : Int) (l0 l1 te : Bool) (G : aW r) (h4 : iC ph 0 4 = true) (hn : ¬ ph = 4) (w : World) : Calls Tryz.prog 32 #[iq ⟨ph, be, mi, wa, l0, l1, true, te⟩, rZ r, .int .i64 7] w (jE (some ⟨ph, be, mi, wa, l0, l1, false, te⟩) w) := by
 have t1 : (ph == 4) = false := by simp [hn]
 clear G hn
 go_enter Tryz.func32, Tryz.ntmps32
 go_wp2_with fail
 refine (eH _ _ _ _).mono ?_
 rintro e w1 ⟨rfl, rfl⟩
 rw [h4]
 go_wp2_with fail
 refine bodyPost_ret (v := .tuple #[iq ⟨ph, be, mi, wa, l0, l1, false, te⟩, .bool true]) (by simp [results, Tryz.results32, go_sem]) rfl ⟨rfl, ba (below2 _ _ _)⟩
theorem aeY (r : Ru) (be mi wa : Int) (l0 l1 te : Bool) (G : aW r) (hp : 1 ≤ be ∧ be ≤ 3) (hh : gQ r ⟨4, be, mi, wa, l0, l1, false, te⟩ be = true) (w : World) : Calls Tryz.prog 32 #[iq ⟨4, be, mi, wa, l0, l1, true, te⟩, rZ r, .int .i64 7] w (jE (some ⟨4, be, mi, wa, l0, l1, false, te⟩) w) := by
 have HP := ae hp
 have HH := ae hh
 clear G hp hh
 go_enter Tryz.func32, Tryz.ntmps32
 go_wp2_with fail
 refine (eH _ _ _ _).mono ?_
 rintro e w1 ⟨rfl, rfl⟩
 rw [show iC 4 0 4 = true from rfl]
 go_wp2_with fail
 refine (sN r ⟨4, be, mi, wa, l0, l1, false, te⟩ HP.out _).mono ?_
 rintro e w1 ⟨rfl, rfl⟩
 rw [HH.out]
 go_wp2_with fail
 refine bodyPost_ret (v := .tuple #[iq ⟨4, be, mi, wa, l0, l1, false, te⟩, .bool true]) (by simp [results, Tryz.results32, go_sem]) rfl ⟨rfl, ba (ba (ba (below2 _ _ _)))⟩
theorem ae2 (r : Ru) (be mi wa : Int) (l0 l1 te : Bool) (G : aW r) (hp : 1 ≤ be ∧ be ≤ 3) (hh : gQ r ⟨4, be, mi, wa, l0, l1, false, te⟩ be = false) (w : World) : Calls Tryz.prog 32 #[iq ⟨4, be, mi, wa, l0, l1, true, te⟩, rZ r, .int .i64 7] w (jE (some ⟨be, 0, mi, 0, l0, l1, false, te⟩) w) := by
 have HP := ae hp
 have HH := ae hh
 clear G hp hh
 go_enter Tryz.func32, Tryz.ntmps32
 go_wp2_with fail
 refine (eH _ _ _ _).mono ?_
 rintro e w1 ⟨rfl, rfl⟩
 rw [show iC 4 0 4 = true from rfl]
 go_wp2_with fail
 refine (sN r ⟨4, be, mi, wa, l0, l1, false, te⟩ HP.out _).mono ?_
 rintro e w1 ⟨rfl, rfl⟩
 rw [HH.out]
 go_wp2_with fail
 refine bodyPost_ret (v := .tuple #[iq ⟨be, 0, mi, 0, l0, l1, false, te⟩, .bool true]) (by simp [results, Tryz.results32, go_sem]) rfl ⟨rfl, ba (ba (ba (below2 _ _ _)))⟩
theorem next_any (r : Ru) (x : Rn) (e : Int) (G : aW r) (hR : Right r x) (he : 0 ≤ e ∧ e ≤ 7) (w : World) : Calls Tryz.prog 32 #[iq x, rZ r, .int .i64 e] w (jE (next r x e) w) := by
 obtain ⟨ph, be, mi, wa, l0, l1, l2, te⟩ := x
 rcases (show e = 0 ∨ e = 1 ∨ e = 2 ∨ e = 3 ∨ e = 4 ∨ e = 5 ∨ e = 6 ∨ e = 7 by omega) with rfl | rfl | rfl | rfl | rfl | rfl | rfl | rfl
 · exact ajK r ph be mi wa l0 l1 l2 te G hR w
 ·
  by_cases h0 : ph = 0
  ·
   have e1 : next r ⟨ph, be, mi, wa, l0, l1, l2, te⟩ 1 = some (begin r ⟨ph, be, mi, wa, l0, l1, l2, false⟩ 1) := by unfold next; rw [if_neg (by decide), if_pos rfl, if_pos h0]
   rw [e1]
   exact ajL r ph be mi wa l0 l1 l2 te G h0 w
  ·
   have e1 : next r ⟨ph, be, mi, wa, l0, l1, l2, te⟩ 1 = none := by unfold next; rw [if_neg (by decide), if_pos rfl, if_neg h0]
   rw [e1]
   exact aeH r ph be mi wa l0 l1 l2 te G h0 w
 ·
  cases h4 : iC ph 0 4 with
  | false =>
   have e1 : next r ⟨ph, be, mi, wa, l0, l1, l2, te⟩ 2 = none := by unfold next; rw [if_neg (by decide), if_neg (by decide), if_pos (Or.inl h4)]
   rw [e1]
   exact aeI r ph be mi wa l0 l1 l2 te G h4 w
  | true =>
   cases l0 with
   | true =>
    have e1 : next r ⟨ph, be, mi, wa, true, l1, l2, te⟩ 2 = none := by unfold next; rw [if_neg (by decide), if_neg (by decide), if_pos (Or.inr (by rfl))]
    rw [e1]
    exact aeJ r ph be mi wa true l1 l2 te G h4 w
   | false =>
    have hno : ¬ (iC ph 0 4 = false ∨ Rn.lost ⟨ph, be, mi, wa, false, l1, l2, te⟩ (VH 2) = wY 2) := by
     rw [h4]
     rintro (h | h)
     · cases h
     · exact absurd h (by show ¬ false = true; decide)
    have e1 : next r ⟨ph, be, mi, wa, false, l1, l2, te⟩ 2 = some (meet r ⟨ph, be, mi, wa, true, l1, l2, te⟩ 0) := by unfold next; rw [if_neg (by decide), if_neg (by decide), if_neg hno, if_pos (by decide)]; rfl
    rw [e1]
    exact ajM r ph be mi wa true l1 l2 te G h4 w
 ·
  cases h4 : iC ph 0 4 with
  | false =>
   have e1 : next r ⟨ph, be, mi, wa, l0, l1, l2, te⟩ 3 = none := by unfold next; rw [if_neg (by decide), if_neg (by decide), if_pos (Or.inl h4)]
   rw [e1]
   exact aeM r ph be mi wa l0 l1 l2 te G h4 w
  | true =>
   cases l0 with
   | false =>
    have e1 : next r ⟨ph, be, mi, wa, false, l1, l2, te⟩ 3 = none := by unfold next; rw [if_neg (by decide), if_neg (by decide), if_pos (Or.inr (by rfl))]
    rw [e1]
    exact aeN r ph be mi wa true l1 l2 te G h4 w
   | true =>
    have hno : ¬ (iC ph 0 4 = false ∨ Rn.lost ⟨ph, be, mi, wa, true, l1, l2, te⟩ (VH 3) = wY 3) := by
     rw [h4]
     rintro (h | h)
     · cases h
     · exact absurd h (by show ¬ true = false; decide)
    have e1 : next r ⟨ph, be, mi, wa, true, l1, l2, te⟩ 3 = some (iE r ⟨ph, be, mi, wa, false, l1, l2, te⟩) := by unfold next; rw [if_neg (by decide), if_neg (by decide), if_neg hno, if_neg (by decide)]; rfl
    rw [e1]
    by_cases hp : ph = 4
    ·
     subst hp
     have hbe : 1 ≤ be ∧ be ≤ 3 := by
      rcases hR with ⟨_, h, _⟩ | ⟨_, _, h, _⟩ | ⟨_, _, _, h⟩
      · exact h
      ·
       have : (1 : Int) ≤ 4 ∧ (4 : Int) ≤ 3 := h
       omega
      ·
       have : (4 : Int) = 0 ∨ (4 : Int) = 5 ∨ (4 : Int) = 6 ∨ (4 : Int) = 7 := h
       omega
     cases hh : gQ r ⟨4, be, mi, wa, false, l1, l2, te⟩ be with
     | true =>
      have e2 : iE r ⟨4, be, mi, wa, false, l1, l2, te⟩ = ⟨4, be, mi, wa, false, l1, l2, te⟩ := by unfold iE; rw [if_neg (by rintro ⟨_, h⟩; rw [show gQ r ⟨4, be, mi, wa, false, l1, l2, te⟩ be = true from hh] at h; cases h)]
      rw [e2]
      exact aeK r be mi wa true l1 l2 te G hbe hh w
     | false =>
      have e2 : iE r ⟨4, be, mi, wa, false, l1, l2, te⟩ = ⟨be, 0, mi, 0, false, l1, l2, te⟩ := by unfold iE; rw [if_pos ⟨rfl, hh⟩]
      rw [e2]
      exact aeO r be mi wa true l1 l2 te G hbe hh w
    ·
     have e2 : iE r ⟨ph, be, mi, wa, false, l1, l2, te⟩ = ⟨ph, be, mi, wa, false, l1, l2, te⟩ := by unfold iE; rw [if_neg (fun h => hp h.1)]
     rw [e2]
     exact aeL r ph be mi wa true l1 l2 te G h4 hp w
 ·
  cases h4 : iC ph 0 4 with
  | false =>
   have e1 : next r ⟨ph, be, mi, wa, l0, l1, l2, te⟩ 4 = none := by unfold next; rw [if_neg (by decide), if_neg (by decide), if_pos (Or.inl h4)]
   rw [e1]
   exact aeP r ph be mi wa l0 l1 l2 te G h4 w
  | true =>
   cases l1 with
   | true =>
    have e1 : next r ⟨ph, be, mi, wa, l0, true, l2, te⟩ 4 = none := by unfold next; rw [if_neg (by decide), if_neg (by decide), if_pos (Or.inr (by rfl))]
    rw [e1]
    exact aeQ r ph be mi wa l0 l2 te G h4 w
   | false =>
    have hno : ¬ (iC ph 0 4 = false ∨ Rn.lost ⟨ph, be, mi, wa, l0, false, l2, te⟩ (VH 4) = wY 4) := by
     rw [h4]
     rintro (h | h)
     · cases h
     · exact absurd h (by show ¬ false = true; decide)
    have e1 : next r ⟨ph, be, mi, wa, l0, false, l2, te⟩ 4 = some (meet r ⟨ph, be, mi, wa, l0, true, l2, te⟩ 1) := by unfold next; rw [if_neg (by decide), if_neg (by decide), if_neg hno, if_pos (by decide)]; rfl
    rw [e1]
    exact ajN r ph be mi wa l0 l2 te G h4 w
 ·
  cases h4 : iC ph 0 4 with
  | false =>
   have e1 : next r ⟨ph, be, mi, wa, l0, l1, l2, te⟩ 5 = none := by unfold next; rw [if_neg (by decide), if_neg (by decide), if_pos (Or.inl h4)]
   rw [e1]
   exact aeT r ph be mi wa l0 l1 l2 te G h4 w
  | true =>
   cases l1 with
   | false =>
    have e1 : next r ⟨ph, be, mi, wa, l0, false, l2, te⟩ 5 = none := by unfold next; rw [if_neg (by decide), if_neg (by decide), if_pos (Or.inr (by rfl))]
    rw [e1]
    exact aeU r ph be mi wa l0 l2 te G h4 w
   | true =>
    have hno : ¬ (iC ph 0 4 = false ∨ Rn.lost ⟨ph, be, mi, wa, l0, true, l2, te⟩ (VH 5) = wY 5) := by
     rw [h4]
     rintro (h | h)
     · cases h
     · exact absurd h (by show ¬ true = false; decide)
    have e1 : next r ⟨ph, be, mi, wa, l0, true, l2, te⟩ 5 = some (iE r ⟨ph, be, mi, wa, l0, false, l2, te⟩) := by unfold next; rw [if_neg (by decide), if_neg (by decide), if_neg hno, if_neg (by decide)]; rfl
    rw [e1]
    by_cases hp : ph = 4
    ·
     subst hp
     have hbe : 1 ≤ be ∧ be ≤ 3 := by
      rcases hR with ⟨_, h, _⟩ | ⟨_, _, h, _⟩ | ⟨_, _, _, h⟩
      · exact h
      ·
       have : (1 : Int) ≤ 4 ∧ (4 : Int) ≤ 3 := h
       omega
      ·
       have : (4 : Int) = 0 ∨ (4 : Int) = 5 ∨ (4 : Int) = 6 ∨ (4 : Int) = 7 := h
       omega
     cases hh : gQ r ⟨4, be, mi, wa, l0, false, l2, te⟩ be with
     | true =>
      have e2 : iE r ⟨4, be, mi, wa, l0, false, l2, te⟩ = ⟨4, be, mi, wa, l0, false, l2, te⟩ := by unfold iE; rw [if_neg (by rintro ⟨_, h⟩; rw [show gQ r ⟨4, be, mi, wa, l0, false, l2, te⟩ be = true from hh] at h; cases h)]
      rw [e2]
      exact aeR r be mi wa l0 l2 te G hbe hh w
     | false =>
      have e2 : iE r ⟨4, be, mi, wa, l0, false, l2, te⟩ = ⟨be, 0, mi, 0, l0, false, l2, te⟩ := by unfold iE; rw [if_pos ⟨rfl, hh⟩]
      rw [e2]
      exact aeV r be mi wa l0 l2 te G hbe hh w
    ·
     have e2 : iE r ⟨ph, be, mi, wa, l0, false, l2, te⟩ = ⟨ph, be, mi, wa, l0, false, l2, te⟩ := by unfold iE; rw [if_neg (fun h => hp h.1)]
     rw [e2]
     exact aeS r ph be mi wa l0 l2 te G h4 hp w
 ·
  cases h4 : iC ph 0 4 with
  | false =>
   have e1 : next r ⟨ph, be, mi, wa, l0, l1, l2, te⟩ 6 = none := by unfold next; rw [if_neg (by decide), if_neg (by decide), if_pos (Or.inl h4)]
   rw [e1]
   exact aeW r ph be mi wa l0 l1 l2 te G h4 w
  | true =>
   cases l2 with
   | true =>
    have e1 : next r ⟨ph, be, mi, wa, l0, l1, true, te⟩ 6 = none := by unfold next; rw [if_neg (by decide), if_neg (by decide), if_pos (Or.inr (by rfl))]
    rw [e1]
    exact aeX r ph be mi wa l0 l1 te G h4 w
   | false =>
    have hno : ¬ (iC ph 0 4 = false ∨ Rn.lost ⟨ph, be, mi, wa, l0, l1, false, te⟩ (VH 6) = wY 6) := by
     rw [h4]
     rintro (h | h)
     · cases h
     · exact absurd h (by show ¬ false = true; decide)
    have e1 : next r ⟨ph, be, mi, wa, l0, l1, false, te⟩ 6 = some (meet r ⟨ph, be, mi, wa, l0, l1, true, te⟩ 2) := by unfold next; rw [if_neg (by decide), if_neg (by decide), if_neg hno, if_pos (by decide)]; rfl
    rw [e1]
    exact ajO r ph be mi wa l0 l1 te G h4 w
 ·
  cases h4 : iC ph 0 4 with
  | false =>
   have e1 : next r ⟨ph, be, mi, wa, l0, l1, l2, te⟩ 7 = none := by unfold next; rw [if_neg (by decide), if_neg (by decide), if_pos (Or.inl h4)]
   rw [e1]
   exact ae0 r ph be mi wa l0 l1 l2 te G h4 w
  | true =>
   cases l2 with
   | false =>
    have e1 : next r ⟨ph, be, mi, wa, l0, l1, false, te⟩ 7 = none := by unfold next; rw [if_neg (by decide), if_neg (by decide), if_pos (Or.inr (by rfl))]
    rw [e1]
    exact ae1 r ph be mi wa l0 l1 te G h4 w
   | true =>
    have hno : ¬ (iC ph 0 4 = false ∨ Rn.lost ⟨ph, be, mi, wa, l0, l1, true, te⟩ (VH 7) = wY 7) := by
     rw [h4]
     rintro (h | h)
     · cases h
     · exact absurd h (by show ¬ true = false; decide)
    have e1 : next r ⟨ph, be, mi, wa, l0, l1, true, te⟩ 7 = some (iE r ⟨ph, be, mi, wa, l0, l1, false, te⟩) := by unfold next; rw [if_neg (by decide), if_neg (by decide), if_neg hno, if_neg (by decide)]; rfl
    rw [e1]
    by_cases hp : ph = 4
    ·
     subst hp
     have hbe : 1 ≤ be ∧ be ≤ 3 := by
      rcases hR with ⟨_, h, _⟩ | ⟨_, _, h, _⟩ | ⟨_, _, _, h⟩
      · exact h
      ·
       have : (1 : Int) ≤ 4 ∧ (4 : Int) ≤ 3 := h
       omega
      ·
       have : (4 : Int) = 0 ∨ (4 : Int) = 5 ∨ (4 : Int) = 6 ∨ (4 : Int) = 7 := h
       omega
     cases hh : gQ r ⟨4, be, mi, wa, l0, l1, false, te⟩ be with
     | true =>
      have e2 : iE r ⟨4, be, mi, wa, l0, l1, false, te⟩ = ⟨4, be, mi, wa, l0, l1, false, te⟩ := by unfold iE; rw [if_neg (by rintro ⟨_, h⟩; rw [show gQ r ⟨4, be, mi, wa, l0, l1, false, te⟩ be = true from hh] at h; cases h)]
      rw [e2]
      exact aeY r be mi wa l0 l1 te G hbe hh w
     | false =>
      have e2 : iE r ⟨4, be, mi, wa, l0, l1, false, te⟩ = ⟨be, 0, mi, 0, l0, l1, false, te⟩ := by unfold iE; rw [if_pos ⟨rfl, hh⟩]
      rw [e2]
      exact ae2 r be mi wa l0 l1 te G hbe hh w
    ·
     have e2 : iE r ⟨ph, be, mi, wa, l0, l1, false, te⟩ = ⟨ph, be, mi, wa, l0, l1, false, te⟩ := by unfold iE; rw [if_neg (fun h => hp h.1)]
     rw [e2]
     exact aeZ r ph be mi wa l0 l1 te G h4 hp w
def w_ (r : Ru) (i : Nat) : Nat → Bool
 | 0 => iC (r.mn ((i : Int) + 1)) 1 256
 | d + 1 => w_ r i d && iC (r.tb ((i : Int) + 1) d) 0 3
def NH (r : Ru) : Nat → Bool
 | 0 => iC r.pa 0 256
 | i + 1 => NH r i && w_ r i 3
theorem Qn (r : Ru) : NH r 3 = oM r := by
 show (((iC r.pa 0 256 && (((iC r.m0 1 256 && iC r.t00 0 3) && iC r.t01 0 3) && iC r.t02 0 3)) && (((iC r.m1 1 256 && iC r.t10 0 3) && iC r.t11 0 3) && iC r.t12 0 3)) && (((iC r.m2 1 256 && iC r.t20 0 3) && iC r.t21 0 3) && iC r.t22 0 3)) = oM r
 unfold oM
 simp only [Bool.and_assoc]
def qJ (r : Ru) : Int := if oM r then 0 else 1
theorem BH (t0 t1 t2 : Int) (d : Nat) (hd : d < 3) (w : World) : (Instr.index 60 (.agg #[.int .i64 t0, .int .i64 t1, .int .i64 t2]) (.int .i64 d)).run Tryz.prog w = .ok (.int .i64 (if d = 0 then t0 else if d = 1 then t1 else t2)) w := by
 rcases (show d = 0 ∨ d = 1 ∨ d = 2 by omega) with rfl | rfl | rfl
 · exact (show (Instr.index 60 (.agg #[.int .i64 t0, .int .i64 t1, .int .i64 t2]) (.int .i64 0)).run Tryz.prog w = .ok (.int .i64 t0) w by kernel_rfl)
 · exact (show (Instr.index 60 (.agg #[.int .i64 t0, .int .i64 t1, .int .i64 t2]) (.int .i64 1)).run Tryz.prog w = .ok (.int .i64 t1) w by kernel_rfl)
 · exact (show (Instr.index 60 (.agg #[.int .i64 t0, .int .i64 t1, .int .i64 t2]) (.int .i64 2)).run Tryz.prog w = .ok (.int .i64 t2) w by kernel_rfl)
theorem box1 (w : World) (cs : Array Value) (T : Nat) (W : World) (hW : W = w.alloc (.cells cs T)) : Below w.heap.size w W ∧ W.heap[w.heap.size]? = some (.cells cs T (0, 0)) := by
 subst hW
 exact ⟨gJ _ _, aV _ _ _⟩
theorem qH (r : Ru) (w : World) : Calls Tryz.prog 30 #[rZ r] w (adK (qJ r) (w.alloc (Oc r))) := by
 go_enter Tryz.func30, Tryz.ntmps30
 go_wp2_with fail
 refine (eH _ _ _ _).mono ?_
 rintro e w1 ⟨rfl, rfl⟩
 go_wp2_with fail
 have H0 : Hid (NH r 0 = iC r.pa 0 256) := rfl
 generalize iC r.pa 0 256 = b0 at *
 generalize hW0 : w.alloc (.cells (yF r) 63) = W at *
 obtain ⟨hal, hB1⟩ := box1 w _ _ W hW0.symm
 have HB1 := ae hB1
 have HW0 := ae hW0
 clear hal hB1 hW0
 go_loopw [3, 10] (fun b iv wr => ∃ (i : Nat) (ok : Bool), i ≤ 3 ∧ b = .bool ok ∧ iv = .int .i64 i ∧ wr = W ∧ Hid (NH r i = ok))
  (fun _ iv _ => 3 - (intOf iv).toNat)
 case atStart => exact ⟨0, b0, by omega, rfl, rfl, rfl, H0⟩
 case round =>
  obtain ⟨i, ok, hi, rfl, rfl, rfl, HO⟩ := hrel
  by_cases hlt : i < 3
  ·
   have hlt' : (i : Int) < 3 := by omega
   have hi0 : (0 : Int) ≤ i := by omega
   have gq := ae hlt
   have k8 := af HB1.out _ _ (ab9 r i hlt)
   have c0 := af HB1.out _ _ (Gm r i 0 hlt (by omega))
   have c1 := af HB1.out _ _ (Gm r i 1 hlt (by omega))
   have c2 := af HB1.out _ _ (Gm r i 2 hlt (by omega))
   rw [Nat.add_zero] at c0
   have H1 : Hid (w_ r i 0 = iC (r.mn ((i : Int) + 1)) 1 256) := rfl
   have HT : Hid (∀ d, d < 3 → (if d = 0 then r.tb ((i : Int) + 1) 0 else if d = 1 then r.tb ((i : Int) + 1) 1 else r.tb ((i : Int) + 1) 2) = r.tb ((i : Int) + 1) d) := fun d hd => by
    rcases (show d = 0 ∨ d = 1 ∨ d = 2 by omega) with rfl | rfl | rfl <;> rfl
   generalize hT0 : r.tb ((i : Int) + 1) 0 = t0 at *
   generalize hT1 : r.tb ((i : Int) + 1) 1 = t1 at *
   generalize hT2 : r.tb ((i : Int) + 1) 2 = t2 at *
   generalize r.mn ((i : Int) + 1) = m at *
   clear hT0 hT1 hT2 hlt
   cases ok with
   | true =>
    go_wp2_with fail
    refine (eH _ _ _ _).mono ?_
    rintro e w1 ⟨rfl, rfl⟩
    go_wp2_with fail
    have HB0 : Hid ((NH r i && w_ r i 0) = iC m 1 256) := by
     show _ = _
     rw [HO.out, H1.out]
     rfl
    obtain ⟨wo, rfl⟩ : ∃ wo, wo = wr := ⟨_, rfl⟩
    go_loopw [3, 25] (fun b iv wr => ∃ (d : Nat) (ok : Bool), d ≤ 3 ∧ b = .bool ok ∧ iv = .int .i64 d ∧ wo = wr ∧ Hid ((NH r i && w_ r i d) = ok))
     (fun _ iv _ => 3 - (intOf iv).toNat)
    case atStart => exact ⟨0, _, by omega, rfl, rfl, rfl, HB0⟩
    case round =>
     obtain ⟨d, ok, hd, rfl, rfl, rfl, HD⟩ := hrel
     by_cases hdl : d < 3
     ·
      have apS : (d : Int) < 3 := by omega
      have hd0 : (0 : Int) ≤ d := by omega
      have HDL := ae hdl
      have hix := BH t0 t1 t2 d hdl wo
      rw [HT.out d hdl] at hix
      have H2 : Hid (w_ r i (d + 1) = (w_ r i d && iC (r.tb ((i : Int) + 1) d) 0 3)) := rfl
      generalize r.tb ((i : Int) + 1) d = t at *
      clear hdl c0 c1 c2 k8
      cases ok with
      | true =>
       go_wp2_with fail
       refine (eH _ _ _ _).mono ?_
       rintro e w1 ⟨rfl, rfl⟩
       go_wp2_with fail
       refine ⟨⟨d + 1, _, by have := HDL.out; omega, rfl, by go_num, by first | rfl | trivial, ?_⟩, bU HDL.out⟩
       show _ = _
       rw [H2.out, ← Bool.and_assoc, HD.out]
       rfl
      | false =>
       go_wp2_with fail
       refine ⟨⟨d + 1, _, by have := HDL.out; omega, rfl, by go_num, by first | rfl | trivial, ?_⟩, bU HDL.out⟩
       show _ = _
       rw [H2.out, ← Bool.and_assoc, HD.out]
       rfl
     ·
      obtain rfl : d = 3 := by omega
      clear c0 c1 c2 k8
      go_wp2_with fail
      exact ⟨⟨i + 1, ok, by have := gq.out; omega, rfl, by go_num, by first | rfl | trivial, HD⟩, bU gq.out⟩
   | false =>
    go_wp2_with fail
    have HB0 : Hid ((NH r i && w_ r i 0) = false) := by
     show _ = _
     rw [HO.out]
     rfl
    obtain ⟨wo, rfl⟩ : ∃ wo, wo = wr := ⟨_, rfl⟩
    go_loopw [3, 25] (fun b iv wr => ∃ (d : Nat) (ok : Bool), d ≤ 3 ∧ b = .bool ok ∧ iv = .int .i64 d ∧ wo = wr ∧ Hid ((NH r i && w_ r i d) = ok))
     (fun _ iv _ => 3 - (intOf iv).toNat)
    case atStart => exact ⟨0, _, by omega, rfl, rfl, rfl, HB0⟩
    case round =>
     obtain ⟨d, ok, hd, rfl, rfl, rfl, HD⟩ := hrel
     by_cases hdl : d < 3
     ·
      have apS : (d : Int) < 3 := by omega
      have hd0 : (0 : Int) ≤ d := by omega
      have HDL := ae hdl
      have hix := BH t0 t1 t2 d hdl wo
      rw [HT.out d hdl] at hix
      have H2 : Hid (w_ r i (d + 1) = (w_ r i d && iC (r.tb ((i : Int) + 1) d) 0 3)) := rfl
      generalize r.tb ((i : Int) + 1) d = t at *
      clear hdl c0 c1 c2 k8
      cases ok with
      | true =>
       go_wp2_with fail
       refine (eH _ _ _ _).mono ?_
       rintro e w1 ⟨rfl, rfl⟩
       go_wp2_with fail
       refine ⟨⟨d + 1, _, by have := HDL.out; omega, rfl, by go_num, by first | rfl | trivial, ?_⟩, bU HDL.out⟩
       show _ = _
       rw [H2.out, ← Bool.and_assoc, HD.out]
       rfl
      | false =>
       go_wp2_with fail
       refine ⟨⟨d + 1, _, by have := HDL.out; omega, rfl, by go_num, by first | rfl | trivial, ?_⟩, bU HDL.out⟩
       show _ = _
       rw [H2.out, ← Bool.and_assoc, HD.out]
       rfl
     ·
      obtain rfl : d = 3 := by omega
      clear c0 c1 c2 k8
      go_wp2_with fail
      exact ⟨⟨i + 1, ok, by have := gq.out; omega, rfl, by go_num, by first | rfl | trivial, HD⟩, bU gq.out⟩
  ·
   obtain rfl : i = 3 := by omega
   have he : Hid (qJ r = if ok then 0 else 1) := by
    show _ = _
    unfold qJ
    rw [← Qn, HO.out]
   cases ok with
   | true =>
    go_wp2_with fail
    go_ret
    exact ⟨by rw [he.out]; rfl, rfl⟩
   | false =>
    go_wp2_with fail
    go_ret
    exact ⟨by rw [he.out]; rfl, rfl⟩
def yL (w : World) (v : Value) (es : List Int) : Prop :=
 ∃ ao cap, v = .slice ao es.length cap ∧ (0 < es.length → ∃ b off, ao = some ⟨b, off, none⟩ ∧ b < w.heap.size ∧ ∀ i, i < es.length → w.cell? ⟨b, off + i, none⟩ = some (.int .i64 (es.getD i 0)))
theorem yL.below {w w' : World} {v : Value} {es : List Int} (h : yL w v es) (hb : Below w.heap.size w w') : yL w' v es := by
 obtain ⟨ao, cap, rfl, h⟩ := h
 refine ⟨ao, cap, rfl, fun hl => ?_⟩
 obtain ⟨b, off, rfl, hlt, h⟩ := h hl
 exact ⟨b, off, rfl, Nat.lt_of_lt_of_le hlt hb.size, fun i hi => (hb.cell (p := ⟨b, off + i, none⟩) hlt).trans (h i hi)⟩
def vz (es : List Int) : Bool := es.all fun e => iC e 0 7
def aav (r : Ru) (es : List Int) : Rn × Nat × Int :=
 if oM r then (if 256 < es.length then (lH, 0, 4) else if vz es then ((pY r es).1, (pY r es).2, 0) else (lH, 0, 1)) else (lH, 0, 1)
def RF (p : Rn × Nat × Int) (w : World) (e : Ending) (w' : World) : Prop := e = .returned (.tuple #[iq p.1, .int .i64 p.2.1, .int .i64 p.2.2]) ∧ Below w.heap.size w w'
theorem XC {es : List Int} {i : Nat} (hi : i < es.length) (h : iC (es.getD i 0) 0 7 = false) : vz es = false := by
 unfold vz
 rw [List.all_eq_false]
 refine ⟨es.getD i 0, ?_, by rw [h]; decide⟩
 rw [List.getD_eq_getElem?_getD, List.getElem?_eq_getElem hi]
 exact List.getElem_mem hi
theorem Ua {es : List Int} (h : ∀ i, i < es.length → iC (es.getD i 0) 0 7 = true) : vz es = true := by
 unfold vz
 rw [List.all_eq_true]
 intro e he
 obtain ⟨i, hi, rfl⟩ := List.mem_iff_getElem.1 he
 have := h i hi
 rw [List.getD_eq_getElem?_getD, List.getElem?_eq_getElem hi] at this
 exact this
theorem H_ {es : List Int} (h : vz es = true) : ∀ e ∈ es, 0 ≤ e ∧ e ≤ 7 := fun e he => by
 have := List.all_eq_true.1 h e he
 unfold iC at this
 simpa using this
theorem ae5 (r : Ru) (es : List Int) : ∀ s : Rn × Nat, (es.foldl (kT r) s).2 ≤ s.2 + es.length := by
 induction es with
 | nil => intro s; simp
 | cons e es ih =>
  intro s
  refine Nat.le_trans (ih _) ?_
  have : (kT r s e).2 ≤ s.2 + 1 := by
   unfold kT
   split
   · exact Nat.le_refl _
   · omega
  simp
  omega
theorem adS (w : World) (r : Ru) (c d : Rn) (W : World) (hW : W = (((w.alloc (Oc r)).alloc (yE c)).alloc (Oc r)).alloc (yE d)) :
  Below w.heap.size w W ∧ W.heap[w.heap.size]? = some (Oc r) ∧ W.heap[w.heap.size + 1]? = some (yE c) ∧ W.heap[w.heap.size + 1 + 1 + 1]? = some (yE d) := by
 subst hW
 have e1 : (w.alloc (Oc r)).heap.size = w.heap.size + 1 := World.size_alloc ..
 have e2 : ((w.alloc (Oc r)).alloc (yE c)).heap.size = w.heap.size + 1 + 1 := by rw [World.size_alloc, e1]
 have e3 : (((w.alloc (Oc r)).alloc (yE c)).alloc (Oc r)).heap.size = w.heap.size + 1 + 1 + 1 := by rw [World.size_alloc, e2]
 have a1 := heap_alloc_new w (Oc r)
 have a2 := heap_alloc_new (w.alloc (Oc r)) (yE c)
 rw [e1] at a2
 have a1' := (heap_alloc_old _ (yE c) (ai a1)).trans a1
 have a4 := heap_alloc_new (((w.alloc (Oc r)).alloc (yE c)).alloc (Oc r)) (yE d)
 rw [e3] at a4
 have b1 := (heap_alloc_old _ (Oc r) (ai a1')).trans a1'
 have b2 := (heap_alloc_old _ (Oc r) (ai a2)).trans a2
 exact ⟨ba (ba (below2 _ _ _)), (heap_alloc_old _ _ (ai b1)).trans b1, (heap_alloc_old _ _ (ai b2)).trans b2, a4⟩
theorem Xq (r : Ru) (ve : Value) (h : oM r = false) (w : World) : Calls Tryz.prog 17 #[rZ r, ve] w (RF (lH, 0, 1) w) := by
 have he : qJ r = 1 := by unfold qJ; rw [h]; rfl
 clear h
 go_enter Tryz.func17, Tryz.ntmps17
 go_wp2_with fail
 refine (qH r _).mono ?_
 rintro e w1 ⟨rfl, rfl⟩
 rw [he]
 go_wp2_with fail
 refine bodyPost_ret (v := .tuple #[iq lH, .int .i64 0, .int .i64 1]) (by simp [results, Tryz.results17, go_sem, lH]) rfl ⟨rfl, ?_⟩
 exact ba (below2 _ _ _)
theorem T_ (r : Ru) (es : List Int) (ve : Value) (h : oM r = true) (w : World) (hv : yL w ve es) :
  Calls Tryz.prog 17 #[rZ r, ve] w (RF (if 256 < es.length then (lH, 0, 4) else if vz es then ((pY r es).1, (pY r es).2, 0) else (lH, 0, 1)) w) := by
 have he : qJ r = 0 := by unfold qJ; rw [h]; rfl
 have HG := ae (KH h)
 clear h
 obtain ⟨q, hq⟩ : ∃ q, q = (if 256 < es.length then (lH, 0, (4 : Int)) else if vz es then ((pY r es).1, (pY r es).2, 0) else (lH, 0, 1)) := ⟨_, rfl⟩
 rw [← hq]
 have HQ := ae hq
 clear hq
 obtain ⟨ao, cap, rfl, hE⟩ := hv
 have HE := ae hE
 clear hE
 by_cases h1 : 256 < es.length
 ·
  have t1 : decide ((es.length : Int) > 256) = true := by simp; omega
  have HQ2 : Hid (q = (lH, 0, 4)) := by show _ = _; rw [HQ.out, if_pos h1]
  clear h1 HQ
  go_enter Tryz.func17, Tryz.ntmps17
  go_wp2_with fail
  refine (qH r _).mono ?_
  rintro e w1 ⟨rfl, rfl⟩
  rw [he]
  go_wp2_with fail
  refine bodyPost_ret (v := .tuple #[iq lH, .int .i64 0, .int .i64 4]) (by simp [results, Tryz.results17, go_sem, lH]) rfl ⟨by rw [HQ2.out]; rfl, ?_⟩
  exact ba (below2 _ _ _)
 ·
  have t1 : decide ((es.length : Int) > 256) = false := by simp; omega
  have HQ2 : Hid (q = if vz es then ((pY r es).1, (pY r es).2, 0) else (lH, 0, 1)) := by show _ = _; rw [HQ.out, if_neg h1]
  have HL : Hid (es.length ≤ 256) := by show _ ≤ _; omega
  clear h1 HQ
  go_enter Tryz.func17, Tryz.ntmps17
  go_wp2_with fail
  refine (qH r _).mono ?_
  rintro e w1 ⟨rfl, rfl⟩
  rw [he]
  go_wp2_with fail
  generalize hW0 : ((w.alloc (.cells (yF r) 63)).alloc (.cells (zf ⟨0, 0, 0, 0, false, false, false, false⟩) 66)).alloc (.cells (yF r) 63) = W at *
  have hbW : Below w.heap.size w W := by rw [← hW0]; exact ba (below2 _ _ _)
  obtain ⟨hbX, x1, x2, x4⟩ := adS w r ⟨0, 0, 0, 0, false, false, false, false⟩ ⟨0, 0, 0, 0, false, false, false, false⟩ _ rfl
  have amc : Below w.heap.size w (W.alloc (yE ⟨0, 0, 0, 0, false, false, false, false⟩)) := by rw [← hW0]; exact hbX
  have x1' : (W.alloc (yE ⟨0, 0, 0, 0, false, false, false, false⟩)).heap[w.heap.size]? = some (Oc r) := by rw [← hW0]; exact x1
  have x2' : (W.alloc (yE ⟨0, 0, 0, 0, false, false, false, false⟩)).heap[w.heap.size + 1]? = some (yE ⟨0, 0, 0, 0, false, false, false, false⟩) := by rw [← hW0]; exact x2
  have x4' : (W.alloc (yE ⟨0, 0, 0, 0, false, false, false, false⟩)).heap[W.heap.size]? = some (yE ⟨0, 0, 0, 0, false, false, false, false⟩) := heap_alloc_new W _
  have hsz : W.heap.size = w.heap.size + 1 + 1 + 1 := by rw [← hW0, World.size_alloc, World.size_alloc, World.size_alloc]
  have HBW := ae hbW
  have HBX := ae amc
  have X1 := ae x1'
  have X2 := ae x2'
  have X4 := ae x4'
  have KU := ae hsz
  have HW0 := ae hW0
  have HEA : Hid (0 < es.length → ∃ b off, ao = some ⟨b, off, none⟩ ∧ b < w.heap.size ∧ ∀ w', Below w.heap.size w w' → ∀ i, i < es.length → w'.cell? ⟨b, off + i, none⟩ = some (.int .i64 (es.getD i 0))) := fun hl => by
   obtain ⟨b, off, h1, h2, h3⟩ := HE.out hl
   exact ⟨b, off, h1, h2, fun w' hb i hi => (hb.cell (p := ⟨b, off + i, none⟩) h2).trans (h3 i hi)⟩
  have X2W : Hid (W.heap[w.heap.size + 1]? = some (.cells (zf ⟨0, 0, 0, 0, false, false, false, false⟩) 66 (0, 0))) := by
   have := heap_alloc_old W (yE ⟨0, 0, 0, 0, false, false, false, false⟩) (show w.heap.size + 1 < W.heap.size by omega)
   exact this.symm.trans x2'
  have hlen := HL.out
  clear hbW hbX x1 x2 x4 amc x1' x2' x4' hsz hW0 HE he t1
  go_loopw [28] (fun iv wr => ∃ (i : Nat), i ≤ es.length ∧ iv = .int .i64 i ∧ W = wr ∧ Hid (∀ k, k < i → iC (es.getD k 0) 0 7 = true))
   (fun iv _ => es.length - (intOf iv).toNat)
  case atStart => exact ⟨0, by omega, rfl, rfl, fun k hk => absurd hk (by omega)⟩
  case round =>
   obtain ⟨i, hi, rfl, rfl, HK⟩ := hrel
   by_cases hlt : i < es.length
   ·
    obtain ⟨b, off, rfl, hbl, hc⟩ := HEA.out (by omega)
    have g0 := hc W HBW.out i hlt
    have hlt' : (i : Int) < es.length := by omega
    have hge' : (0 : Int) ≤ i := by omega
    have gq := ae hlt
    have HNO : Hid (iC (es.getD i 0) 0 7 = false → vz es = false) := fun h => XC gq.out h
    have HYE : Hid (iC (es.getD i 0) 0 7 = true → ∀ k, k < i + 1 → iC (es.getD k 0) 0 7 = true) := fun h k hk => by
     rcases Nat.lt_or_ge k i with h' | h'
     · exact HK.out k h'
     ·
      rw [show k = i from by omega]
      exact h
    clear hlt hc
    generalize hev : es.getD i 0 = ev at *
    clear hev
    go_wp2_with fail
    refine (eH _ _ _ _).mono ?_
    rintro e w1 ⟨rfl, rfl⟩
    cases hin : iC ev 0 7 with
    | true =>
     have HY := ae (HYE.out hin)
     clear hin HYE HNO
     go_wp2_with fail
     exact ⟨⟨i + 1, by have := gq.out; omega, by go_num, by first | rfl | trivial, HY⟩, bU gq.out⟩
    | false =>
     have HN := ae (HNO.out hin)
     have HQ3 : Hid (q = (lH, 0, 1)) := by show _ = _; rw [HQ2.out, HN.out]; rfl
     clear hin HYE HNO HQ2
     obtain ⟨f0, f1, f2, f3, f4, f5, f6, f7⟩ := Ob (x := ⟨0, 0, 0, 0, false, false, false, false⟩) X2W.out
     obtain ⟨g0, g1, g2, g3, g4, g5, g6, g7⟩ := rY (x := ⟨0, 0, 0, 0, false, false, false, false⟩) X2W.out
     go_wp2_with fail
     obtain ⟨h0, h1, h2, h3, h4, h5, h6, h7⟩ := rY (x := lH) (tC (u0 := .int .i64 0) (u1 := .int .i64 0) (u2 := .int .i64 0) (u3 := .int .i64 0) (u4 := .bool false) (u5 := .bool false) (u6 := .bool false) (u7 := .bool false) X2W.out)
     refine bodyPost_ret (v := .tuple #[iq lH, .int .i64 0, .int .i64 1]) (by simp [results, Tryz.results17, go_sem, h0, h1, h2, h3, h4, h5, h6, h7]) rfl ⟨?_, dE HBW.out (by omega)⟩
     rw [HQ3.out]
     rfl
   ·
    obtain rfl : i = es.length := by omega
    have HA : Hid (vz es = true) := Ua HK.out
    have HQ3 : Hid (q = ((pY r es).1, (pY r es).2, 0)) := by show _ = _; rw [HQ2.out, HA.out]; rfl
    clear HQ2 HK hlt
    go_wp2_with fail
    go_loopw [11, 39] (fun nv iv wr => ∃ (i : Nat), i ≤ es.length ∧ iv = .int .i64 i ∧ nv = .int .i64 (pY r (es.take i)).2 ∧ Hid (wr.heap[w.heap.size]? = some (Oc r)) ∧ Hid (wr.heap[w.heap.size + 1]? = some (yE ⟨0, 0, 0, 0, false, false, false, false⟩)) ∧ Hid (wr.heap[W.heap.size]? = some (yE (pY r (es.take i)).1)) ∧ Hid (Below w.heap.size w wr))
     (fun _ iv _ => es.length - (intOf iv).toNat)
    case atStart => exact ⟨0, by omega, rfl, rfl, X1, X2, X4, HBX⟩
    case round =>
     obtain ⟨i, hi, rfl, rfl, K1, K2, K4, KB⟩ := hrel
     by_cases hlt : i < es.length
     ·
      obtain ⟨b, off, rfl, hbl, hc⟩ := HEA.out (by omega)
      have g0 := hc _ KB.out i hlt
      have hlt' : (i : Int) < es.length := by omega
      have hge' : (0 : Int) ≤ i := by omega
      have gq := ae hlt
      have HR : Hid (Right r (pY r (es.take i)).1) := Qr HG.out _ (fun e he => (H_ HA.out e (List.mem_of_mem_take he)).2)
      have HEV : Hid (0 ≤ es.getD i 0 ∧ es.getD i 0 ≤ 7) := H_ HA.out _ (by rw [List.getD_eq_getElem?_getD, List.getElem?_eq_getElem hlt]; exact List.getElem_mem hlt)
      have HS : Hid (pY r (es.take (i + 1)) = kT r (pY r (es.take i)) (es.getD i 0)) := U9 hlt
      have hn : (pY r (es.take i)).2 ≤ es.length := by
       have := ae5 r (es.take i) (lH, 0)
       simp at this
       show (List.foldl (kT r) (lH, 0) (List.take i es)).snd ≤ _
       omega
      clear hlt hc
      generalize pY r (es.take i) = s at *
      generalize es.getD i 0 = ev at *
      obtain ⟨y, n⟩ := s
      have hn' : n ≤ es.length := hn
      clear hn
      obtain ⟨m0, m1, m2, m3, m4, m5, m6, m7, m8, m9, m10, m11, m12⟩ := aks K1.out
      obtain ⟨k0, k1, k2, k3, k4, k5, k6, k7⟩ := rY K4.out
      go_wp2_with fail
      refine (next_any r y ev HG.out HR.out HEV.out _).mono ?_
      rintro e w1 ⟨rfl, hb⟩
      have E1 := ae (ay K1.out hb (ai K1.out))
      have E2 := ae (ay K2.out hb (ai K2.out))
      have E4 := ae (ay K4.out hb (ai K4.out))
      have EB := ae (KB.out.trans (hb.mono KB.out.size))
      clear m0 m1 m2 m3 m4 m5 m6 m7 m8 m9 m10 m11 m12 k0 k1 k2 k3 k4 k5 k6 k7 hb g0
      cases hx : next r y ev with
      | none =>
       have HS2 : Hid (pY r (es.take (i + 1)) = (y, n)) := by
        show _ = _
        rw [HS.out]
        unfold kT
        rw [show (y, n).1 = y from rfl, hx]
       clear hx HS
       go_wp2_with fail
       exact ⟨⟨i + 1, by have := gq.out; omega, by go_num, by rw [HS2.out], (heap_alloc_old _ _ (ai E1.out)).trans E1.out, (heap_alloc_old _ _ (ai E2.out)).trans E2.out, by rw [HS2.out]; exact (heap_alloc_old _ _ (ai E4.out)).trans E4.out, ba EB.out⟩, bU gq.out⟩
      | some z =>
       have HS2 : Hid (pY r (es.take (i + 1)) = (z, n + 1)) := by
        show _ = _
        rw [HS.out]
        unfold kT
        rw [show (y, n).1 = y from rfl, hx]
       clear hx HS
       have L4 := ae ((heap_alloc_old _ (yE z) (ai E4.out)).trans E4.out)
       have L2 := ae ((heap_alloc_old _ (yE z) (ai E2.out)).trans E2.out)
       have L1 := ae ((heap_alloc_old _ (yE z) (ai E1.out)).trans E1.out)
       obtain ⟨f0, f1, f2, f3, f4, f5, f6, f7⟩ := Ob L4.out
       obtain ⟨g0, g1, g2, g3, g4, g5, g6, g7⟩ := rY L4.out
       go_wp2_with fail
       refine ⟨⟨i + 1, by have := gq.out; omega, by go_num, ?_, Qp L1.out (by have := KU.out; omega), Qp L2.out (by have := KU.out; omega), (by rw [HS2.out]; exact tC L4.out), dE (ba EB.out) (by have := KU.out; omega)⟩, bU gq.out⟩
       rw [HS2.out]
       go_num
     ·
      obtain rfl : i = es.length := by omega
      rw [List.take_length] at *
      generalize pY r es = s at *
      obtain ⟨y, n⟩ := s
      have HQ4 : Hid (q = (y, n, 0)) := HQ3.out
      clear HQ3
      obtain ⟨k0, k1, k2, k3, k4, k5, k6, k7⟩ := rY K4.out
      obtain ⟨f0, f1, f2, f3, f4, f5, f6, f7⟩ := Ob (x := ⟨0, 0, 0, 0, false, false, false, false⟩) K2.out
      obtain ⟨g0, g1, g2, g3, g4, g5, g6, g7⟩ := rY (x := ⟨0, 0, 0, 0, false, false, false, false⟩) K2.out
      go_wp2_with fail
      obtain ⟨h0, h1, h2, h3, h4, h5, h6, h7⟩ := rY (x := y) (tC (u0 := .int .i64 y.ph) (u1 := .int .i64 y.be) (u2 := .int .i64 y.mi) (u3 := .int .i64 y.wa) (u4 := .bool y.l0) (u5 := .bool y.l1) (u6 := .bool y.l2) (u7 := .bool y.te) K2.out)
      refine bodyPost_ret (v := .tuple #[iq y, .int .i64 n, .int .i64 0]) (by simp [results, Tryz.results17, go_sem, h0, h1, h2, h3, h4, h5, h6, h7]) rfl ⟨?_, dE KB.out (by omega)⟩
      rw [HQ4.out]
theorem Xp (r : Ru) (es : List Int) (ve : Value) (w : World) (hv : yL w ve es) : Calls Tryz.prog 17 #[rZ r, ve] w (RF (aav r es) w) := by
 unfold aav
 cases h : oM r with
 | false => exact Xq r ve h w
 | true => exact T_ r es ve h w hv
end Go.Proofs.YtkblihocfapklaaGreat
namespace Go.Proofs.YtkblihocfapklaaGreat
open Go.RowKit Go.Shelf
def eP (l : List UInt8) : ByteArray := ⟨l.toArray⟩
theorem jO (l : List UInt8) : (eP l).size = l.length := rfl
theorem kW (a b : List UInt8) : eP a ++ eP b = eP (a ++ b) := by
 apply ByteArray.ext
 simp [eP, ByteArray.data_append]
def Ja (l : List UInt8) (w : World) (e : Ending) (w' : World) : Prop := e = .returned (.string (eP l)) ∧ Below w.heap.size w w'
theorem NY (c : Nat) : Lib.repeatL [48] c = List.replicate c 48 := by
 induction c with
 | zero => rfl
 | succ c ih => rw [Lib.repeatL, ih]; rfl
def tN (w : World) (B n m : Nat) : Prop := ∃ cs : List Value, cs.length = 20 ∧ w.heap[B]? = some (.cells cs.toArray 147 (0, 0)) ∧ cs.drop (20 - m) = (yR n m).map fun c => Value.int .u8 c.toNat
theorem tN.bytes {w : World} {B n m : Nat} (h : tN w B n m) (hm : m ≤ 20) (hl : (yR n m).length = m) : Lib.Bytes w B (20 - m) (eP (yR n m)) := by
 obtain ⟨cs, hc, hh, hd⟩ := h
 intro i hi
 rw [jO] at hi
 rw [cell_of_row w B _ _ _ (0, 0) hh]
 have e : cs[20 - m + i]? = ((yR n m).map fun c => Value.int .u8 c.toNat)[i]? := by rw [← hd, List.getElem?_drop]
 simp only [List.getElem?_toArray]
 rw [e, List.getElem?_map, List.getElem?_eq_getElem hi]
 rfl
theorem tN.step {w : World} {B n m k : Nat} (h : tN w B n m) (hk : k + 1 + m = 20) (h0 : n / 10 ^ m ≠ 0) (v : Value) (hv : v = .int .u8 (chD (n / 10 ^ m % 10)).toNat) : tN (w.setCell ⟨B, k, none⟩ v) B n (m + 1) := by
 obtain ⟨cs, hc, hh, hd⟩ := h
 refine ⟨cs.set k v, by simp [hc], ?_, ?_⟩
 ·
  rw [heap_setCell_same w B k _ _ _ hh]
  simp
 ·
  rw [Ul n m h0, List.map_cons, ← hd, hv]
  rw [show 20 - (m + 1) = k by omega, show 20 - m = k + 1 by omega]
  rw [List.drop_eq_getElem_cons (by simp [hc]; omega)]
  simp [List.drop_set]
theorem tN.cell {w : World} {B n m : Nat} (h : tN w B n m) (k : Nat) (hk : k < 20) : ∃ v, w.cell? ⟨B, k, none⟩ = some v ∧ w.frozen? ⟨B, k, none⟩ = false := by
 obtain ⟨cs, hc, hh, hd⟩ := h
 refine ⟨cs[k], ?_, frozen_of_row w B k _ _ hh⟩
 rw [cell_of_row w B k _ _ (0, 0) hh]
 simp [hc, hk]
theorem RS : Tryz.prog.arrayLen 147 = 20 := by kernel_rfl
theorem ag0 : Tryz.prog.underlying 147 = some (.array (Tryz.prog.arrayLen 147) (Tryz.prog.elem 147)) := by kernel_rfl
theorem acg (w : World) : (sizeOf (Tryz.prog.elem 147)).run Tryz.prog w = .ok 1 w := by kernel_rfl
theorem afE (B a : Nat) (ha : a < 20) (w : World) : (Instr.sliceAt 147 (.pointer (some ⟨B, 0, none⟩)) (some (.int .i64 (a : Int))) none none).run Tryz.prog w = .ok (.slice (some ⟨B, a, none⟩) (20 - a) (20 - a)) w := by
 rw [run_sliceAt_array_l w _ _ ag0 .i64 a (by omega) (by rw [RS]; omega), acg, RS]
 have h : ¬ 20 = a := by omega
 have e : (⟨B, 0, none⟩ : Addr).add (a * 1) = ⟨B, a, none⟩ := by unfold Addr.add; split <;> simp_all
 simp only [Result.andThen_ok, slicedAt, Int.toNat_natCast, if_neg h, e]
theorem Oh (B : Nat) (w : World) : (Instr.sliceAt 147 (.pointer (some ⟨B, 0, none⟩)) (some (.int .i64 ((20 : Nat) : Int))) none none).run Tryz.prog w = .ok (.slice (some ⟨B, 0, none⟩) 0 0) w := by
 rw [run_sliceAt_array_l w _ _ ag0 .i64 _ (by omega) (by rw [RS]; omega), acg, RS]
 simp [slicedAt]
theorem LU (n : Nat) (w : World) (hn : n < ak) : Calls Tryz.prog 82 #[.int .u64 n] w (Ja (mP n) w) := by
 have h20 : n / 10 ^ 20 = 0 := Nat.div_eq_of_lt (by unfold ak at hn; omega)
 have H20 := ae h20
 have hN : tN (w.alloc (.cells #[.int .u8 0, .int .u8 0, .int .u8 0, .int .u8 0, .int .u8 0, .int .u8 0, .int .u8 0, .int .u8 0, .int .u8 0, .int .u8 0, .int .u8 0, .int .u8 0, .int .u8 0, .int .u8 0, .int .u8 0, .int .u8 0, .int .u8 0, .int .u8 0, .int .u8 0, .int .u8 0] 147)) w.heap.size n 0 :=
  ⟨List.replicate 20 (.int .u8 0), by simp, aV w _ _, by simp [yR]⟩
 have hal : Below w.heap.size w (w.alloc (.cells #[.int .u8 0, .int .u8 0, .int .u8 0, .int .u8 0, .int .u8 0, .int .u8 0, .int .u8 0, .int .u8 0, .int .u8 0, .int .u8 0, .int .u8 0, .int .u8 0, .int .u8 0, .int .u8 0, .int .u8 0, .int .u8 0, .int .u8 0, .int .u8 0, .int .u8 0, .int .u8 0] 147)) := (Below.refl _ _).alloc (Nat.le_refl _) _
 have HN := ae hN
 clear h20 hN
 go_enter Tryz.func82, Tryz.ntmps82
 go_wp2_with fail
 go_loopw [0, 4] (fun nv av wr => ∃ (m a : Nat), a + m = 20 ∧ nv = .int .u64 ((n / 10 ^ m : Nat) : Int) ∧ av = .int .i64 a ∧ (m = 0 ∨ n / 10 ^ (m - 1) ≠ 0) ∧ Hid (tN wr w.heap.size n m) ∧ Below w.heap.size w wr)
  (fun _ av _ => (intOf av).toNat)
 case atStart => exact ⟨0, 20, rfl, by simp, rfl, .inl rfl, HN.out, hal⟩
 case round =>
  clear hal HN
  obtain ⟨m, a, ha, rfl, rfl, hm, hD, hbel⟩ := hrel
  have HM := ae hm
  have HA := ae ha
  clear hm
  by_cases h0 : n / 10 ^ m = 0
  ·
   have Hh := ae h0
   by_cases apF : a = 20
   ·
    have h00 : n = 0 := by
     obtain rfl : m = 0 := by omega
     simpa using h0
    have hw := Lib.run_convert_whole (P := Tryz.prog) wr 36 5 9 Tryz.underlying36 Tryz.underlying5 Tryz.underlying9 w.heap.size 0 (eP []) (fun i hi => absurd hi (Nat.not_lt_zero i)) 0
    rw [jO, List.length_nil] at hw
    have hsl := Oh w.heap.size
    have Hn0 : Hid (mP n = []) := by show _ = _; rw [h00]; rfl
    rw [h0]
    subst apF
    clear h0 h00 ha
    go_wp2_with fail
    go_ret
    exact ⟨by rw [Hn0.out]; rfl, hbel⟩
   ·
    have hl := LQ n m HM.out
    have hm2 : m = 20 - a := by omega
    have hw := Lib.run_convert_whole (P := Tryz.prog) wr 36 5 9 Tryz.underlying36 Tryz.underlying5 Tryz.underlying9 w.heap.size (20 - m) (eP (yR n m)) (hD.out.bytes (by omega) hl) (20 - a)
    rw [jO, hl, YP n m h0, show 20 - m = a by omega, hm2] at hw
    have hsl := afE w.heap.size a (by omega)
    rw [h0]
    clear h0 hl hm2
    go_wp2_with fail
    go_ret
    exact ⟨rfl, hbel⟩
  ·
   have hq : ((n / 10 ^ m : Nat) : Int) > 0 := Int.natCast_pos.2 (Nat.pos_of_ne_zero h0)
   have t1 : decide (((n / 10 ^ m : Nat) : Int) > 0) = true := decide_eq_true hq
   have atV : m < 20 := by
    rcases Nat.lt_or_ge m 20 with h | h
    · exact h
    ·
     obtain rfl : m = 20 := by omega
     exact absurd H20.out h0
   obtain ⟨k, rfl⟩ : ∃ k, a = k + 1 := ⟨a - 1, by omega⟩
   obtain ⟨v0, g0, f0⟩ := hD.out.cell k (by omega)
   have hst := fun v hv => hD.out.step (k := k) (by omega) h0 v hv
   have HST := ae hst
   have Hm1 : Hid (n / 10 ^ (m + 1 - 1) ≠ 0) := by show _ ≠ _; rw [Nat.add_sub_cancel]; exact h0
   have hdv : Hid (n / 10 ^ m / 10 = n / 10 ^ (m + 1)) := by show _ = _; rw [Nat.div_div_eq_div_mul, Nat.pow_succ]
   have hch : Hid (((chD (n / 10 ^ m % 10)).toNat : Int) = 48 + ((n / 10 ^ m % 10 : Nat) : Int)) := by show _ = _; rw [Uh _ (Nat.mod_lt _ (by omega))]; omega
   have hqb : n / 10 ^ m < ak := Nat.lt_of_le_of_lt (Nat.div_le_self _ _) hn
   have e1 : IntKind.i64.wrap (((k + 1 : Nat) : Int) - 1) = (k : Int) := by rw [show (((k + 1 : Nat) : Int) - 1) = (k : Int) by omega]; exact IntWalk.i64_in _ (by omega)
   have e2 : IntKind.i64.wrap ((k : Int) + 1 - 1) = (k : Int) := by rw [show ((k : Int) + 1 - 1) = (k : Int) by omega]; exact IntWalk.i64_in _ (by omega)
   have UK : (k : Int) < 20 := by omega
   have hk0 : (0 : Int) ≤ k := by omega
   clear hst h0 hD
   generalize n / 10 ^ m = q at *
   unfold ak at hqb
   clear hn
   go_wp2_with fail
   refine ⟨⟨m + 1, k, by have := HA.out; omega, by rw [← hdv.out, Int.natCast_ediv]; rfl, rfl, .inr Hm1.out, HST.out _ (by rw [hch.out, Int.natCast_emod]; rfl), hbel.setCell (p := ⟨w.heap.size, k, none⟩) (Nat.le_refl _) _⟩, by simp [intOf]⟩
def fF : Nat := 10000000000000000000
theorem CS : fF = 10 ^ 19 := by unfold fF; omega
def tq (n i : Nat) : List UInt8 := if n / fF ^ i / fF = 0 then mP (n / fF ^ i) else Ph 19 (n / fF ^ i % fF)
theorem Qq (n i : Nat) : mP (n / fF ^ (i + 1)) ++ tq n i = mP (n / fF ^ i) := by
 have e : n / fF ^ (i + 1) = n / fF ^ i / fF := by rw [Nat.div_div_eq_div_mul, Nat.pow_succ]
 rw [e]
 unfold tq
 by_cases h : n / fF ^ i / fF = 0
 · rw [if_pos h, h, Uk]; rfl
 ·
  rw [if_neg h]
  rw [CS] at *
  exact (Pg 19 _ h).symm
def qf (n k : Nat) : List Value := (List.range k).map fun i => Value.string (eP (tq n i))
theorem Gg (n k : Nat) : qf n (k + 1) = qf n k ++ [Value.string (eP (tq n k))] := by
 simp [qf, List.range_succ]
theorem yS (n : Nat) : (aU 10 n).length ≤ 20 * (aU ak n).length := by
 refine b_ lQ _ _ (Nat.lt_of_lt_of_le (dw aO n) ?_)
 rw [Nat.pow_mul]
 exact Nat.pow_le_pow_left (by unfold ak; omega) _
theorem IC (n k : Nat) (h : n / fF ^ k ≠ 0) : 19 * k < 20 * (aU ak n).length := by
 have h1 : n / 10 ^ (19 * k) ≠ 0 := by rw [Nat.pow_mul, ← CS]; exact h
 have := (iH lQ (19 * k) n).2 h1
 have := yS n
 omega
theorem zF : 0 < fF := by unfold fF; omega
theorem U7 (n i : Nat) : (tq n i).length ≤ 19 + (aU 10 n).length := by
 unfold tq
 split
 ·
  rw [mG]
  have : (aU 10 (n / fF ^ i)).length ≤ (aU 10 n).length := aZ lQ (Nat.div_le_self _ _)
  omega
 ·
  unfold Ph
  have h1 : (mP (n / fF ^ i % fF)).length ≤ 19 := by
   rw [mG]
   refine b_ lQ 19 _ ?_
   rw [← CS]
   exact Nat.mod_lt _ zF
  simp
  omega
theorem dL.cellAt {w : World} {base : Nat} {e : TypeId} {g n cap : Nat} {xs : List Value} (h : dL w base e 1 (.slice (some ⟨g, 0, none⟩) n cap) n xs) (j : Nat) (v : Value) (hj : xs[j]? = some v) : w.cell? ⟨g, j, none⟩ = some v := by
 have hc : ∀ j u, xs[j]? = some u → w.cell? ((⟨g, 0, none⟩ : Addr).add j) = some u := h.1.cells (g := g) rfl
 have := hc j v hj
 have e : (⟨g, 0, none⟩ : Addr).add j = ⟨g, j, none⟩ := by unfold Addr.add; split <;> simp_all
 rwa [e] at this
theorem uC (s : ByteArray) : jh (.string s) := fun _ => ⟨by simp, by simp⟩
theorem Nu : (Tryz.prog.info? 9).map (fun i => (i.zero, i.size, i.bytes)) = some (some (.string .empty), 1, 16) := by kernel_rfl
theorem cell_new1 (w : World) (a : Value) (t : TypeId) : ∀ j u, [a][j]? = some u → (w.alloc (.cells #[a] t)).cell? ((⟨w.heap.size, 0, none⟩ : Addr).add j) = some u := by
 intro j u hj
 match j, hj with
 | 0, hj => simp at hj; subst hj; simp [Addr.add]
 | j + 1, hj => simp at hj
def sliceLen : Value → Nat | .slice _ n _ => n | _ => 0
theorem dL.form {w : World} {base : Nat} {e : TypeId} {size : Nat} {v : Value} {n : Nat} {xs : List Value} (h : dL w base e size v n xs) : ∃ ao cap, v = .slice ao n cap ∧ (0 < n → ∃ g, ao = some ⟨g, 0, none⟩ ∧ g < w.heap.size ∧ base ≤ g) := by
 rcases h.1.2 with ⟨rfl, h0⟩ | ⟨g, cap, cur, rfl, hb, hg, _⟩
 · exact ⟨none, 0, by rw [h0], fun h => absurd h (by omega)⟩
 · exact ⟨_, _, rfl, fun _ => ⟨g, rfl, (Array.getElem?_eq_some_iff.1 hg).1, hb⟩⟩
theorem aif (q : Nat) (v : Value) (W : World) (h : bT .u64 ak W v q) (hl : (aU ak q).length ≤ 1099511627776) : Calls Tryz.prog 76 #[v, .int .u64 10000000000000000000] W (Dv (q / fF) (q % fF) W) := by
 have h2 := Ec q fF v W h hl zF (by unfold fF ak; omega)
 have e : ((fF : Nat) : Int) = 10000000000000000000 := rfl
 rw [e] at h2
 exact h2
theorem ae_ (c : Nat) (W : World) (hc : c ≤ 19) : Calls Tryz.prog 83 #[.string { data := #[48] }, .int .i64 (c : Int)] W (fun e w' => e = .returned (.string (eP (List.replicate c 48))) ∧ Below W.heap.size W w') := by
 have h := Tryz.strings_Repeat { data := #[48] } c W (by omega) (by show 1 * c ≤ _; omega)
 rw [show Lib.repeatL (ByteArray.mk #[48]).data.toList c = List.replicate c 48 from NY c] at h
 exact h
theorem write_any (B b : Nat) (l m : List UInt8) (W : World) (h : Lib.IsBuilder 135 5 B b (Lib.byteCells l) W) (hl : l.length + m.length ≤ 140737488355328) (hB : B ≤ W.heap.size) :
  Calls Tryz.prog 84 #[.pointer (some ⟨b, 0, none⟩), .string (eP m)] W (fun e w' => e = .returned (.tuple #[.int .i64 ((eP m).size : Int), .nilIface]) ∧ Lib.IsBuilder 135 5 B b (Lib.byteCells (l ++ m)) w' ∧ Below B W w') := by
 refine (Any.Builder_WriteString { Tryz.lays105 with } Tryz.Builder_Extra_105 B b (Lib.byteCells l) (eP m) W h (by rw [Lib.byteCells_length, jO]; exact hl) hB).mono fun e w' he => ?_
 obtain ⟨he, h1, h2⟩ := he
 refine ⟨he, .inr ?_, h2⟩
 have e2 : Lib.byteCells (l ++ m) = Lib.byteCells l ++ Lib.strCells (eP m) := by simp [Lib.byteCells, Lib.strCells, eP]
 rw [e2]
 exact h1
theorem NG (w : World) : Lib.IsBuilder 135 5 w.heap.size w.heap.size (Lib.byteCells []) (w.alloc (.cells #[.pointer none, .slice none 0 0] 135)) :=
 .inl ⟨Nat.le_refl _, _, aV w _ _, World.ownsRow_nil _ _ _ _, by simp [Value.ownBlock]⟩
theorem own_base {w : World} {base : Nat} {e : TypeId} {size : Nat} {v : Value} {n : Nat} {xs : List Value} (h : w.ownsRow base e size v n xs) : ∀ k, v.ownBlock = some k → base ≤ k := by
 intro k hk
 rcases h.2 with ⟨rfl, _⟩ | ⟨g, cap, cur, rfl, hb, _⟩
 · simp [Value.ownBlock] at hk
 ·
  simp [Value.ownBlock] at hk
  omega
theorem YQ (n : Nat) (h : n ≠ 0) : lI n = mP n := by unfold lI; rw [if_neg h]
theorem Gt (n : Nat) (v : Value) (w : World) (h : bT .u64 ak w v n) (hsz : (aU ak n).length ≤ 68719476736) : Calls Tryz.prog 57 #[v] w (Ja (lI n) w) := by
 have H := ae h
 have hd := yS n
 have HD := ae hd
 have KU := ae hsz
 obtain ⟨iS, hiS, hzS, hsS, hyS⟩ := info_parts Nu
 have hzd : ∀ u ∈ (Value.string ByteArray.empty).cells.toList, jh u := by
  intro u hu
  simp [Value.cells] at hu
  subst hu
  exact uC _
 clear h hd hsz
 have OD : Hid (n / fF ^ 0 = n) := by show _ = _; rw [Nat.pow_zero, Nat.div_one]
 have hvs : ∃ ao cap, v = .slice ao (aU ak n).length cap := by obtain ⟨ao, cap, e, _⟩ := aX.opened H.out; exact ⟨ao, cap, e⟩
 obtain ⟨ao0, cap0, rfl⟩ := hvs
 go_enter Tryz.func57, Tryz.ntmps57
 go_wp2_with fail
 go_loopw [0, 3] (fun av pv wr => ∃ (k : Nat), bT .u64 ak wr av (n / fF ^ k) ∧ (k = 0 ∨ n / fF ^ (k - 1) ≠ 0) ∧ Hid (dL wr w.heap.size 9 1 pv k (qf n k)) ∧ Below w.heap.size w wr)
  (fun _ pv _ => 1374389534721 - sliceLen pv)
 case atStart => exact ⟨0, by rw [OD.out]; exact H.out, .inl rfl, dL.nil _ _ _ _, Below.refl _ _⟩
 case round =>
  clear H
  obtain ⟨k, hA, hk, hL, hbel⟩ := hrel
  have HK := ae hk
  obtain ⟨ao, cap, rfl, hg⟩ := hL.out.form
  have HA := ae hA
  obtain ⟨aa, ca, rfl, _⟩ := aX.opened hA
  clear hA hk
  by_cases h0 : n / fF ^ k = 0
  ·
   have Hq0 := ae h0
   rw [h0, jW, List.length_nil]
   clear h0 HA
   by_cases hk0 : k = 0
   ·
    have Hn : Hid (lI n = [48]) := by
     show _ = _
     have : n = 0 := by have := Hq0.out; rw [hk0, OD.out] at this; exact this
     rw [this]; rfl
    subst hk0
    go_wp2_with fail
    go_ret
    exact ⟨by rw [Hn.out]; rfl, hbel⟩
   ·
    have hn0 : Hid (n ≠ 0) := by
     show n ≠ 0
     rintro rfl
     rcases HK.out with h | h
     · exact hk0 h
     · exact h (Nat.zero_div _)
    have Hkb : Hid (k ≤ 1374389534720) := by
     show _ ≤ _
     rcases HK.out with h | h
     · omega
     · have := IC n (k - 1) h; have := KU.out; omega
    have tk : ((k : Int) == 0) = false := beq_eq_false_iff_ne.2 (by omega)
    obtain ⟨g, rfl, hgl, hgb⟩ := hg (by omega)
    have hkb := Hkb.out
    have ek : IntKind.i64.wrap ((k : Int) - 1) = (k : Int) - 1 := IntWalk.i64_in _ (by omega)
    obtain ⟨kp, hkp⟩ : ∃ z : Int, z = (k : Int) - 1 := ⟨_, rfl⟩
    have HKP := ae hkp
    rw [← hkp] at ek
    have ek2 : IntKind.i64.wrap ((k : Int) - 1) = kp := by rw [hkp]; exact IntWalk.i64_in _ (by omega)
    have hnb := NG wr
    have hal := (Below.refl wr.heap.size wr).alloc (Nat.le_refl _) (.cells #[.pointer none, .slice none 0 0] 135)
    have HL1 := ae (hL.out.below hal)
    have hx1 := ax hbel hal
    have hBs : wr.heap.size < (wr.alloc (.cells #[.pointer none, .slice none 0 0] 135)).heap.size := by simp
    have HNB := ae hnb
    have hwB := hbel.size
    clear ek hkp hkb hL hbel hnb
    go_wp2_with fail
    generalize wr.alloc (.cells #[.pointer none, .slice none 0 0] 135) = W1 at *
    generalize wr.heap.size = B at *
    go_loopw [8] (fun iv wx => ∃ (j : Nat) (z : Int), z = (j : Int) - 1 ∧ j ≤ k ∧ iv = .int .i64 z ∧ Hid (Lib.IsBuilder 135 5 B B (Lib.byteCells (mP (n / fF ^ j))) wx) ∧ Below B W1 wx) (fun iv _ => (intOf iv + 1).toNat)
    case atStart => exact ⟨k, _, HKP.out, Nat.le_refl _, rfl, by rw [Hq0.out]; exact HNB.out, Below.refl _ _⟩
    case round =>
     clear HNB hal
     obtain ⟨j, z, hz, hj, rfl, hIB, hbx⟩ := hrel
     have hBx : B < wr.heap.size := Nat.lt_of_lt_of_le hBs hbx.size
     have hgx : g < B := hgl
     have hxx : Below w.heap.size w wr := hx1.trans (hbx.mono hwB)
     by_cases hj0 : j = 0
     ·
      have t9 : decide (z ≥ 0) = false := decide_eq_false (by omega)
      have hs := fun h => Tryz.Builder_String_any B B (mP n) wr h (Nat.le_of_lt hBx)
      have HS := ae (hs (by have := hIB.out; rw [hj0, OD.out] at this; exact this))
      have HT := ae (YQ n hn0.out)
      clear hs hz hj0 hIB
      go_wp2_with fail
      refine HS.out.mono ?_
      rintro e w3 ⟨rfl, hb3⟩
      go_wp2_with fail
      go_ret
      exact ⟨by rw [HT.out]; rfl, hxx.trans (hb3.mono (by omega))⟩
     ·
      obtain ⟨i, rfl⟩ : ∃ i, j = i + 1 := ⟨j - 1, by omega⟩
      obtain rfl : z = (i : Int) := by omega
      have t9 : decide ((i : Int) ≥ 0) = true := decide_eq_true (by omega)
      have hi0 : (0 : Int) ≤ i := by omega
      have hik : (i : Int) < k := by omega
      have hce : (qf n k)[i]? = some (.string (eP (tq n i))) := by
       unfold qf
       rw [List.getElem?_map, List.getElem?_range (by omega)]
       rfl
      have c0 := HL1.out.cellAt i _ hce
      have c1 : wr.cell? ⟨g, i, none⟩ = some (.string (eP (tq n i))) := (hbx.cell (p := ⟨g, i, none⟩) hgx).trans c0
      have c2 : wr.cell? ⟨g, 0 + i, none⟩ = some (.string (eP (tq n i))) := by rw [Nat.zero_add]; exact c1
      have hps := ae (Qq n i)
      have hlen1 := U7 n i
      have hlen2 : (mP (n / fF ^ (i + 1))).length ≤ (aU 10 n).length := by rw [mG]; exact aZ lQ (Nat.div_le_self _ _)
      have HW := ae (write_any B B (mP (n / fF ^ (i + 1))) (tq n i) wr hIB.out (by have := HD.out; have := KU.out; omega) (Nat.le_of_lt hBx))
      clear c0 hce hz hj0 hIB hlen1 hlen2
      generalize tq n i = pp at *
      go_wp2_with fail
      refine HW.out.mono ?_
      rintro e w3 ⟨rfl, aiV, hb3⟩
      rw [hps.out] at aiV
      have HIB := ae aiV
      have e1 : IntKind.i64.wrap ((i : Int) - 1) = (i : Int) - 1 := IntWalk.i64_in _ (by have := Hkb.out; omega)
      have e2 : Hid (((intOf (.int .i64 ((i : Int) - 1))) + 1).toNat < ((intOf (.int .i64 (i : Int))) + 1).toNat) := by show _ < _; simp [intOf] <;> omega
      clear aiV
      go_wp2_with fail
      exact ⟨⟨i, (i : Int) - 1, rfl, by omega, rfl, HIB.out, hbx.trans hb3⟩, e2.out⟩
  ·
   have hlen : 0 < (aU ak (n / fF ^ k)).length := by
    rcases Nat.eq_zero_or_pos (aU ak (n / fF ^ k)).length with h | h
    · exact absurd ((fD aO _).1 (List.eq_nil_of_length_eq_zero h)) h0
    · exact h
   have t1 : decide (0 < (aU ak (n / fF ^ k)).length) = true := decide_eq_true hlen
   have hLq : (aU ak (n / fF ^ k)).length ≤ (aU ak n).length := aZ aO (Nat.div_le_self _ _)
   have hpl := IC n k h0
   have Hk1 : Hid (n / fF ^ (k + 1 - 1) ≠ 0) := by show _ ≠ _; rw [Nat.add_sub_cancel]; exact h0
   have Hsu := ae (Gg n k)
   have Hpd : Hid (n / fF ^ (k + 1) = n / fF ^ k / fF) := by show _ = _; rw [Nat.div_div_eq_div_mul, Nat.pow_succ]
   have Hpl : Hid (tq n k = if n / fF ^ k / fF = 0 then mP (n / fF ^ k) else Ph 19 (n / fF ^ k % fF)) := rfl
   have hkb : k ≤ 1374389534720 := by have := KU.out; omega
   have HBW := ae (fun W h => aif (n / fF ^ k) (.slice aa (aU ak (n / fF ^ k)).length ca) W h (by have := KU.out; omega))
   clear hlen hLq hpl h0 hg
   generalize hPK : tq n k = pk at *
   generalize n / fF ^ k = q at *
   clear hPK
   go_wp2_with fail
   refine (HBW.out _ HA.out).mono ?_
   rintro e w1 ⟨vq, rfl, hvq, hb1⟩
   have HVQ := ae hvq
   obtain ⟨aq, cq, rfl, _⟩ := aX.opened hvq
   have hr : q % fF < fF := Nat.mod_lt _ zF
   have HL1 := ae (hL.out.below hb1)
   have hx1 := ax hbel hb1
   clear hvq hb1 hL hbel HBW t1
   go_wp2_with fail
   refine (LU (q % fF) _ (Nat.lt_trans hr (by unfold fF ak; omega))).mono ?_
   rintro e w2 ⟨rfl, hb2⟩
   have HL2 := ae (HL1.out.below hb2)
   have ahu := ae (HVQ.out.below hb2)
   have hx2 := ax hx1 hb2
   clear HL1 HVQ hx1 hb2
   by_cases h1 : q / fF = 0
   ·
    have hL0 : (aU ak (q / fF)).length = 0 := by rw [h1]; rfl
    have Hpk : Hid (pk = mP (q % fF)) := by
     show _ = _
     rw [Hpl.out, if_pos h1]
     rcases Nat.lt_or_ge q fF with h | h
     · rw [Nat.mod_eq_of_lt h]
     · exact absurd (Nat.div_pos h zF) (by omega)
    rw [hL0] at ahu ⊢
    generalize mP (q % fF) = m at *
    have TW := ae (HL2.out.below ((Below.refl w2.heap.size w2).alloc (Nat.le_refl _) (.cells #[.string (eP m)] 9)))
    have hx3 := hx2.alloc hx2.size (.cells #[.string (eP m)] 9)
    have hsz2 := hx2.size
    clear hr h1 hL0
    have ahv := ae (ahu.out.below ((Below.refl w2.heap.size w2).alloc (Nat.le_refl _) (.cells #[.string (eP m)] 9)))
    go_wp2_with (at_builtin; refine dZ _ rfl (.tmp 28) (.tmp 30) 130 rfl w.heap.size 9 iS _ 1 16 Tryz.underlying130 hiS hzS hsS hyS rfl (by decide) hzd _ _ _ rfl TW.out ⟨w2.heap.size, 0, none⟩ 1 1 [.string (eP m)] rfl rfl (cell_new1 _ _ _) (by simp [Value.oneCell']) (by intro u hu; simp at hu; subst hu; exact uC _) (by omega) (by unfold maxLen; omega) (by omega) (by simp; omega) ?_)
    intro g' cap' w3 hL4 hgr hat
    have HL4 := ae hL4
    have hx4 : Below w.heap.size w w3 := hx3.grown hgr (by simp; omega) (own_base TW.out.1)
    have ahw := ae (aX.grown (.inl rfl) (ahv.out) hgr TW.out.2)
    clear hL4 hx3
    go_wp2_with fail
    exact ⟨⟨k + 1, by rw [Hpd.out]; exact ahw.out, .inr Hk1.out, by rw [Hsu.out, Hpk.out]; exact HL4.out, hx4⟩, by show 1374389534721 - (k + 1) < 1374389534721 - k; omega⟩
   ·
    have hl2 : 0 < (aU ak (q / fF)).length := by
     rcases Nat.eq_zero_or_pos (aU ak (q / fF)).length with h | h
     · exact absurd ((fD aO _).1 (List.eq_nil_of_length_eq_zero h)) h1
     · exact h
    have t2 : decide (0 < (aU ak (q / fF)).length) = true := decide_eq_true hl2
    have Hpk : Hid (pk = Ph 19 (q % fF)) := by show _ = _; rw [Hpl.out, if_neg h1]
    have aqB : (mP (q % fF)).length ≤ 19 := by
     rw [mG]
     exact b_ lQ 19 _ (by rw [← CS]; exact hr)
    have Hz : Hid (Ph 19 (q % fF) = List.replicate (19 - (mP (q % fF)).length) 48 ++ mP (q % fF)) := rfl
    generalize mP (q % fF) = m at *
    obtain ⟨c, hc⟩ : ∃ c, m.length + c = 19 := ⟨19 - m.length, by omega⟩
    have hsm : (eP m).size = m.length := rfl
    have e1 : IntKind.i64.wrap (19 - ((eP m).size : Int)) = (c : Int) := by rw [hsm, show (19 : Int) - (m.length : Int) = (c : Int) by omega]; exact IntWalk.i64_in _ (by omega)
    have apQ : eP (List.replicate c 48) ++ eP m = eP pk := by rw [kW, Hpk.out, Hz.out, show 19 - m.length = c by omega]
    have hc19 : c ≤ 19 := by omega
    have hz1 : (eP (List.replicate c 48)).size ≤ 19 := by rw [jO, List.length_replicate]; exact hc19
    have hz2 : (eP m).size ≤ 19 := by rw [jO]; omega
    clear hr h1 hl2 aqB hc hsm Hz
    go_wp2_with fail
    refine (ae_ c _ hc19).mono ?_
    rintro e w2' ⟨rfl, hb3⟩
    have TW := ae ((HL2.out.below hb3).below ((Below.refl w2'.heap.size w2').alloc (Nat.le_refl _) (.cells #[.string (eP pk)] 9)))
    have ahv := ae ((ahu.out.below hb3).below ((Below.refl w2'.heap.size w2').alloc (Nat.le_refl _) (.cells #[.string (eP pk)] 9)))
    have aev := ax hx2 hb3
    have hx3 := aev.alloc aev.size (.cells #[.string (eP pk)] 9)
    have hsz2 := aev.size
    clear hb3 hx2 aev
    go_wp2_with (at_builtin; refine dZ _ rfl (.tmp 28) (.tmp 30) 130 rfl w.heap.size 9 iS _ 1 16 Tryz.underlying130 hiS hzS hsS hyS rfl (by decide) hzd _ _ _ rfl TW.out ⟨w2'.heap.size, 0, none⟩ 1 1 [.string (eP pk)] rfl rfl (cell_new1 _ _ _) (by simp [Value.oneCell']) (by intro u hu; simp at hu; subst hu; exact uC _) (by omega) (by unfold maxLen; omega) (by omega) (by simp; omega) ?_)
    intro g' cap' w3 hL4 hgr hat
    have HL4 := ae hL4
    have hx4 : Below w.heap.size w w3 := hx3.grown hgr (by simp; omega) (own_base TW.out.1)
    have ahw := ae (aX.grown (.inl rfl) (ahv.out) hgr TW.out.2)
    clear hL4 hx3
    go_wp2_with fail
    exact ⟨⟨k + 1, by rw [Hpd.out]; exact ahw.out, .inr Hk1.out, by rw [Hsu.out]; exact HL4.out, hx4⟩, by show 1374389534721 - (k + 1) < 1374389534721 - k; omega⟩
theorem vX (n : Nat) (h : (aU ak n).length ≤ 68719476736) : (eP (lI n)).size ≤ 1374389534720 := by
 have := yS n
 rw [jO]
 unfold lI
 split
 · simp
 · rw [mG]; omega
theorem xC (q : Rat) (v : Value) (w : World) (h : aA w v q) (hs : bQ q 68719476736) : Calls Tryz.prog 26 #[v] w (Ja (qV q) w) := by
 obtain ⟨a1, c1, a2, c2, rfl, n1, n2⟩ := h.opened
 have N1 := ae n1
 have N2 := ae n2
 have HS := ae hs
 have hB := aV w #[.bool (decide (q.num < 0)), .slice a1 (aU ak q.num.natAbs).length c1, .slice a2 (aU ak (dn q.den)).length c2] 40
 have hal := (Below.refl w.heap.size w).alloc (Nat.le_refl _) (.cells #[.bool (decide (q.num < 0)), .slice a1 (aU ak q.num.natAbs).length c1, .slice a2 (aU ak (dn q.den)).length c2] 40)
 have hT1 := Gt q.num.natAbs (.slice a1 (aU ak q.num.natAbs).length c1) _ (n1.below hal) hs.1
 have HT1 := ae hT1
 clear h n1 n2 hs hT1
 have Htx : Hid (qV q = (if q.num < 0 then [45] else []) ++ (lI q.num.natAbs ++ (if q.den = 1 then [] else 47 :: lI q.den))) := rfl
 go_enter Tryz.func26, Tryz.ntmps26
 go_wp2_with fail
 refine HT1.out.mono ?_
 rintro e w1 ⟨rfl, hb1⟩
 have hB1 := ay hB hb1 (ai hB)
 have hx1 := ax hal hb1
 have p0 := af hB1 0 (.bool (decide (q.num < 0))) rfl
 have p2 := af hB1 2 (.slice a2 (aU ak (dn q.den)).length c2) rfl
 have Hu := ae (N2.out.below hx1)
 clear hB hB1 hal hb1 HT1
 have hz1 := vX q.num.natAbs HS.out.1
 have ho1 : (ByteArray.mk #[45]).size = 1 := rfl
 have ho2 : (ByteArray.mk #[47]).size = 1 := rfl
 by_cases hneg : q.num < 0
 ·
  have tn : decide (q.num < 0) = true := decide_eq_true hneg
  have Gw := ae hneg
  rw [tn] at p0 ⊢
  clear hneg tn
  by_cases hd : q.den = 1
  ·
   have hdn : dn q.den = 0 := by simp [dn, hd]
   rw [hdn] at p2 ⊢
   rw [jW, List.length_nil] at p2 ⊢
   have OE : Hid (qV q = [45] ++ lI q.num.natAbs) := by show _ = _; rw [Htx.out, if_pos Gw.out, if_pos hd, List.append_nil]
   clear hd hdn Htx Hu N2
   have apQ : ByteArray.mk #[45] ++ eP (lI q.num.natAbs) = eP (qV q) := by rw [show ByteArray.mk #[45] = eP [45] from rfl, kW, OE.out]
   go_wp2_with fail
   go_ret
   exact ⟨rfl, hx1⟩
  ·
   have hdn : dn q.den = q.den := by simp [dn, hd]
   rw [hdn] at p2 Hu ⊢
   have hlen : 0 < (aU ak q.den).length := by
    rcases Nat.eq_zero_or_pos (aU ak q.den).length with h | h
    · exact absurd ((fD aO _).1 (List.eq_nil_of_length_eq_zero h)) (by have := q.den_pos; omega)
    · exact h
   have tl : decide (0 < (aU ak q.den).length) = true := decide_eq_true hlen
   have OE : Hid (qV q = [45] ++ (lI q.num.natAbs ++ 47 :: lI q.den)) := by show _ = _; rw [Htx.out, if_pos Gw.out, if_neg hd]
   have hz2 := vX q.den HS.out.2
   have HT2 := ae (Gt q.den _ _ Hu.out HS.out.2)
   have amg : ByteArray.mk #[47] ++ eP (lI q.den) = eP (47 :: lI q.den) := by rw [show ByteArray.mk #[47] = eP [47] from rfl, kW]; rfl
   have hz3 : (eP (47 :: lI q.den)).size ≤ 1374389534721 := by rw [jO] at hz2 ⊢; rw [List.length_cons]; omega
   have asK : ByteArray.mk #[45] ++ eP (lI q.num.natAbs) = eP (45 :: lI q.num.natAbs) := by rw [show ByteArray.mk #[45] = eP [45] from rfl, kW]; rfl
   have amh : eP (45 :: lI q.num.natAbs) ++ eP (47 :: lI q.den) = eP (qV q) := by rw [kW, OE.out]; rfl
   have UX : (eP (45 :: lI q.num.natAbs)).size ≤ 1374389534721 := by rw [jO] at hz1 ⊢; rw [List.length_cons]; omega
   clear hd hdn Htx hlen Hu N2
   go_wp2_with fail
   refine HT2.out.mono ?_
   rintro e w2 ⟨rfl, hb2⟩
   go_wp2_with fail
   go_ret
   exact ⟨rfl, ax hx1 hb2⟩
 ·
  have tn : decide (q.num < 0) = false := decide_eq_false hneg
  have Gw := ae hneg
  rw [tn] at p0 ⊢
  clear hneg tn
  by_cases hd : q.den = 1
  ·
   have hdn : dn q.den = 0 := by simp [dn, hd]
   rw [hdn] at p2 ⊢
   rw [jW, List.length_nil] at p2 ⊢
   have OE : Hid (qV q = lI q.num.natAbs) := by show _ = _; rw [Htx.out, if_neg Gw.out, if_pos hd, List.append_nil]; rfl
   clear hd hdn Htx Hu N2
   go_wp2_with fail
   go_ret
   exact ⟨by rw [OE.out]; rfl, hx1⟩
  ·
   have hdn : dn q.den = q.den := by simp [dn, hd]
   rw [hdn] at p2 Hu ⊢
   have hlen : 0 < (aU ak q.den).length := by
    rcases Nat.eq_zero_or_pos (aU ak q.den).length with h | h
    · exact absurd ((fD aO _).1 (List.eq_nil_of_length_eq_zero h)) (by have := q.den_pos; omega)
    · exact h
   have tl : decide (0 < (aU ak q.den).length) = true := decide_eq_true hlen
   have OE : Hid (qV q = lI q.num.natAbs ++ 47 :: lI q.den) := by show _ = _; rw [Htx.out, if_neg Gw.out, if_neg hd]; rfl
   have hz2 := vX q.den HS.out.2
   have HT2 := ae (Gt q.den _ _ Hu.out HS.out.2)
   have amg : ByteArray.mk #[47] ++ eP (lI q.den) = eP (47 :: lI q.den) := by rw [show ByteArray.mk #[47] = eP [47] from rfl, kW]; rfl
   have hz3 : (eP (47 :: lI q.den)).size ≤ 1374389534721 := by rw [jO] at hz2 ⊢; rw [List.length_cons]; omega
   have amh : eP (lI q.num.natAbs) ++ eP (47 :: lI q.den) = eP (qV q) := by rw [kW, OE.out]
   clear hd hdn Htx hlen Hu N2
   go_wp2_with fail
   refine HT2.out.mono ?_
   rintro e w2 ⟨rfl, hb2⟩
   go_wp2_with fail
   go_ret
   exact ⟨rfl, ax hx1 hb2⟩
end Go.Proofs.YtkblihocfapklaaGreat
namespace Go.Proofs.YtkblihocfapklaaGreat
open Go.RowKit
theorem y9 (x : Rat) (vx : Value) (w : World) (hx : aA w vx x) : Calls Tryz.prog 56 #[vx] w (dW (-x) w) := by
 obtain ⟨a1, c1, a2, c2, rfl, n1, n2⟩ := hx.opened
 have N1 := ae n1
 have N2 := ae n2
 have He := ae (Qj x)
 clear hx n1 n2
 go_enter Tryz.func56, Tryz.ntmps56
 go_wp2_with fail
 generalize hneg : decide (x.num < 0) = neg at *
 have hal : Below w.heap.size w ((w.alloc (.cells #[.bool neg, .slice a1 (aU ak x.num.natAbs).length c1, .slice a2 (aU ak (dn x.den)).length c2] 40)).alloc (.cells #[.bool false, .slice none 0 0, .slice none 0 0] 40)) :=
  ((Below.refl _ _).alloc (Nat.le_refl _) _).alloc (by simp) _
 have hB1 := (ay (aV w #[.bool neg, .slice a1 (aU ak x.num.natAbs).length c1, .slice a2 (aU ak (dn x.den)).length c2] 40) ((Below.refl _ _).alloc (Nat.le_refl _) (.cells #[.bool false, .slice none 0 0, .slice none 0 0] 40)) (by simp))
 have hB2 := aV (w.alloc (.cells #[.bool neg, .slice a1 (aU ak x.num.natAbs).length c1, .slice a2 (aU ak (dn x.den)).length c2] 40)) #[.bool false, .slice none 0 0, .slice none 0 0] 40
 rw [World.size_alloc] at hB2
 generalize ((w.alloc (.cells #[.bool neg, .slice a1 (aU ak x.num.natAbs).length c1, .slice a2 (aU ak (dn x.den)).length c2] 40)).alloc (.cells #[.bool false, .slice none 0 0, .slice none 0 0] 40)) = W at *
 have p0 := af hB1 0 (.bool neg) rfl
 have p1 := af hB1 1 (.slice a1 (aU ak x.num.natAbs).length c1) rfl
 have p2 := af hB1 2 (.slice a2 (aU ak (dn x.den)).length c2) rfl
 have hl1 := ai hB1
 have hl2 := ai hB2
 have e0 := af hB2 0 (.bool false) rfl
 have e1 := af hB2 1 (.slice none 0 0) rfl
 have e2 := af hB2 2 (.slice none 0 0) rfl
 have f0 := ah hB2 0
 have f1 := ah hB2 1
 have f2 := ah hB2 2
 have HB : Hid (RB W (w.heap.size + 1)) := ⟨false, none, 0, 0, none, 0, 0, _, hB2⟩
 clear hB1 hB2
 have hW : Below w.heap.size w W.drew := hal.drew
 cases neg with
 | true =>
  go_region
  go_wp2_with fail
  refine bodyPost_ret (v := .agg #[.bool false, .slice a1 (aU ak x.num.natAbs).length _, .slice a2 (aU ak (dn x.den)).length _]) (by simp [results, Tryz.results56, go_sem, e0, e1, e2]; first | done | exact ⟨rfl, rfl⟩ | rfl) rfl ⟨_, rfl, ?_, dm hW (by omega)⟩
  exact aA.stored (w := W.drew) HB.out (N1.out.below hW) (N2.out.below hW) He.out (kR x)
 | false =>
  by_cases h0 : x.num.natAbs = 0
  ·
   have t0 : Hid (decide (x.num.natAbs = 0) = true) := decide_eq_true h0
   clear h0
   go_region_held3 (fun w' => Below w.heap.size w w' ∧ RB w' (w.heap.size + 1) ∧ w'.cell? ⟨w.heap.size, 0, none⟩ = some (.bool false) ∧ w'.cell? ⟨w.heap.size, 1, none⟩ = some (.slice a1 (aU ak x.num.natAbs).length c1) ∧ w'.cell? ⟨w.heap.size, 2, none⟩ = some (.slice a2 (aU ak (dn x.den)).length c2) ∧
     w'.cell? ⟨w.heap.size + 1, 0, none⟩ = some (cellOf w' ⟨w.heap.size + 1, 0, none⟩) ∧ w'.cell? ⟨w.heap.size + 1, 1, none⟩ = some (cellOf w' ⟨w.heap.size + 1, 1, none⟩) ∧ w'.cell? ⟨w.heap.size + 1, 2, none⟩ = some (cellOf w' ⟨w.heap.size + 1, 2, none⟩) ∧
     w'.frozen? ⟨w.heap.size + 1, 0, none⟩ = false ∧ w'.frozen? ⟨w.heap.size + 1, 1, none⟩ = false ∧ w'.frozen? ⟨w.heap.size + 1, 2, none⟩ = false)
    (first | exact SQ hW p0 p1 p2 HB.out | exact EK (Nat.le_refl _) hb' (by assumption) | exact Bq _ _ _ _ _ _ _ (Nat.le_succ _) (Nat.ne_of_lt (Nat.lt_succ_self _)) (by assumption) _ rfl)
    (first | (go_at_call 81; refine (Aa _ _ x.num.natAbs _ _ _ _ _).mono ?_; rw [t0.out]; rintro e w' ⟨rfl, hb'⟩))
   have yU := RB.keep (a := W.drew) HB.out hb' hl2
   obtain ⟨c0, c1, c2, f0', f1', f2'⟩ := yU.cell
   have hx := hW.trans (hb'.mono hW.size)
   have hBl := yU.lt
   go_wp2_with fail
   refine bodyPost_ret (v := .agg #[.bool false, .slice a1 (aU ak x.num.natAbs).length _, .slice a2 (aU ak (dn x.den)).length _]) (by simp [results, Tryz.results56, go_sem, c0, c1, c2]; first | done | exact ⟨rfl, rfl⟩ | rfl) rfl ⟨_, rfl, ?_, dm hx (by omega)⟩
   exact aA.stored yU (N1.out.below hx) (N2.out.below hx) (by rw [He.out, t0.out]; rfl) (kR x)
  ·
   have t0 : Hid (decide (x.num.natAbs = 0) = false) := decide_eq_false h0
   clear h0
   go_region_held3 (fun w' => Below w.heap.size w w' ∧ RB w' (w.heap.size + 1) ∧ w'.cell? ⟨w.heap.size, 0, none⟩ = some (.bool false) ∧ w'.cell? ⟨w.heap.size, 1, none⟩ = some (.slice a1 (aU ak x.num.natAbs).length c1) ∧ w'.cell? ⟨w.heap.size, 2, none⟩ = some (.slice a2 (aU ak (dn x.den)).length c2) ∧
     w'.cell? ⟨w.heap.size + 1, 0, none⟩ = some (cellOf w' ⟨w.heap.size + 1, 0, none⟩) ∧ w'.cell? ⟨w.heap.size + 1, 1, none⟩ = some (cellOf w' ⟨w.heap.size + 1, 1, none⟩) ∧ w'.cell? ⟨w.heap.size + 1, 2, none⟩ = some (cellOf w' ⟨w.heap.size + 1, 2, none⟩) ∧
     w'.frozen? ⟨w.heap.size + 1, 0, none⟩ = false ∧ w'.frozen? ⟨w.heap.size + 1, 1, none⟩ = false ∧ w'.frozen? ⟨w.heap.size + 1, 2, none⟩ = false)
    (first | exact SQ hW p0 p1 p2 HB.out | exact EK (Nat.le_refl _) hb' (by assumption) | exact Bq _ _ _ _ _ _ _ (Nat.le_succ _) (Nat.ne_of_lt (Nat.lt_succ_self _)) (by assumption) _ rfl)
    (first | (go_at_call 81; refine (Aa _ _ x.num.natAbs _ _ _ _ _).mono ?_; rw [t0.out]; rintro e w' ⟨rfl, hb'⟩))
   have yU := RB.keep (a := W.drew) HB.out hb' hl2
   obtain ⟨c0, c1, c2, f0', f1', f2'⟩ := yU.cell
   have hx := hW.trans (hb'.mono hW.size)
   have hBl := yU.lt
   go_wp2_with fail
   refine bodyPost_ret (v := .agg #[.bool true, .slice a1 (aU ak x.num.natAbs).length _, .slice a2 (aU ak (dn x.den)).length _]) (by simp [results, Tryz.results56, go_sem, c0, c1, c2]; first | done | exact ⟨rfl, rfl⟩ | rfl) rfl ⟨_, rfl, ?_, dm hx (by omega)⟩
   exact aA.stored yU (N1.out.below hx) (N2.out.below hx) (by rw [He.out, t0.out]; rfl) (kR x)
theorem Qg (b : Bool) (x y : Option Addr) (i j k l : Nat) (w : World) : (method 278 40 (.agg #[.bool b, .slice x i j, .slice y k l]) "Neg").run Tryz.prog w = .ok (56, .agg #[.bool b, .slice x i j, .slice y k l]) w := by kernel_rfl
theorem Qe (b : Bool) (x y : Option Addr) (i j k l : Nat) (w : World) : (method 278 40 (.agg #[.bool b, .slice x i j, .slice y k l]) "Add").run Tryz.prog w = .ok (33, .agg #[.bool b, .slice x i j, .slice y k l]) w := by kernel_rfl
theorem Nw (x y : Rat) (vx vy : Value) (w : World) (hx : aA w vx x) (hy : aA w vy y) (hlx : bQ x 68719476736) (CW : bQ y 68719476736) : Calls Tryz.prog 73 #[vx, vy] w (dW (x - y) w) := by
 have hy0 := hy
 obtain ⟨a1, c1, a2, c2, rfl, n1, n2⟩ := hx.opened
 obtain ⟨a3, c3, a4, c4, rfl, n3, n4⟩ := hy.opened
 have HX := ae hx
 have HY := ae hy
 have I4 := ae hlx
 have hln : bQ (-y) 68719476736 := ⟨by rw [kR]; exact CW.1, CW.2⟩
 have I5 := ae hln
 have He : Hid (x + -y = x - y) := (Rat.sub_eq_add_neg x y).symm
 clear hx hy n1 n2 n3 n4 hlx CW hln hy0
 have hmn := Qg
 have hma := Qe
 go_enter Tryz.func73, Tryz.ntmps73
 go_wp2_with fail
 generalize hsx : decide (x.num < 0) = sx at *
 generalize hsy : decide (y.num < 0) = sy at *
 clear hsx hsy
 generalize hW0 : ((w.alloc (.cells #[.bool sx, .slice a1 (aU ak x.num.natAbs).length c1, .slice a2 (aU ak (dn x.den)).length c2] 40)).alloc (.cells #[.bool sy, .slice a3 (aU ak y.num.natAbs).length c3, .slice a4 (aU ak (dn y.den)).length c4] 40)).alloc (.cells #[.bool false, .slice none 0 0, .slice none 0 0] 40) = W at *
 obtain ⟨hal, hB1, hB2, hB3⟩ := Jl w _ _ _ _ W hW0.symm
 clear hW0
 have hW : Below w.heap.size w W.drew := hal.drew
 have p0 := af hB1 0 (.bool sx) rfl
 have p1 := af hB1 1 (.slice a1 (aU ak x.num.natAbs).length c1) rfl
 have p2 := af hB1 2 (.slice a2 (aU ak (dn x.den)).length c2) rfl
 have r0 := af hB2 0 (.bool sy) rfl
 have r1 := af hB2 1 (.slice a3 (aU ak y.num.natAbs).length c3) rfl
 have r2 := af hB2 2 (.slice a4 (aU ak (dn y.den)).length c4) rfl
 have HB : Hid (RB W (w.heap.size + 2)) := ⟨false, none, 0, 0, none, 0, 0, _, hB3⟩
 have hl3 := ai hB3
 clear hB1 hB2 hB3
 go_region_held3 (fun w' => Below w.heap.size w w' ∧ RB w' (w.heap.size + 2) ∧ w'.cell? ⟨w.heap.size, 0, none⟩ = some (.bool sx) ∧ w'.cell? ⟨w.heap.size, 1, none⟩ = some (.slice a1 (aU ak x.num.natAbs).length c1) ∧ w'.cell? ⟨w.heap.size, 2, none⟩ = some (.slice a2 (aU ak (dn x.den)).length c2) ∧ w'.cell? ⟨w.heap.size + 1, 0, none⟩ = some (.bool sy) ∧ w'.cell? ⟨w.heap.size + 1, 1, none⟩ = some (.slice a3 (aU ak y.num.natAbs).length c3) ∧ w'.cell? ⟨w.heap.size + 1, 2, none⟩ = some (.slice a4 (aU ak (dn y.den)).length c4) ∧ w'.cell? ⟨w.heap.size + 2, 0, none⟩ = some (cellOf w' ⟨w.heap.size + 2, 0, none⟩) ∧ w'.cell? ⟨w.heap.size + 2, 1, none⟩ = some (cellOf w' ⟨w.heap.size + 2, 1, none⟩) ∧ w'.cell? ⟨w.heap.size + 2, 2, none⟩ = some (cellOf w' ⟨w.heap.size + 2, 2, none⟩) ∧ w'.frozen? ⟨w.heap.size + 2, 0, none⟩ = false ∧ w'.frozen? ⟨w.heap.size + 2, 1, none⟩ = false ∧ w'.frozen? ⟨w.heap.size + 2, 2, none⟩ = false)
  (first | exact yI hW p0 p1 p2 r0 r1 r2 HB.out | exact dP (Nat.le_refl _) Aw (by assumption) | exact dP (Nat.le_refl _) hbD (by assumption) | exact oU _ _ _ _ _ _ _ (by omega) (by omega) (by omega) (by assumption) _ rfl)
  (first
   | (go_at_call 56; refine (y9 y _ _ (HY.out.below (And.left (by assumption)))).mono ?_; rintro e wD ⟨vD, rfl, EM, hbD⟩)
   | (go_at_call 33; refine (lS x (-y) _ _ _ (HX.out.below (And.left (by assumption))) EM I4.out I5.out).mono ?_; rw [He.out]; rintro e wE ⟨vE, rfl, hvE, Aw⟩; obtain ⟨a5, c5, a6, c6, rfl, n5, n6⟩ := aA.opened hvE))
 have hE := ax hbD Aw
 have yU := RB.keep (a := W.drew) HB.out hE hl3
 obtain ⟨g0, g1, g2, f0', f1', f2'⟩ := yU.cell
 have hx := hW.trans (hE.mono hW.size)
 have hBl := yU.lt
 go_wp2_with fail
 refine bodyPost_ret (v := .agg #[.bool (decide ((x - y).num < 0)), .slice a5 (aU ak (x - y).num.natAbs).length _, .slice a6 (aU ak (dn (x - y).den)).length _]) (by simp [results, Tryz.results73, go_sem, g0, g1, g2]; first | done | exact ⟨rfl, rfl⟩ | rfl) rfl ⟨_, rfl, ?_, dm hx (by omega)⟩
 exact aA.stored yU n5 n6 rfl rfl
theorem zk (x y : Rat) (vx vy : Value) (w : World) (hx : aA w vx x) (hy : aA w vy y) (hlx : bQ x 68719476736) (CW : bQ y 68719476736) : Calls Tryz.prog 45 #[vx, vy] w (dW (x - y) w) := by
 obtain ⟨a1, c1, a2, c2, rfl, n1, n2⟩ := hx.opened
 obtain ⟨a3, c3, a4, c4, rfl, n3, n4⟩ := hy.opened
 have HX := ae hx
 have HY := ae hy
 have I4 := ae hlx
 have I5 := ae CW
 clear hx hy n1 n2 n3 n4 hlx CW
 go_enter Tryz.func45, Tryz.ntmps45
 go_wp2_with fail
 generalize hW0 : ((w.alloc (.cells #[.bool (decide (x.num < 0)), .slice a1 (aU ak x.num.natAbs).length c1, .slice a2 (aU ak (dn x.den)).length c2] 40)).alloc (.cells #[.bool (decide (y.num < 0)), .slice a3 (aU ak y.num.natAbs).length c3, .slice a4 (aU ak (dn y.den)).length c4] 40)).alloc (.cells #[.bool false, .slice none 0 0, .slice none 0 0] 40) = W at *
 obtain ⟨hal, hB1, hB2, hB3⟩ := Jl w _ _ _ _ W hW0.symm
 clear hW0
 have HB : Hid (RB W (w.heap.size + 2)) := ⟨false, none, 0, 0, none, 0, 0, _, hB3⟩
 have hl3 := ai hB3
 clear hB1 hB2 hB3
 refine (Nw x y _ _ _ (HX.out.below hal) (HY.out.below hal) I4.out I5.out).mono ?_
 rintro e w3 ⟨v, rfl, hv, hb⟩
 have yU := HB.out.keep hb hl3
 obtain ⟨a5, c5, a6, c6, rfl, n5, n6⟩ := aA.opened hv
 have hx := ax hal hb
 obtain ⟨g0, g1, g2, f0', f1', f2'⟩ := yU.cell
 have hBl := yU.lt
 generalize x - y = q at *
 clear hv hb hal
 go_wp2_with fail
 refine bodyPost_ret (v := .agg #[.bool (decide (q.num < 0)), .slice a5 (aU ak q.num.natAbs).length _, .slice a6 (aU ak (dn q.den)).length _]) (by simp [results, Tryz.results45, go_sem, g0, g1, g2]; first | done | exact ⟨rfl, rfl⟩ | rfl) rfl ⟨_, rfl, ?_, dm hx (by omega)⟩
 exact aA.stored yU n5 n6 rfl rfl
structure R3 where
 b : Bool
 a : Option Addr
 n : Nat
 c : Nat
 d : Option Addr
 m : Nat
 e : Nat
abbrev R3.arr (x : R3) : Array Value := #[.bool x.b, .slice x.a x.n x.c, .slice x.d x.m x.e]
abbrev R3.val (x : R3) : Value := .agg #[.bool x.b, .slice x.a x.n x.c, .slice x.d x.m x.e]
abbrev aY (x y : R3) : Array Value := #[.bool x.b, .slice x.a x.n x.c, .slice x.d x.m x.e, .bool y.b, .slice y.a y.n y.c, .slice y.d y.m y.e]
abbrev zg (x y : R3) : Value := .agg #[.bool x.b, .slice x.a x.n x.c, .slice x.d x.m x.e, .bool y.b, .slice y.a y.n y.c, .slice y.d y.m y.e]
def dQ : R3 := ⟨false, none, 0, 0, none, 0, 0⟩
theorem aA.bn {w : World} {v : Value} {q : Rat} (h : aA w v q) : ∃ x : R3, v = x.val := by
 obtain ⟨a1, c1, a2, c2, rfl, _, _⟩ := h.opened
 exact ⟨⟨_, _, _, _, _, _, _⟩, rfl⟩
def cZ (w : World) (v : Value) (lo hi : Rat) : Prop := ∃ x y : R3, v = zg x y ∧ aA w x.val lo ∧ aA w y.val hi
theorem cZ.below {w w' : World} {v : Value} {lo hi : Rat} (h : cZ w v lo hi) (hb : Below w.heap.size w w') : cZ w' v lo hi := by
 obtain ⟨x, y, rfl, h1, h2⟩ := h
 exact ⟨x, y, rfl, h1.below hb, h2.below hb⟩
def iK (lo hi : Rat) (w : World) (e : Ending) (w' : World) : Prop := ∃ v, e = .returned v ∧ cZ w' v lo hi ∧ Below w.heap.size w w'
def I_ (lo hi : Rat) (err : Int) (w : World) (e : Ending) (w' : World) : Prop := ∃ v, e = .returned (.tuple #[v, .int .i64 err]) ∧ cZ w' v lo hi ∧ Below w.heap.size w w'
theorem bt {W a b : World} (h : Below W.heap.size W a) (hb : Below a.heap.size a b) : Below W.heap.size W b := h.trans (hb.mono h.size)
theorem aA.uI {w : World} {v : Value} {q : Rat} {B T : Nat} {cs : Array Value} (h : aA w v q) (hB : w.heap[B]? = some (.cells cs T (0, 0))) (hn : Iw cs) (j : Nat) (u : Value) : aA (w.setCell ⟨B, j, none⟩ u) v q := by
 obtain ⟨vn, vd, rfl, h1, h2⟩ := h
 exact ⟨vn, vd, rfl, aX.oh h1 hB hn j u, aX.oh h2 hB hn j u⟩
theorem ni3 (b1 : Bool) (a1 : Option Addr) (n1 c1 : Nat) (d1 : Option Addr) (m1 e1 : Nat) : Iw #[.bool b1, .slice a1 n1 c1, .slice d1 m1 e1] := by
 intro i k x
 match i with
 | 0 => simp
 | 1 => simp
 | 2 => simp
 | i + 3 => simp
theorem mO {w : World} {B T : Nat} {p x : R3} (h : w.heap[B]? = some (.cells #[.bool p.b, .slice p.a p.n p.c, .slice p.d p.m p.e] T (0, 0))) : ((((w.setCell ⟨B, 0, none⟩ (.bool x.b)).setCell ⟨B, 1, none⟩ (.slice x.a x.n x.c)).setCell ⟨B, 2, none⟩ (.slice x.d x.m x.e))).heap[B]? = some (.cells #[.bool x.b, .slice x.a x.n x.c, .slice x.d x.m x.e] T (0, 0)) := by
 have h0 : (w.setCell ⟨B, 0, none⟩ (.bool x.b)).heap[B]? = some (.cells #[.bool x.b, .slice p.a p.n p.c, .slice p.d p.m p.e] T (0, 0)) := bM h 0 _
 have h1 : ((w.setCell ⟨B, 0, none⟩ (.bool x.b)).setCell ⟨B, 1, none⟩ (.slice x.a x.n x.c)).heap[B]? = some (.cells #[.bool x.b, .slice x.a x.n x.c, .slice p.d p.m p.e] T (0, 0)) := bM h0 1 _
 have h2 : (((w.setCell ⟨B, 0, none⟩ (.bool x.b)).setCell ⟨B, 1, none⟩ (.slice x.a x.n x.c)).setCell ⟨B, 2, none⟩ (.slice x.d x.m x.e)).heap[B]? = some (.cells #[.bool x.b, .slice x.a x.n x.c, .slice x.d x.m x.e] T (0, 0)) := bM h1 2 _
 exact h2
theorem aA.mO {w : World} {v : Value} {r : Rat} {B T : Nat} {p x : R3} (i : aA w v r) (h : w.heap[B]? = some (.cells #[.bool p.b, .slice p.a p.n p.c, .slice p.d p.m p.e] T (0, 0))) : aA ((((w.setCell ⟨B, 0, none⟩ (.bool x.b)).setCell ⟨B, 1, none⟩ (.slice x.a x.n x.c)).setCell ⟨B, 2, none⟩ (.slice x.d x.m x.e))) v r := by
 have h0 : (w.setCell ⟨B, 0, none⟩ (.bool x.b)).heap[B]? = some (.cells #[.bool x.b, .slice p.a p.n p.c, .slice p.d p.m p.e] T (0, 0)) := bM h 0 _
 have h1 : ((w.setCell ⟨B, 0, none⟩ (.bool x.b)).setCell ⟨B, 1, none⟩ (.slice x.a x.n x.c)).heap[B]? = some (.cells #[.bool x.b, .slice x.a x.n x.c, .slice p.d p.m p.e] T (0, 0)) := bM h0 1 _
 have h2 : (((w.setCell ⟨B, 0, none⟩ (.bool x.b)).setCell ⟨B, 1, none⟩ (.slice x.a x.n x.c)).setCell ⟨B, 2, none⟩ (.slice x.d x.m x.e)).heap[B]? = some (.cells #[.bool x.b, .slice x.a x.n x.c, .slice x.d x.m x.e] T (0, 0)) := bM h1 2 _
 have i0 := i.uI h (by exact ni3 _ _ _ _ _ _ _) 0 (.bool x.b)
 have i1 := i0.uI h0 (by exact ni3 _ _ _ _ _ _ _) 1 (.slice x.a x.n x.c)
 have i2 := i1.uI h1 (by exact ni3 _ _ _ _ _ _ _) 2 (.slice x.d x.m x.e)
 exact i2
theorem kG {n : Nat} {w0 w : World} {B : Nat} {x : R3} (h : Below n w0 w) (hB : n ≤ B) : Below n w0 ((((w.setCell ⟨B, 0, none⟩ (.bool x.b)).setCell ⟨B, 1, none⟩ (.slice x.a x.n x.c)).setCell ⟨B, 2, none⟩ (.slice x.d x.m x.e))) :=
 ((h.setCell (p := ⟨B, 0, none⟩) hB _).setCell (p := ⟨B, 1, none⟩) hB _).setCell (p := ⟨B, 2, none⟩) hB _
theorem eu {w : World} {B T : Nat} {x : R3} (h : w.heap[B]? = some (.cells #[.bool x.b, .slice x.a x.n x.c, .slice x.d x.m x.e] T (0, 0))) : w.cell? ⟨B, 0, none⟩ = some (.bool x.b) ∧ w.cell? ⟨B, 1, none⟩ = some (.slice x.a x.n x.c) ∧ w.cell? ⟨B, 2, none⟩ = some (.slice x.d x.m x.e) ∧ w.frozen? ⟨B, 0, none⟩ = false ∧ w.frozen? ⟨B, 1, none⟩ = false ∧ w.frozen? ⟨B, 2, none⟩ = false :=
 ⟨af h 0 _ rfl, af h 1 _ rfl, af h 2 _ rfl, ah h 0, ah h 1, ah h 2⟩
theorem VJ (b1 : Bool) (a1 : Option Addr) (n1 c1 : Nat) (d1 : Option Addr) (m1 e1 : Nat) (b2 : Bool) (a2 : Option Addr) (n2 c2 : Nat) (d2 : Option Addr) (m2 e2 : Nat) : Iw #[.bool b1, .slice a1 n1 c1, .slice d1 m1 e1, .bool b2, .slice a2 n2 c2, .slice d2 m2 e2] := by
 intro i k x
 match i with
 | 0 => simp
 | 1 => simp
 | 2 => simp
 | 3 => simp
 | 4 => simp
 | 5 => simp
 | i + 6 => simp
theorem kU {w : World} {B T : Nat} {p q x y : R3} (h : w.heap[B]? = some (.cells #[.bool p.b, .slice p.a p.n p.c, .slice p.d p.m p.e, .bool q.b, .slice q.a q.n q.c, .slice q.d q.m q.e] T (0, 0))) : (((((((w.setCell ⟨B, 0, none⟩ (.bool x.b)).setCell ⟨B, 1, none⟩ (.slice x.a x.n x.c)).setCell ⟨B, 2, none⟩ (.slice x.d x.m x.e)).setCell ⟨B, 3, none⟩ (.bool y.b)).setCell ⟨B, 4, none⟩ (.slice y.a y.n y.c)).setCell ⟨B, 5, none⟩ (.slice y.d y.m y.e))).heap[B]? = some (.cells #[.bool x.b, .slice x.a x.n x.c, .slice x.d x.m x.e, .bool y.b, .slice y.a y.n y.c, .slice y.d y.m y.e] T (0, 0)) := by
 have h0 : (w.setCell ⟨B, 0, none⟩ (.bool x.b)).heap[B]? = some (.cells #[.bool x.b, .slice p.a p.n p.c, .slice p.d p.m p.e, .bool q.b, .slice q.a q.n q.c, .slice q.d q.m q.e] T (0, 0)) := bM h 0 _
 have h1 : ((w.setCell ⟨B, 0, none⟩ (.bool x.b)).setCell ⟨B, 1, none⟩ (.slice x.a x.n x.c)).heap[B]? = some (.cells #[.bool x.b, .slice x.a x.n x.c, .slice p.d p.m p.e, .bool q.b, .slice q.a q.n q.c, .slice q.d q.m q.e] T (0, 0)) := bM h0 1 _
 have h2 : (((w.setCell ⟨B, 0, none⟩ (.bool x.b)).setCell ⟨B, 1, none⟩ (.slice x.a x.n x.c)).setCell ⟨B, 2, none⟩ (.slice x.d x.m x.e)).heap[B]? = some (.cells #[.bool x.b, .slice x.a x.n x.c, .slice x.d x.m x.e, .bool q.b, .slice q.a q.n q.c, .slice q.d q.m q.e] T (0, 0)) := bM h1 2 _
 have h3 : ((((w.setCell ⟨B, 0, none⟩ (.bool x.b)).setCell ⟨B, 1, none⟩ (.slice x.a x.n x.c)).setCell ⟨B, 2, none⟩ (.slice x.d x.m x.e)).setCell ⟨B, 3, none⟩ (.bool y.b)).heap[B]? = some (.cells #[.bool x.b, .slice x.a x.n x.c, .slice x.d x.m x.e, .bool y.b, .slice q.a q.n q.c, .slice q.d q.m q.e] T (0, 0)) := bM h2 3 _
 have h4 : (((((w.setCell ⟨B, 0, none⟩ (.bool x.b)).setCell ⟨B, 1, none⟩ (.slice x.a x.n x.c)).setCell ⟨B, 2, none⟩ (.slice x.d x.m x.e)).setCell ⟨B, 3, none⟩ (.bool y.b)).setCell ⟨B, 4, none⟩ (.slice y.a y.n y.c)).heap[B]? = some (.cells #[.bool x.b, .slice x.a x.n x.c, .slice x.d x.m x.e, .bool y.b, .slice y.a y.n y.c, .slice q.d q.m q.e] T (0, 0)) := bM h3 4 _
 have h5 : ((((((w.setCell ⟨B, 0, none⟩ (.bool x.b)).setCell ⟨B, 1, none⟩ (.slice x.a x.n x.c)).setCell ⟨B, 2, none⟩ (.slice x.d x.m x.e)).setCell ⟨B, 3, none⟩ (.bool y.b)).setCell ⟨B, 4, none⟩ (.slice y.a y.n y.c)).setCell ⟨B, 5, none⟩ (.slice y.d y.m y.e)).heap[B]? = some (.cells #[.bool x.b, .slice x.a x.n x.c, .slice x.d x.m x.e, .bool y.b, .slice y.a y.n y.c, .slice y.d y.m y.e] T (0, 0)) := bM h4 5 _
 exact h5
theorem aA.kU {w : World} {v : Value} {r : Rat} {B T : Nat} {p q x y : R3} (i : aA w v r) (h : w.heap[B]? = some (.cells #[.bool p.b, .slice p.a p.n p.c, .slice p.d p.m p.e, .bool q.b, .slice q.a q.n q.c, .slice q.d q.m q.e] T (0, 0))) : aA (((((((w.setCell ⟨B, 0, none⟩ (.bool x.b)).setCell ⟨B, 1, none⟩ (.slice x.a x.n x.c)).setCell ⟨B, 2, none⟩ (.slice x.d x.m x.e)).setCell ⟨B, 3, none⟩ (.bool y.b)).setCell ⟨B, 4, none⟩ (.slice y.a y.n y.c)).setCell ⟨B, 5, none⟩ (.slice y.d y.m y.e))) v r := by
 have h0 : (w.setCell ⟨B, 0, none⟩ (.bool x.b)).heap[B]? = some (.cells #[.bool x.b, .slice p.a p.n p.c, .slice p.d p.m p.e, .bool q.b, .slice q.a q.n q.c, .slice q.d q.m q.e] T (0, 0)) := bM h 0 _
 have h1 : ((w.setCell ⟨B, 0, none⟩ (.bool x.b)).setCell ⟨B, 1, none⟩ (.slice x.a x.n x.c)).heap[B]? = some (.cells #[.bool x.b, .slice x.a x.n x.c, .slice p.d p.m p.e, .bool q.b, .slice q.a q.n q.c, .slice q.d q.m q.e] T (0, 0)) := bM h0 1 _
 have h2 : (((w.setCell ⟨B, 0, none⟩ (.bool x.b)).setCell ⟨B, 1, none⟩ (.slice x.a x.n x.c)).setCell ⟨B, 2, none⟩ (.slice x.d x.m x.e)).heap[B]? = some (.cells #[.bool x.b, .slice x.a x.n x.c, .slice x.d x.m x.e, .bool q.b, .slice q.a q.n q.c, .slice q.d q.m q.e] T (0, 0)) := bM h1 2 _
 have h3 : ((((w.setCell ⟨B, 0, none⟩ (.bool x.b)).setCell ⟨B, 1, none⟩ (.slice x.a x.n x.c)).setCell ⟨B, 2, none⟩ (.slice x.d x.m x.e)).setCell ⟨B, 3, none⟩ (.bool y.b)).heap[B]? = some (.cells #[.bool x.b, .slice x.a x.n x.c, .slice x.d x.m x.e, .bool y.b, .slice q.a q.n q.c, .slice q.d q.m q.e] T (0, 0)) := bM h2 3 _
 have h4 : (((((w.setCell ⟨B, 0, none⟩ (.bool x.b)).setCell ⟨B, 1, none⟩ (.slice x.a x.n x.c)).setCell ⟨B, 2, none⟩ (.slice x.d x.m x.e)).setCell ⟨B, 3, none⟩ (.bool y.b)).setCell ⟨B, 4, none⟩ (.slice y.a y.n y.c)).heap[B]? = some (.cells #[.bool x.b, .slice x.a x.n x.c, .slice x.d x.m x.e, .bool y.b, .slice y.a y.n y.c, .slice q.d q.m q.e] T (0, 0)) := bM h3 4 _
 have h5 : ((((((w.setCell ⟨B, 0, none⟩ (.bool x.b)).setCell ⟨B, 1, none⟩ (.slice x.a x.n x.c)).setCell ⟨B, 2, none⟩ (.slice x.d x.m x.e)).setCell ⟨B, 3, none⟩ (.bool y.b)).setCell ⟨B, 4, none⟩ (.slice y.a y.n y.c)).setCell ⟨B, 5, none⟩ (.slice y.d y.m y.e)).heap[B]? = some (.cells #[.bool x.b, .slice x.a x.n x.c, .slice x.d x.m x.e, .bool y.b, .slice y.a y.n y.c, .slice y.d y.m y.e] T (0, 0)) := bM h4 5 _
 have i0 := i.uI h (by exact VJ _ _ _ _ _ _ _ _ _ _ _ _ _ _) 0 (.bool x.b)
 have i1 := i0.uI h0 (by exact VJ _ _ _ _ _ _ _ _ _ _ _ _ _ _) 1 (.slice x.a x.n x.c)
 have i2 := i1.uI h1 (by exact VJ _ _ _ _ _ _ _ _ _ _ _ _ _ _) 2 (.slice x.d x.m x.e)
 have i3 := i2.uI h2 (by exact VJ _ _ _ _ _ _ _ _ _ _ _ _ _ _) 3 (.bool y.b)
 have i4 := i3.uI h3 (by exact VJ _ _ _ _ _ _ _ _ _ _ _ _ _ _) 4 (.slice y.a y.n y.c)
 have i5 := i4.uI h4 (by exact VJ _ _ _ _ _ _ _ _ _ _ _ _ _ _) 5 (.slice y.d y.m y.e)
 exact i5
theorem pU {n : Nat} {w0 w : World} {B : Nat} {x y : R3} (h : Below n w0 w) (hB : n ≤ B) : Below n w0 (((((((w.setCell ⟨B, 0, none⟩ (.bool x.b)).setCell ⟨B, 1, none⟩ (.slice x.a x.n x.c)).setCell ⟨B, 2, none⟩ (.slice x.d x.m x.e)).setCell ⟨B, 3, none⟩ (.bool y.b)).setCell ⟨B, 4, none⟩ (.slice y.a y.n y.c)).setCell ⟨B, 5, none⟩ (.slice y.d y.m y.e))) :=
 (((((h.setCell (p := ⟨B, 0, none⟩) hB _).setCell (p := ⟨B, 1, none⟩) hB _).setCell (p := ⟨B, 2, none⟩) hB _).setCell (p := ⟨B, 3, none⟩) hB _).setCell (p := ⟨B, 4, none⟩) hB _).setCell (p := ⟨B, 5, none⟩) hB _
theorem dO {w : World} {B T : Nat} {x y : R3} (h : w.heap[B]? = some (.cells #[.bool x.b, .slice x.a x.n x.c, .slice x.d x.m x.e, .bool y.b, .slice y.a y.n y.c, .slice y.d y.m y.e] T (0, 0))) : w.cell? ⟨B, 0, none⟩ = some (.bool x.b) ∧ w.cell? ⟨B, 1, none⟩ = some (.slice x.a x.n x.c) ∧ w.cell? ⟨B, 2, none⟩ = some (.slice x.d x.m x.e) ∧ w.cell? ⟨B, 3, none⟩ = some (.bool y.b) ∧ w.cell? ⟨B, 4, none⟩ = some (.slice y.a y.n y.c) ∧ w.cell? ⟨B, 5, none⟩ = some (.slice y.d y.m y.e) ∧ w.frozen? ⟨B, 0, none⟩ = false ∧ w.frozen? ⟨B, 1, none⟩ = false ∧ w.frozen? ⟨B, 2, none⟩ = false ∧ w.frozen? ⟨B, 3, none⟩ = false ∧ w.frozen? ⟨B, 4, none⟩ = false ∧ w.frozen? ⟨B, 5, none⟩ = false :=
 ⟨af h 0 _ rfl, af h 1 _ rfl, af h 2 _ rfl, af h 3 _ rfl, af h 4 _ rfl, af h 5 _ rfl, ah h 0, ah h 1, ah h 2, ah h 3, ah h 4, ah h 5⟩
theorem ny (lo hi : Rat) (v : Value) (w : World) (h : cZ w v lo hi) : Calls Tryz.prog 47 #[v] w (dW lo w) := by
 obtain ⟨x, y, rfl, h1, h2⟩ := h
 have H1 := ae h1
 clear h1
 clear h2
 go_enter Tryz.func47, Tryz.ntmps47
 go_wp2_with fail
 refine bodyPost_ret (v := x.val) (by simp [results, Tryz.results47, go_sem]) rfl ⟨_, rfl, H1.out.below (below2 _ _ _), below2 _ _ _⟩
theorem oL (lo hi : Rat) (v : Value) (w : World) (h : cZ w v lo hi) : Calls Tryz.prog 48 #[v] w (dW hi w) := by
 obtain ⟨x, y, rfl, h1, h2⟩ := h
 have H1 := ae h2
 clear h2
 clear h1
 go_enter Tryz.func48, Tryz.ntmps48
 go_wp2_with fail
 refine bodyPost_ret (v := y.val) (by simp [results, Tryz.results48, go_sem]) rfl ⟨_, rfl, H1.out.below (below2 _ _ _), below2 _ _ _⟩
theorem F_ (q : Rat) (v : Value) (w : World) (h : aA w v q) : Calls Tryz.prog 8 #[v] w (iK q q w) := by
 obtain ⟨x, rfl⟩ := h.bn
 have H1 := ae h
 clear h
 go_enter Tryz.func8, Tryz.ntmps8
 go_wp2_with fail
 refine bodyPost_ret (v := zg x x) (by simp [results, Tryz.results8, go_sem]) rfl ⟨_, rfl, ⟨x, x, rfl, H1.out.below (below2 _ _ _), H1.out.below (below2 _ _ _)⟩, below2 _ _ _⟩
theorem one_any (w : World) : Calls Tryz.prog 44 #[] w (dW 1 w) := by
 go_enter Tryz.func44, Tryz.ntmps44
 go_wp2_with fail
 refine (CY 1 _ (by omega) (by omega)).mono ?_
 rintro e w1 ⟨v, rfl, hv, hb⟩
 have E : Hid (w1.heap[w.heap.size]? = some (.cells dQ.arr 40 (0, 0))) := ay (aV w _ _) hb (by rw [World.size_alloc]; omega)
 have HB := ae (bt (gJ w _) hb)
 have hv' : aA w1 v 1 := hv
 obtain ⟨x, rfl⟩ := hv'.bn
 have HV := ae hv'
 clear hv hv' hb
 obtain ⟨g0, g1, g2, f0, f1, f2⟩ := eu (x := dQ) E.out
 go_wp2_with fail
 obtain ⟨h0, h1, h2, _, _, _⟩ := eu (x := x) (mO (x := x) E.out)
 refine bodyPost_ret (v := x.val) (by simp [results, Tryz.results44, go_sem, h0, h1, h2]) rfl ⟨_, rfl, aA.mO HV.out E.out, kG HB.out (by omega)⟩
theorem O9 (w : World) (x y : R3) (cs : Array Value) (T : Nat) (W : World) (hW : W = ((w.alloc (.cells x.arr 40)).alloc (.cells y.arr 40)).alloc (.cells cs T)) :
  Below w.heap.size w W ∧ W.heap[w.heap.size]? = some (.cells x.arr 40 (0, 0)) ∧ W.heap[w.heap.size + 1]? = some (.cells y.arr 40 (0, 0)) ∧ W.heap[w.heap.size + 1 + 1]? = some (.cells cs T (0, 0)) ∧ W.heap.size = w.heap.size + 3 := by
 subst hW
 have e1 : (w.alloc (.cells x.arr 40)).heap.size = w.heap.size + 1 := World.size_alloc ..
 have e2 : ((w.alloc (.cells x.arr 40)).alloc (.cells y.arr 40)).heap.size = w.heap.size + 1 + 1 := by rw [World.size_alloc, e1]
 have a1 := aV w x.arr 40
 have a2 := aV (w.alloc (.cells x.arr 40)) y.arr 40
 have a3 := aV ((w.alloc (.cells x.arr 40)).alloc (.cells y.arr 40)) cs T
 rw [e1] at a2
 rw [e2] at a3
 have a1' := (heap_alloc_old _ (.cells y.arr 40) (ai a1)).trans a1
 exact ⟨ba (below2 _ _ _), (heap_alloc_old _ _ (ai a1')).trans a1', (heap_alloc_old _ _ (ai a2)).trans a2, a3, by rw [World.size_alloc, e2]⟩
theorem aak (lo hi : Rat) (vx vy : Value) (w : World) (hx : aA w vx lo) (hy : aA w vy hi) (hlx : bQ lo 274877906944) (CW : bQ hi 274877906944) (hc : dN lo hi ≤ 0) :
  Calls Tryz.prog 74 #[vx, vy] w (I_ lo hi 0 w) := by
 obtain ⟨x, rfl⟩ := hx.bn
 obtain ⟨y, rfl⟩ := hy.bn
 have HX := ae hx
 have HY := ae hy
 have I4 := ae hlx
 have I5 := ae CW
 clear hx hy hlx CW
 have hc' : decide (dN lo hi > 0) = false := decide_eq_false (by omega)
 clear hc
 go_enter Tryz.func74, Tryz.ntmps74
 go_wp2_with fail
 generalize hW0 : ((w.alloc (.cells x.arr 40)).alloc (.cells y.arr 40)).alloc (.cells _ _) = W at *
 obtain ⟨hal, hB1, hB2, hB3, hWs⟩ := O9 w _ _ _ _ W hW0.symm
 have pI := ae hal
 have HB1 := ae hB1
 have HB2 := ae hB2
 have HB3 := ae hB3
 clear hW0 hal hB1 hB2 hB3 hWs
 refine (iM lo hi _ _ _ (HX.out.below pI.out) (HY.out.below pI.out) I4.out I5.out).mono ?_
 rintro e w1 ⟨rfl, hb⟩
 have D1 := ae (ay HB1.out hb (ai HB1.out))
 have D2 := ae (ay HB2.out hb (ai HB2.out))
 have E : Hid (w1.heap[w.heap.size + 1 + 1]? = some (.cells (aY dQ dQ) 43 (0, 0))) := ay HB3.out hb (ai HB3.out)
 have HB := ae (bt pI.out hb)
 have HX1 := ae (HX.out.below HB.out)
 have HY1 := ae (HY.out.below HB.out)
 obtain ⟨k0, k1, k2, _, _, _⟩ := eu (x := x) D1.out
 obtain ⟨l0, l1, l2, _, _, _⟩ := eu (x := y) D2.out
 generalize dN lo hi = c at *
 clear hb
 obtain ⟨g0, g1, g2, g3, g4, g5, f0, f1, f2, f3, f4, f5⟩ := dO (x := dQ) (y := dQ) E.out
 go_wp2_with fail
 obtain ⟨h0, h1, h2, h3, h4, h5, _, _, _, _, _, _⟩ := dO (x := x) (y := y) (kU (x := x) (y := y) E.out)
 refine bodyPost_ret (v := (.tuple #[zg x y, .int .i64 0])) (by simp [results, Tryz.results74, go_sem, h0, h1, h2, h3, h4, h5]) rfl ⟨_, rfl, ⟨x, y, rfl, aA.kU HX1.out E.out, aA.kU HY1.out E.out⟩, pU HB.out (by omega)⟩
theorem Gp (lo hi : Rat) (vx vy : Value) (w : World) (hx : aA w vx lo) (hy : aA w vy hi) (hlx : bQ lo 274877906944) (CW : bQ hi 274877906944) (hc : dN lo hi ≤ 0) :
  Calls Tryz.prog 46 #[vx, vy] w (iK lo hi w) := by
 obtain ⟨x, rfl⟩ := hx.bn
 obtain ⟨y, rfl⟩ := hy.bn
 have HX := ae hx
 have HY := ae hy
 have I4 := ae hlx
 have I5 := ae CW
 have HC := ae hc
 clear hx hy hlx CW hc
 go_enter Tryz.func46, Tryz.ntmps46
 go_wp2_with fail
 generalize hW0 : ((w.alloc (.cells x.arr 40)).alloc (.cells y.arr 40)).alloc (.cells _ _) = W at *
 obtain ⟨hal, hB1, hB2, hB3, hWs⟩ := O9 w _ _ _ _ W hW0.symm
 have pI := ae hal
 have HB1 := ae hB1
 have HB2 := ae hB2
 have HB3 := ae hB3
 clear hW0 hal hB1 hB2 hB3 hWs
 refine (aak lo hi _ _ _ (HX.out.below pI.out) (HY.out.below pI.out) I4.out I5.out HC.out).mono ?_
 rintro e w1 ⟨v, rfl, ⟨x', y', rfl, hv1, hv2⟩, hb⟩
 have D1 := ae (ay HB1.out hb (ai HB1.out))
 have D2 := ae (ay HB2.out hb (ai HB2.out))
 have E : Hid (w1.heap[w.heap.size + 1 + 1]? = some (.cells (aY dQ dQ) 43 (0, 0))) := ay HB3.out hb (ai HB3.out)
 have HB := ae (bt pI.out hb)
 have E4 := ae ((heap_alloc_old _ (.cells (aY x' y') 43) (ai E.out)).trans E.out)
 have HV1 := ae (hv1.below (gJ _ (.cells (aY x' y') 43)))
 have HV2 := ae (hv2.below (gJ _ (.cells (aY x' y') 43)))
 clear hb hv1 hv2
 obtain ⟨g0, g1, g2, g3, g4, g5, f0, f1, f2, f3, f4, f5⟩ := dO (x := dQ) (y := dQ) E4.out
 go_wp2_with fail
 obtain ⟨h0, h1, h2, h3, h4, h5, _, _, _, _, _, _⟩ := dO (x := x') (y := y') (kU (x := x') (y := y') E4.out)
 refine bodyPost_ret (v := (zg x' y')) (by simp [results, Tryz.results46, go_sem, h0, h1, h2, h3, h4, h5]) rfl ⟨_, rfl, ⟨x', y', rfl, aA.kU HV1.out E4.out, aA.kU HV2.out E4.out⟩, pU (ba HB.out) (by omega)⟩
end Go.Proofs.YtkblihocfapklaaGreat
