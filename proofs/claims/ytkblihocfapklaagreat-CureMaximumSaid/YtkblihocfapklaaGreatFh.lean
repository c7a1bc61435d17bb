/- Part h of the lemmas and walks. -/
import Derived.Test.YtkblihocfapklaaGreatFg
set_option maxRecDepth 100000
set_option maxHeartbeats 30000000
namespace Go.Proofs.YtkblihocfapklaaGreat
open Go.RowKit
def mQ (X : Nat → Nat → R3) (xe : R3) (i : Nat) : R3 := if 0 < i then X (i - 1) 0 else xe
def mV (n : Nat) (X : Nat → Nat → R3) (xe : R3) (i : Nat) : R3 := if i + 1 < n then X i 0 else xe
def gG (X : Nat → Nat → R3) (xa : R3) (i j : Nat) : R3 := if 0 < i then X (i - 1) j else xa
def gI (n : Nat) (X : Nat → Nat → R3) (xa : R3) (i j : Nat) : R3 := if i + 1 < n then X (i + 1) j else xa
def Ei (a b c d e f g : R3) : Value := .agg #[.bool a.b, .slice a.a a.n a.c, .slice a.d a.m a.e, .bool b.b, .slice b.a b.n b.c, .slice b.d b.m b.e, .bool c.b, .slice c.a c.n c.c, .slice c.d c.m c.e, .bool d.b, .slice d.a d.n d.c, .slice d.d d.m d.e, .bool e.b, .slice e.a e.n e.c, .slice e.d e.m e.e, .bool f.b, .slice f.a f.n f.c, .slice f.d f.m f.e, .bool g.b, .slice g.a g.n g.c, .slice g.d g.m g.e]
def Ej (a b c d e f : R3) : Value := .agg #[.bool a.b, .slice a.a a.n a.c, .slice a.d a.m a.e, .bool b.b, .slice b.a b.n b.c, .slice b.d b.m b.e, .bool c.b, .slice c.a c.n c.c, .slice c.d c.m c.e, .bool d.b, .slice d.a d.n d.c, .slice d.d d.m d.e, .bool e.b, .slice e.a e.n e.c, .slice e.d e.m e.e, .bool f.b, .slice f.a f.n f.c, .slice f.d f.m f.e]
def encR (n : Nat) (X : Nat → Nat → R3) (xa xe : R3) (i : Fin n) : Array Value :=
 #[Ei (X i.1 0) (X i.1 1) (X i.1 2) (X i.1 3) (X i.1 4) (X i.1 5) (X i.1 6), Ej (mQ X xe i.1) (gG X xa i.1 3) (gG X xa i.1 4) (mV n X xe i.1) (gI n X xa i.1 3) (gI n X xa i.1 4)]
theorem oQ {n i : Nat} (h : i < n) : (List.finRange n).take (i + 1) = (List.finRange n).take i ++ [⟨i, h⟩] := by
 rw [← List.take_append_getElem (by simpa using h)]
 simp
theorem pX {n i : Nat} (h : i ≤ n) : ((List.finRange n).take i).length = i := by simp; omega
theorem ad7 (n : Nat) : (List.finRange n).take n = List.finRange n := List.take_of_length_le (by simp)
theorem kS {p : Bool} {w : World} {bk off : Nat} {X : Nat → Nat → R3} {ls : List (List Rat)} (hX : ∀ i, i < ls.length → ∀ j, j < 7 → w.cell? ⟨bk, off + i * (3 * 7) + j * 3, none⟩ = some (.bool (X i j).b) ∧ w.cell? ⟨bk, off + i * (3 * 7) + j * 3 + 1, none⟩ = some (.slice (X i j).a (X i j).n (X i j).c) ∧ w.cell? ⟨bk, off + i * (3 * 7) + j * 3 + 2, none⟩ = some (.slice (X i j).d (X i j).m (X i j).e) ∧ Fr p w (X i j).val ((ls.getD i []).getD j 0)) (i : Nat) (hi : i < ls.length) :
  w.rangeAt bk (off + i * 21) [.bool (X i 0).b, .slice (X i 0).a (X i 0).n (X i 0).c, .slice (X i 0).d (X i 0).m (X i 0).e, .bool (X i 1).b, .slice (X i 1).a (X i 1).n (X i 1).c, .slice (X i 1).d (X i 1).m (X i 1).e, .bool (X i 2).b, .slice (X i 2).a (X i 2).n (X i 2).c, .slice (X i 2).d (X i 2).m (X i 2).e, .bool (X i 3).b, .slice (X i 3).a (X i 3).n (X i 3).c, .slice (X i 3).d (X i 3).m (X i 3).e, .bool (X i 4).b, .slice (X i 4).a (X i 4).n (X i 4).c, .slice (X i 4).d (X i 4).m (X i 4).e, .bool (X i 5).b, .slice (X i 5).a (X i 5).n (X i 5).c, .slice (X i 5).d (X i 5).m (X i 5).e, .bool (X i 6).b, .slice (X i 6).a (X i 6).n (X i 6).c, .slice (X i 6).d (X i 6).m (X i 6).e] := by
 intro j v hj
 obtain ⟨a0, b0, c0, _⟩ := hX i hi 0 (by omega)
 obtain ⟨a1, b1, c1, _⟩ := hX i hi 1 (by omega)
 obtain ⟨a2, b2, c2, _⟩ := hX i hi 2 (by omega)
 obtain ⟨a3, b3, c3, _⟩ := hX i hi 3 (by omega)
 obtain ⟨a4, b4, c4, _⟩ := hX i hi 4 (by omega)
 obtain ⟨a5, b5, c5, _⟩ := hX i hi 5 (by omega)
 obtain ⟨a6, b6, c6, _⟩ := hX i hi 6 (by omega)
 rw [show off + i * (3 * 7) + 0 * 3 = off + i * 21 + 0 by omega] at a0
 rw [show off + i * (3 * 7) + 0 * 3 + 1 = off + i * 21 + 1 by omega] at b0
 rw [show off + i * (3 * 7) + 0 * 3 + 2 = off + i * 21 + 2 by omega] at c0
 rw [show off + i * (3 * 7) + 1 * 3 = off + i * 21 + 3 by omega] at a1
 rw [show off + i * (3 * 7) + 1 * 3 + 1 = off + i * 21 + 4 by omega] at b1
 rw [show off + i * (3 * 7) + 1 * 3 + 2 = off + i * 21 + 5 by omega] at c1
 rw [show off + i * (3 * 7) + 2 * 3 = off + i * 21 + 6 by omega] at a2
 rw [show off + i * (3 * 7) + 2 * 3 + 1 = off + i * 21 + 7 by omega] at b2
 rw [show off + i * (3 * 7) + 2 * 3 + 2 = off + i * 21 + 8 by omega] at c2
 rw [show off + i * (3 * 7) + 3 * 3 = off + i * 21 + 9 by omega] at a3
 rw [show off + i * (3 * 7) + 3 * 3 + 1 = off + i * 21 + 10 by omega] at b3
 rw [show off + i * (3 * 7) + 3 * 3 + 2 = off + i * 21 + 11 by omega] at c3
 rw [show off + i * (3 * 7) + 4 * 3 = off + i * 21 + 12 by omega] at a4
 rw [show off + i * (3 * 7) + 4 * 3 + 1 = off + i * 21 + 13 by omega] at b4
 rw [show off + i * (3 * 7) + 4 * 3 + 2 = off + i * 21 + 14 by omega] at c4
 rw [show off + i * (3 * 7) + 5 * 3 = off + i * 21 + 15 by omega] at a5
 rw [show off + i * (3 * 7) + 5 * 3 + 1 = off + i * 21 + 16 by omega] at b5
 rw [show off + i * (3 * 7) + 5 * 3 + 2 = off + i * 21 + 17 by omega] at c5
 rw [show off + i * (3 * 7) + 6 * 3 = off + i * 21 + 18 by omega] at a6
 rw [show off + i * (3 * 7) + 6 * 3 + 1 = off + i * 21 + 19 by omega] at b6
 rw [show off + i * (3 * 7) + 6 * 3 + 2 = off + i * 21 + 20 by omega] at c6
 generalize off + i * 21 = A at *
 match j, hj with
 | 0, hj => simp at hj; subst hj; exact a0
 | 1, hj => simp at hj; subst hj; exact b0
 | 2, hj => simp at hj; subst hj; exact c0
 | 3, hj => simp at hj; subst hj; exact a1
 | 4, hj => simp at hj; subst hj; exact b1
 | 5, hj => simp at hj; subst hj; exact c1
 | 6, hj => simp at hj; subst hj; exact a2
 | 7, hj => simp at hj; subst hj; exact b2
 | 8, hj => simp at hj; subst hj; exact c2
 | 9, hj => simp at hj; subst hj; exact a3
 | 10, hj => simp at hj; subst hj; exact b3
 | 11, hj => simp at hj; subst hj; exact c3
 | 12, hj => simp at hj; subst hj; exact a4
 | 13, hj => simp at hj; subst hj; exact b4
 | 14, hj => simp at hj; subst hj; exact c4
 | 15, hj => simp at hj; subst hj; exact a5
 | 16, hj => simp at hj; subst hj; exact b5
 | 17, hj => simp at hj; subst hj; exact c5
 | 18, hj => simp at hj; subst hj; exact a6
 | 19, hj => simp at hj; subst hj; exact b6
 | 20, hj => simp at hj; subst hj; exact c6
 | j + 21, hj => simp at hj
theorem dK {w : World} {B T : Nat} {cs : Array Value} {fr : Nat × Nat} (h : w.heap[B]? = some (.cells cs T fr)) : w.rangeAt B 0 cs.toList := fun j v hv => by
 rw [Nat.zero_add, cell_of_row w B j cs T fr h]
 simpa using hv
theorem fO {w : World} {B T : Nat} {cs : Array Value} {fr : Nat × Nat} {o : Obj} (h : w.heap[B]? = some (.cells cs T fr)) : (w.alloc o).rangeAt B 0 cs.toList := World.rangeAt_alloc (dK h) o
theorem f_ {w : World} {B T : Nat} {cs : Array Value} {fr : Nat × Nat} {o o' : Obj} (h : w.heap[B]? = some (.cells cs T fr)) : ((w.alloc o).alloc o').rangeAt B 0 cs.toList := World.rangeAt_alloc (fO h) o'
theorem uH (w : World) (T : TypeId) : ∀ (vs pre : List Value) (zs : Array Value), pre.length + vs.length = zs.size → zs.toList.take pre.length = pre →
  (w.alloc (.cells zs T)).setCells w.heap.size pre.length vs = w.alloc (.cells (pre ++ vs).toArray T)
 | [], pre, zs, h, ht => by
  show w.alloc (.cells zs T) = _
  have : zs = (pre ++ []).toArray := by
   rw [List.append_nil, ← ht, List.take_of_length_le (by simp at h ⊢; omega)]
  rw [← this]
 | v :: vs, pre, zs, h, ht => by
  simp only [List.length_cons] at h
  show ((w.alloc (.cells zs T)).setCell ⟨w.heap.size, pre.length, none⟩ v).setCells w.heap.size (pre.length + 1) vs = _
  rw [World.setCell_alloc_at zs T w.heap.size pre.length v rfl]
  have h2 := uH w T vs (pre ++ [v]) (zs.setIfInBounds pre.length v) (by simp; omega) (by
   rw [Array.toList_setIfInBounds, List.length_append, List.length_singleton]
   have hlt : pre.length < zs.toList.length := by simp; omega
   rw [List.take_set, List.take_add_one, ht]
   simp [hlt, Array.getElem?_eq_getElem (show pre.length < zs.size by omega)])
  rw [List.length_append, List.length_singleton, List.append_assoc, List.singleton_append] at h2
  exact h2
theorem cO {P : Program} {ops : Array Oper} {rest : List Oper} {op : Oper} {a : Act} {w : World} {Q : Exit → Act → World → Prop} (hgd : op.guard = none) (ty : TypeId) (x y : Operand) (ho : op.op = .store ty x y)
  (B : Nat) (hB : w.heap.size = B) (cells zs : Array Value) (T : TypeId) (hx : a.eval x = .pointer (some ⟨B, 0, none⟩)) (hy : a.eval y = .agg cells) (hz : cells.size = zs.size) (hi : (P.info? ty).map (·.size) = some cells.size) (h1 : cells.all (·.oneCell') = true)
  (h : wpList P ops Q rest (a.put op.dst undef) (w.alloc (.cells cells T))) : wpList P ops Q (op :: rest) a (w.alloc (.cells zs T)) := by
 subst hB
 refine wpList_store_mid hgd ty x y ho w.heap.size 0 cells hx hy (oC (aV w zs T) (by omega)) hi h1 ?_
 have := uH w T cells.toList [] zs (by simp; omega) rfl
 rw [List.nil_append] at this
 rw [show (w.alloc (.cells zs T)).setCells w.heap.size 0 cells.toList = w.alloc (.cells cells T) from this]
 exact h
theorem dD {F : Fence} {n : Nat} {P : Program} {ops : Array Oper} {rest : List Oper} {op : Oper} {a : Act} {w : World} {Q : Exit → Act → World → Prop} (hgd : op.guard = none) (ty : TypeId) (x : Operand) (ho : op.op = .load ty x)
  (b o : Nat) (hx : a.eval x = .pointer (some ⟨b, o, none⟩)) (cs : List Value) (d : TypeDesc) (hc : w.rangeAt b o cs)
  (hu : P.underlying ty = some d) (hd : d.isRow = true) (hi : (P.info? ty).map (·.size) = some cs.length)
  (h : wpListIn F n P ops Q rest (a.put op.dst (.agg cs.toArray)) w) : wpListIn F n P ops Q (op :: rest) a w :=
 wpListIn_plain hgd fun K hK => by
  unfold Oper.wpIn
  refine ⟨fun f hf => ?_, ?_⟩
  · simp [Oper.about, ho] at hf
  ·
   rw [Oper.semAt_eq _ _ _ (by intro c; rw [ho]; simp), Gy ty x ho b o hx cs d hc hu hd hi]
   exact hK _ _ h
def adI (n : Nat) (J Jx : List (Fin n) → World → Prop) (e : Ending) (W' : World) : Prop :=
 (∃ v, e = .returned v) ∧ ((∃ ys, ys = List.finRange n ∧ J ys W') ∨ (∃ pre, pre <+: List.finRange n ∧ Jx pre W'))
theorem Sx.ach {w0 w : World} {bs : List Bx} {fs : List Fx} (h : Sx w0 w bs fs) (i : Nat) (o0 : R3) (o1 : R3) (o2 : R3) (n0 : R3) (n1 : R3) (n2 : R3) {B T : Nat} (hi : bs[i]? = some (B, #[.bool o0.b, .slice o0.a o0.n o0.c, .slice o0.d o0.m o0.e, .bool o1.b, .slice o1.a o1.n o1.c, .slice o1.d o1.m o1.e, .bool o2.b, .slice o2.a o2.n o2.c, .slice o2.d o2.m o2.e], T)) :
  Sx w0 ((((((((((w).setCell ⟨B, 0, none⟩ (.bool n0.b)).setCell ⟨B, 1, none⟩ (.slice n0.a n0.n n0.c)).setCell ⟨B, 2, none⟩ (.slice n0.d n0.m n0.e)).setCell ⟨B, 3, none⟩ (.bool n1.b)).setCell ⟨B, 4, none⟩ (.slice n1.a n1.n n1.c)).setCell ⟨B, 5, none⟩ (.slice n1.d n1.m n1.e)).setCell ⟨B, 6, none⟩ (.bool n2.b)).setCell ⟨B, 7, none⟩ (.slice n2.a n2.n n2.c)).setCell ⟨B, 8, none⟩ (.slice n2.d n2.m n2.e)) (bs.set i (B, #[.bool n0.b, .slice n0.a n0.n n0.c, .slice n0.d n0.m n0.e, .bool n1.b, .slice n1.a n1.n n1.c, .slice n1.d n1.m n1.e, .bool n2.b, .slice n2.a n2.n n2.c, .slice n2.d n2.m n2.e], T)) fs := by
 have hl := (List.getElem?_eq_some_iff.1 hi).1
 have g := (((((((((h).set i hi 0 (v := .bool n0.b) rfl).set i (by rw [List.getElem?_set, if_pos rfl, if_pos (by simpa using hl)]) 1 (v := .slice n0.a n0.n n0.c) rfl).set i (by rw [List.getElem?_set, if_pos rfl, if_pos (by simpa using hl)]) 2 (v := .slice n0.d n0.m n0.e) rfl).set i (by rw [List.getElem?_set, if_pos rfl, if_pos (by simpa using hl)]) 3 (v := .bool n1.b) rfl).set i (by rw [List.getElem?_set, if_pos rfl, if_pos (by simpa using hl)]) 4 (v := .slice n1.a n1.n n1.c) rfl).set i (by rw [List.getElem?_set, if_pos rfl, if_pos (by simpa using hl)]) 5 (v := .slice n1.d n1.m n1.e) rfl).set i (by rw [List.getElem?_set, if_pos rfl, if_pos (by simpa using hl)]) 6 (v := .bool n2.b) rfl).set i (by rw [List.getElem?_set, if_pos rfl, if_pos (by simpa using hl)]) 7 (v := .slice n2.a n2.n n2.c) rfl).set i (by rw [List.getElem?_set, if_pos rfl, if_pos (by simpa using hl)]) 8 (v := .slice n2.d n2.m n2.e) rfl
 simpa using g
theorem Sx.oN {w0 w : World} {bs : List Bx} {fs : List Fx} (h : Sx w0 w bs fs) (i : Nat) (o0 : R3) (o1 : R3) (o2 : R3) (o3 : R3) (o4 : R3) (o5 : R3) (n0 : R3) (n1 : R3) (n2 : R3) {B T : Nat} (hi : bs[i]? = some (B, #[.bool o0.b, .slice o0.a o0.n o0.c, .slice o0.d o0.m o0.e, .bool o1.b, .slice o1.a o1.n o1.c, .slice o1.d o1.m o1.e, .bool o2.b, .slice o2.a o2.n o2.c, .slice o2.d o2.m o2.e, .bool o3.b, .slice o3.a o3.n o3.c, .slice o3.d o3.m o3.e, .bool o4.b, .slice o4.a o4.n o4.c, .slice o4.d o4.m o4.e, .bool o5.b, .slice o5.a o5.n o5.c, .slice o5.d o5.m o5.e], T)) :
  Sx w0 ((((((((((w).setCell ⟨B, 0, none⟩ (.bool n0.b)).setCell ⟨B, 1, none⟩ (.slice n0.a n0.n n0.c)).setCell ⟨B, 2, none⟩ (.slice n0.d n0.m n0.e)).setCell ⟨B, 3, none⟩ (.bool n1.b)).setCell ⟨B, 4, none⟩ (.slice n1.a n1.n n1.c)).setCell ⟨B, 5, none⟩ (.slice n1.d n1.m n1.e)).setCell ⟨B, 6, none⟩ (.bool n2.b)).setCell ⟨B, 7, none⟩ (.slice n2.a n2.n n2.c)).setCell ⟨B, 8, none⟩ (.slice n2.d n2.m n2.e)) (bs.set i (B, #[.bool n0.b, .slice n0.a n0.n n0.c, .slice n0.d n0.m n0.e, .bool n1.b, .slice n1.a n1.n n1.c, .slice n1.d n1.m n1.e, .bool n2.b, .slice n2.a n2.n n2.c, .slice n2.d n2.m n2.e, .bool o3.b, .slice o3.a o3.n o3.c, .slice o3.d o3.m o3.e, .bool o4.b, .slice o4.a o4.n o4.c, .slice o4.d o4.m o4.e, .bool o5.b, .slice o5.a o5.n o5.c, .slice o5.d o5.m o5.e], T)) fs := by
 have hl := (List.getElem?_eq_some_iff.1 hi).1
 have g := (((((((((h).set i hi 0 (v := .bool n0.b) rfl).set i (by rw [List.getElem?_set, if_pos rfl, if_pos (by simpa using hl)]) 1 (v := .slice n0.a n0.n n0.c) rfl).set i (by rw [List.getElem?_set, if_pos rfl, if_pos (by simpa using hl)]) 2 (v := .slice n0.d n0.m n0.e) rfl).set i (by rw [List.getElem?_set, if_pos rfl, if_pos (by simpa using hl)]) 3 (v := .bool n1.b) rfl).set i (by rw [List.getElem?_set, if_pos rfl, if_pos (by simpa using hl)]) 4 (v := .slice n1.a n1.n n1.c) rfl).set i (by rw [List.getElem?_set, if_pos rfl, if_pos (by simpa using hl)]) 5 (v := .slice n1.d n1.m n1.e) rfl).set i (by rw [List.getElem?_set, if_pos rfl, if_pos (by simpa using hl)]) 6 (v := .bool n2.b) rfl).set i (by rw [List.getElem?_set, if_pos rfl, if_pos (by simpa using hl)]) 7 (v := .slice n2.a n2.n n2.c) rfl).set i (by rw [List.getElem?_set, if_pos rfl, if_pos (by simpa using hl)]) 8 (v := .slice n2.d n2.m n2.e) rfl
 simpa using g
theorem Sx.oO {w0 w : World} {bs : List Bx} {fs : List Fx} (h : Sx w0 w bs fs) (i : Nat) (o0 : R3) (o1 : R3) (o2 : R3) (o3 : R3) (o4 : R3) (o5 : R3) (n3 : R3) (n4 : R3) (n5 : R3) {B T : Nat} (hi : bs[i]? = some (B, #[.bool o0.b, .slice o0.a o0.n o0.c, .slice o0.d o0.m o0.e, .bool o1.b, .slice o1.a o1.n o1.c, .slice o1.d o1.m o1.e, .bool o2.b, .slice o2.a o2.n o2.c, .slice o2.d o2.m o2.e, .bool o3.b, .slice o3.a o3.n o3.c, .slice o3.d o3.m o3.e, .bool o4.b, .slice o4.a o4.n o4.c, .slice o4.d o4.m o4.e, .bool o5.b, .slice o5.a o5.n o5.c, .slice o5.d o5.m o5.e], T)) :
  Sx w0 ((((((((((w).setCell ⟨B, 9, none⟩ (.bool n3.b)).setCell ⟨B, 10, none⟩ (.slice n3.a n3.n n3.c)).setCell ⟨B, 11, none⟩ (.slice n3.d n3.m n3.e)).setCell ⟨B, 12, none⟩ (.bool n4.b)).setCell ⟨B, 13, none⟩ (.slice n4.a n4.n n4.c)).setCell ⟨B, 14, none⟩ (.slice n4.d n4.m n4.e)).setCell ⟨B, 15, none⟩ (.bool n5.b)).setCell ⟨B, 16, none⟩ (.slice n5.a n5.n n5.c)).setCell ⟨B, 17, none⟩ (.slice n5.d n5.m n5.e)) (bs.set i (B, #[.bool o0.b, .slice o0.a o0.n o0.c, .slice o0.d o0.m o0.e, .bool o1.b, .slice o1.a o1.n o1.c, .slice o1.d o1.m o1.e, .bool o2.b, .slice o2.a o2.n o2.c, .slice o2.d o2.m o2.e, .bool n3.b, .slice n3.a n3.n n3.c, .slice n3.d n3.m n3.e, .bool n4.b, .slice n4.a n4.n n4.c, .slice n4.d n4.m n4.e, .bool n5.b, .slice n5.a n5.n n5.c, .slice n5.d n5.m n5.e], T)) fs := by
 have hl := (List.getElem?_eq_some_iff.1 hi).1
 have g := (((((((((h).set i hi 9 (v := .bool n3.b) rfl).set i (by rw [List.getElem?_set, if_pos rfl, if_pos (by simpa using hl)]) 10 (v := .slice n3.a n3.n n3.c) rfl).set i (by rw [List.getElem?_set, if_pos rfl, if_pos (by simpa using hl)]) 11 (v := .slice n3.d n3.m n3.e) rfl).set i (by rw [List.getElem?_set, if_pos rfl, if_pos (by simpa using hl)]) 12 (v := .bool n4.b) rfl).set i (by rw [List.getElem?_set, if_pos rfl, if_pos (by simpa using hl)]) 13 (v := .slice n4.a n4.n n4.c) rfl).set i (by rw [List.getElem?_set, if_pos rfl, if_pos (by simpa using hl)]) 14 (v := .slice n4.d n4.m n4.e) rfl).set i (by rw [List.getElem?_set, if_pos rfl, if_pos (by simpa using hl)]) 15 (v := .bool n5.b) rfl).set i (by rw [List.getElem?_set, if_pos rfl, if_pos (by simpa using hl)]) 16 (v := .slice n5.a n5.n n5.c) rfl).set i (by rw [List.getElem?_set, if_pos rfl, if_pos (by simpa using hl)]) 17 (v := .slice n5.d n5.m n5.e) rfl
 simpa using g
theorem row_in (ls : List (List Rat)) (dX ed : Rat) (X : Nat → Nat → R3) (xa xe : R3) (bk off cap : Nat) (w0 : World) (hlen : ls.length ≤ 1000000) (hbl : bk < w0.heap.size) (hX : (∀ i, i < ls.length → ∀ j, j < 7 → w0.cell? ⟨bk, off + i * (3 * 7) + j * 3, none⟩ = some (.bool (X i j).b) ∧ w0.cell? ⟨bk, off + i * (3 * 7) + j * 3 + 1, none⟩ = some (.slice (X i j).a (X i j).n (X i j).c) ∧ w0.cell? ⟨bk, off + i * (3 * 7) + j * 3 + 2, none⟩ = some (.slice (X i j).d (X i j).m (X i j).e) ∧ Fr true w0 (X i j).val ((ls.getD i []).getD j 0))) (hf : Sx w0 w0 [] [(true, xe.val, ed), (true, xa.val, dX)]) (Be Ba Bl lb n : Nat) (J Jx : List (Fin ls.length) → World → Prop) (W : World)
  (hS : Sx w0 W [(Bl, #[.slice (some ⟨bk, off, none⟩) ls.length cap], 31), (Ba, xa.arr, 40), (Be, xe.arr, 40)] []) (hJa : AbidesFrom W.heap.size J)
  (hY : ∀ pre x W1, J pre W1 → pre.length < ls.length → YieldAt Fence.wide (n - 1) Tryz.prog lb (encR ls.length X xa xe x) W1 fun e W' => (e = .returned (.bool true) ∧ J (pre ++ [x]) W' ∧ Rw 101 w0.heap.size [Be, Ba, Bl] W1 W') ∨ (e = .returned (.bool false) ∧ Jx (pre ++ [x]) W'))
  (h0 : J [] W) :
  CallsIn Fence.wide n Tryz.prog 71 #[.func (.yield lb) #[] #[], .pointer (some ⟨Be, 0, none⟩), .pointer (some ⟨Ba, 0, none⟩), .pointer (some ⟨Bl, 0, none⟩)] W (adI ls.length J Jx) := by
 have HS := ae ((hS.az (hf.p 1 _ _ rfl |>.below hS.bel)).az (hf.p 0 _ _ rfl |>.below hS.bel))
 have HF0 := ae hf
 have HX := ae hX
 have fU := ae hbl
 have HJ := ae hJa
 have HY := ae hY
 have H0 := ae h0
 have HM0 := ae (Below.refl W.heap.size W)
 clear hS hf hX hbl hJa hY h0
 refine callsIn_wide.2 ?_
 go_enter Tryz.func71, Tryz.ntmps71
 go_wp2_with fail
 refine wp_region_held_drew (S := (fun w' => Sx w0 w' [(Bl, #[.slice (some ⟨bk, off, none⟩) ls.length cap], 31), (Ba, xa.arr, 40), (Be, xe.arr, 40)] [])) (by kernel_rfl) ((HS.out.drew).bare) (fun hh => ?_)
 replace HS := ae HS.out.drew
 replace HM0 := ae (ax HM0.out (Below.refl _ _).drew)
 have BM := ae HS.out.bel.size
 have aoK := ae HM0.out.size
 refine dF (i := 0) (v := ?vk2) rfl ?hk2 ?rk2
 case hk2 => intro u aH; (try dsimp only at aH); obtain ⟨kH, kJ, kK, _⟩ := eu (x := xe) (aH.at 2 _ _ _ rfl); clear aH; go_simp <;> with_reducible rfl
 try simp only [ag]
 refine dF (i := 1) (v := ?vk3) rfl ?hk3 ?rk3
 case hk3 => intro u aH; (try dsimp only at aH); obtain ⟨rC, rD, rE, _⟩ := eu (x := xa) (aH.at 1 _ _ _ rfl); clear aH; go_simp <;> with_reducible rfl
 try simp only [ag]
 refine dY [2, 3, 4] [2, 4] [3] [11, 12, 5] #[true, true, true, true, true, false] 1 [(2, 11), (3, 12), (4, 5)] [(2, []), (3, [2]), (4, [])] [4] [(2, fun v w => v = .agg #[.bool xa.b, .slice xa.a xa.n xa.c, .slice xa.d xa.m xa.e, .bool xa.b, .slice xa.a xa.n xa.c, .slice xa.d xa.m xa.e]), (3, fun v w => v = .agg #[.bool xe.b, .slice xe.a xe.n xe.c, .slice xe.d xe.m xe.e, .bool xa.b, .slice xa.a xa.n xa.c, .slice xa.d xa.m xa.e, .bool xa.b, .slice xa.a xa.n xa.c, .slice xa.d xa.m xa.e]), (4, fun v w => ∃ fK : Nat, v = .pointer (some ⟨fK, 0, none⟩) ∧ W.drew.heap.size ≤ fK ∧ w.heap[fK]? = some (.cells #[.bool false, .slice none 0 0, .slice none 0 0, .bool false, .slice none 0 0, .slice none 0 0, .bool false, .slice none 0 0, .slice none 0 0] 101 (0, 0)))]
  rfl (by kernel_rfl) (by decide) rfl ⟨(fun v w w' hb e => e), ⟨(fun v w w' hb e => e), ⟨(fun v w w' hb ⟨B, e, g, k⟩ => ⟨B, e, g, ay k hb (ai k)⟩), trivial⟩⟩⟩ ⟨fun v w ⟨B, e, g, k⟩ => ⟨B, e, ai k⟩, trivial⟩ (fun w' hb => Sx.below hh hb) ⟨?_, ?_, trivial⟩ ⟨?_, trivial⟩ (by decide) ?_
 ·
  refine dI.of rfl (fun f w' hb hp K hK => ?_)
  have pJ := HS
  replace HS := ae (HS.out.below hb)
  simp only [aQ, aT, List.foldl_cons, List.foldl_nil, ag]
  go_simp
  go_wp2_with (go_at_call 8; (with_reducible refine (x8 xa _).mono ?_); rintro e w4 ⟨rfl, hb4⟩)
  exact hK.out _ _ (.agg #[.bool xa.b, .slice xa.a xa.n xa.c, .slice xa.d xa.m xa.e, .bool xa.b, .slice xa.a xa.n xa.c, .slice xa.d xa.m xa.e]) (by simp only [aQ, aT, List.foldl_cons, List.foldl_nil, ag]) rfl (fun h => absurd h (by decide)) hb4
 ·
  refine dI.of rfl (fun f w' hb hp K hK => ?_)
  have pJ := HS
  replace HS := ae (HS.out.below hb)
  simp only [aQ, aT, List.foldl_cons, List.foldl_nil, ag]
  go_simp
  exact hK.out _ _ (.pointer (some ⟨w'.heap.size, 0, none⟩)) (by simp only [aQ, aT, List.foldl_cons, List.foldl_nil, ag]) ⟨_, rfl, hb.size, aV _ _ _⟩ (fun _ => rfl) (gJ w' _)
 ·
  refine mY.of rfl (fun f w' hb hp => ?_)
  obtain e2 : f 11 = .agg #[.bool xa.b, .slice xa.a xa.n xa.c, .slice xa.d xa.m xa.e, .bool xa.b, .slice xa.a xa.n xa.c, .slice xa.d xa.m xa.e] := hp 2 (by decide)
  refine ⟨.agg #[.bool xe.b, .slice xe.a xe.n xe.c, .slice xe.d xe.m xe.e, .bool xa.b, .slice xa.a xa.n xa.c, .slice xa.d xa.m xa.e, .bool xa.b, .slice xa.a xa.n xa.c, .slice xa.d xa.m xa.e], rfl, by first | rfl | kernel_rfl, fun u => ?_⟩
  simp only [aQ, aT, List.foldl_cons, List.foldl_nil, ag, e2]
  go_simp <;> with_reducible rfl
 ·
  intro f Rf hb hp hd
  obtain e2 : f 11 = .agg #[.bool xa.b, .slice xa.a xa.n xa.c, .slice xa.d xa.m xa.e, .bool xa.b, .slice xa.a xa.n xa.c, .slice xa.d xa.m xa.e] := hp 2 (by decide)
  obtain e3 : f 12 = .agg #[.bool xe.b, .slice xe.a xe.n xe.c, .slice xe.d xe.m xe.e, .bool xa.b, .slice xa.a xa.n xa.c, .slice xa.d xa.m xa.e, .bool xa.b, .slice xa.a xa.n xa.c, .slice xa.d xa.m xa.e] := hp 3 (by decide)
  obtain ⟨fK, e4, g4, k4⟩ : ∃ fK : Nat, f 5 = .pointer (some ⟨fK, 0, none⟩) ∧ W.drew.heap.size ≤ fK ∧ Rf.heap[fK]? = some (.cells #[.bool false, .slice none 0 0, .slice none 0 0, .bool false, .slice none 0 0, .slice none 0 0, .bool false, .slice none 0 0, .slice none 0 0] 101 (0, 0)) := hp 4 (by decide)
  replace hh := Sx.below hh hb
  have hlt := HS.out.lt
  replace HS := ae (HS.out.below hb)
  replace HM0 := ae (ax HM0.out hb)
  have hge4 : w0.heap.size ≤ fK := Nat.le_trans BM.out g4
  have aqC : ∀ b, b ∈ ([(Bl, #[.slice (some ⟨bk, off, none⟩) ls.length cap], 31), (Ba, xa.arr, 40), (Be, xe.arr, 40)] : List Bx) → b.1 ≠ fK := by
   intro b hb
   simp only [List.mem_cons, List.not_mem_nil, or_false] at hb
   rcases hb with rfl | rfl | rfl
   · have := hlt _ (List.mem_iff_getElem?.2 ⟨0, rfl⟩); dsimp only at this ⊢; omega
   · have := hlt _ (List.mem_iff_getElem?.2 ⟨1, rfl⟩); dsimp only at this ⊢; omega
   · have := hlt _ (List.mem_iff_getElem?.2 ⟨2, rfl⟩); dsimp only at this ⊢; omega
  replace HS := ae (HS.out.ku k4 hge4 (by rfl) aqC)
  have HG5 : Hid (W.heap.size ≤ fK) := Nat.le_trans aoK.out g4
  simp only [aQ, aT, List.foldl_cons, List.foldl_nil, ag, e2, e3, e4]
  clear hp hd hb hlt e2 e3 e4
  refine rdA (i := 5) rfl (fun K hK => ?_)
  refine kV (W' := (((((((((Rf).setCell ⟨fK, 0, none⟩ (.bool xe.b)).setCell ⟨fK, 1, none⟩ (.slice xe.a xe.n xe.c)).setCell ⟨fK, 2, none⟩ (.slice xe.d xe.m xe.e)).setCell ⟨fK, 3, none⟩ (.bool xa.b)).setCell ⟨fK, 4, none⟩ (.slice xa.a xa.n xa.c)).setCell ⟨fK, 5, none⟩ (.slice xa.d xa.m xa.e)).setCell ⟨fK, 6, none⟩ (.bool xa.b)).setCell ⟨fK, 7, none⟩ (.slice xa.a xa.n xa.c)).setCell ⟨fK, 8, none⟩ (.slice xa.d xa.m xa.e)) rfl 101 (.tmp 5) (.tmp 12) rfl fK 0 #[.bool xe.b, .slice xe.a xe.n xe.c, .slice xe.d xe.m xe.e, .bool xa.b, .slice xa.a xa.n xa.c, .slice xa.d xa.m xa.e, .bool xa.b, .slice xa.a xa.n xa.c, .slice xa.d xa.m xa.e] rfl rfl (oC (HS.out.at 0 _ _ _ rfl) (by simp)) (by kernel_rfl) (by simp [Value.oneCell']) rfl ?_
  refine hK.out _ _ ((((HS.out).ach 0 dQ dQ dQ xe xa xa rfl)).erase 0) (fun hh => ?_)
  clear hK K 
  try simp only [ag]
  generalize hW6 : (((((((((Rf).setCell _ _).setCell _ _).setCell _ _).setCell _ _).setCell _ _).setCell _ _).setCell _ _).setCell _ _).setCell _ _ = W6 at *
  replace HS := ae (((HS.out).ach 0 dQ dQ dQ xe xa xa rfl).to hW6 (by (try simp only [ig, ik]); rfl))
  replace HM0 : Hid (Below W.heap.size W W6) := by subst hW6; exact ae (bC (bC (bC (bC (bC (bC (bC (bC (bC HM0.out HG5.out) HG5.out) HG5.out) HG5.out) HG5.out) HG5.out) HG5.out) HG5.out) HG5.out)
  clear hW6
  refine wpAnyH_done (by kernel_rfl) ?_ _
  have jf := (HS.out.at 1 _ _ _ rfl)
  have jJ := af jf 0 (.slice (some ⟨bk, off, none⟩) ls.length cap) rfl
  have kP := ah jf 0
  have vS := ai jf
  clear jf
  go_wp2_with fail
  clear jJ kP vS
  go_wp2_with fail
  go_loopw [15] (fun u15 wr => ∃ (i : Nat), i ≤ ls.length ∧ u15 = .int .i64 i ∧ Hid (J ((List.finRange ls.length).take i) wr) ∧ Hid (Sx w0 wr [(fK, #[.bool xe.b, .slice xe.a xe.n xe.c, .slice xe.d xe.m xe.e, .bool xa.b, .slice xa.a xa.n xa.c, .slice xa.d xa.m xa.e, .bool xa.b, .slice xa.a xa.n xa.c, .slice xa.d xa.m xa.e], 101), (Bl, #[.slice (some ⟨bk, off, none⟩) ls.length cap], 31), (Ba, xa.arr, 40), (Be, xe.arr, 40)] [(true, xe.val, ed), (true, xa.val, dX)]))
   (fun u _ => ls.length - (intOf u).toNat)
  case atStart => exact ⟨0, Nat.zero_le _, rfl, HJ.out _ _ _ none H0.out (grownBy_below HM0.out none) (fun r e => by cases e), ae (((HS.out.bare).az (HS.out.p 1 _ _ rfl)).az (HS.out.p 0 _ _ rfl))⟩
  case round =>
   obtain ⟨fP, aqR⟩ : ∃ z, z = wr := ⟨_, rfl⟩
   subst aqR
   clear HS
   obtain ⟨i, hi, rfl, HJR, HS⟩ := hrel
   by_cases hlt : i < ls.length
   ·
    have hlt' : (i : Int) < ls.length := by omega
    have hge' : (0 : Int) ≤ i := by omega
    have gq := ae hlt
    have jq := ae (Below.refl fP.heap.size fP)
    obtain ⟨Ac, hAc⟩ : ∃ z, off + i * 21 = z := ⟨_, rfl⟩
    have cG := kS HX.out i hlt
    rw [hAc] at cG
    obtain ⟨c0, hc0⟩ : ∃ z, X i 0 = z := ⟨_, rfl⟩
    rw [hc0] at cG
    have Hc0 := ae hc0
    clear hc0
    obtain ⟨c1, hc1⟩ : ∃ z, X i 1 = z := ⟨_, rfl⟩
    rw [hc1] at cG
    have Hc1 := ae hc1
    clear hc1
    obtain ⟨c2, hc2⟩ : ∃ z, X i 2 = z := ⟨_, rfl⟩
    rw [hc2] at cG
    have Hc2 := ae hc2
    clear hc2
    obtain ⟨c3, hc3⟩ : ∃ z, X i 3 = z := ⟨_, rfl⟩
    rw [hc3] at cG
    have Hc3 := ae hc3
    clear hc3
    obtain ⟨c4, hc4⟩ : ∃ z, X i 4 = z := ⟨_, rfl⟩
    rw [hc4] at cG
    have Hc4 := ae hc4
    clear hc4
    obtain ⟨c5, hc5⟩ : ∃ z, X i 5 = z := ⟨_, rfl⟩
    rw [hc5] at cG
    have Hc5 := ae hc5
    clear hc5
    obtain ⟨c6, hc6⟩ : ∃ z, X i 6 = z := ⟨_, rfl⟩
    rw [hc6] at cG
    have Hc6 := ae hc6
    clear hc6
    have cR := ae cG
    clear cG
    by_cases hp : 0 < i
    ·
     obtain ⟨j, hj⟩ : ∃ j, i = j + 1 := ⟨i - 1, by omega⟩
     have hjl : j < ls.length := by omega
     obtain ⟨Ad, hAd⟩ : ∃ z, off + j * 21 = z := ⟨_, rfl⟩
     have dG := kS HX.out j hjl
     rw [hAd] at dG
     obtain ⟨d0, hd0⟩ : ∃ z, X j 0 = z := ⟨_, rfl⟩
     rw [hd0] at dG
     have Hd0 := ae hd0
     clear hd0
     obtain ⟨d3, hd3⟩ : ∃ z, X j 3 = z := ⟨_, rfl⟩
     rw [hd3] at dG
     have Hd3 := ae hd3
     clear hd3
     obtain ⟨d4, hd4⟩ : ∃ z, X j 4 = z := ⟨_, rfl⟩
     rw [hd4] at dG
     have Hd4 := ae hd4
     clear hd4
     have dR := ae dG
     clear dG
     have hw : IntKind.i64.wrap ((i : Int) - 1) = (j : Int) := (IntWalk.i64_in _ (by omega)).trans (by omega)
     have hj1 : (0 : Int) ≤ j := by omega
     have hj2 : (j : Int) < ls.length := by omega
     have tp1 : decide ((i : Int) > 0) = true := decide_eq_true (by omega)
     have tp2 : decide (0 < i) = true := decide_eq_true hp
     have hpI : (0 : Int) < i := by omega
     have HP := ae hp
     have HJ1 : Hid (i - 1 = j) := by show _ = _; omega
     clear hjl hj hp
     by_cases hq : i + 1 < ls.length
     ·
      obtain ⟨m, hm⟩ : ∃ m, m = i + 1 := ⟨_, rfl⟩
      have hml : m < ls.length := by omega
      obtain ⟨Af, hAf⟩ : ∃ z, off + m * 21 = z := ⟨_, rfl⟩
      have fG := kS HX.out m hml
      rw [hAf] at fG
      obtain ⟨f3, hf3⟩ : ∃ z, X m 3 = z := ⟨_, rfl⟩
      rw [hf3] at fG
      have Hf3 := ae hf3
      clear hf3
      obtain ⟨f4, hf4⟩ : ∃ z, X m 4 = z := ⟨_, rfl⟩
      rw [hf4] at fG
      have Hf4 := ae hf4
      clear hf4
      have fR := ae fG
      clear fG
      have hw2 : IntKind.i64.wrap ((i : Int) + 1) = (m : Int) := (IntWalk.i64_in _ (by omega)).trans (by omega)
      have hm1 : (0 : Int) ≤ m := by omega
      have hm2 : (m : Int) < ls.length := by omega
      have tm1 : decide ((m : Int) < ls.length) = true := decide_eq_true hm2
      have tm2 : decide (m < ls.length) = true := decide_eq_true hml
      have HQ := ae hq
      have HM1 := ae hm
      clear hml hm hq
      have Hg3 : X (i + 1) 3 = f3 := by rw [← HM1.out]; exact Hf3.out
      have Hg4 : X (i + 1) 4 = f4 := by rw [← HM1.out]; exact Hf4.out
      have HEN : Hid (encR ls.length X xa xe ⟨i, hlt⟩ = #[Ei c0 c1 c2 c3 c4 c5 c6, Ej d0 d3 d4 c0 f3 f4]) := by
       show _ = _
       unfold encR mQ mV gG gI
       dsimp only
       simp only [if_pos HP.out, if_pos HQ.out, HJ1.out, Hc0.out, Hc1.out, Hc2.out, Hc3.out, Hc4.out, Hc5.out, Hc6.out, Hd0.out, Hd3.out, Hd4.out, Hg3, Hg4]
      clear Hg3 Hg4
      go_wp2_with (first | (refine wpList_load_mid rfl 46 (.tmp 18) rfl bk Ac rfl _ _ (jA cR.out HS.out.bel fU.out) Tryz.underlying46 rfl (by kernel_rfl) ?_) | (refine cO rfl 46 (.tmp 7) (.tmp 19) rfl fP.heap.size rfl #[.bool c0.b, .slice c0.a c0.n c0.c, .slice c0.d c0.m c0.e, .bool c1.b, .slice c1.a c1.n c1.c, .slice c1.d c1.m c1.e, .bool c2.b, .slice c2.a c2.n c2.c, .slice c2.d c2.m c2.e, .bool c3.b, .slice c3.a c3.n c3.c, .slice c3.d c3.m c3.e, .bool c4.b, .slice c4.a c4.n c4.c, .slice c4.d c4.m c4.e, .bool c5.b, .slice c5.a c5.n c5.c, .slice c5.d c5.m c5.e, .bool c6.b, .slice c6.a c6.n c6.c, .slice c6.d c6.m c6.e] #[.bool false, .slice none 0 0, .slice none 0 0, .bool false, .slice none 0 0, .slice none 0 0, .bool false, .slice none 0 0, .slice none 0 0, .bool false, .slice none 0 0, .slice none 0 0, .bool false, .slice none 0 0, .slice none 0 0, .bool false, .slice none 0 0, .slice none 0 0, .bool false, .slice none 0 0, .slice none 0 0] _ rfl rfl (by simp) (by kernel_rfl) (by simp [Value.oneCell']) ?_) | (refine wpList_load_mid rfl 101 (.tmp 5) rfl fK 0 rfl [.bool xe.b, .slice xe.a xe.n xe.c, .slice xe.d xe.m xe.e, .bool xa.b, .slice xa.a xa.n xa.c, .slice xa.d xa.m xa.e, .bool xa.b, .slice xa.a xa.n xa.c, .slice xa.d xa.m xa.e] _ (dK (HS.out.at 0 _ _ _ rfl)) Tryz.underlying101 rfl (by kernel_rfl) ?_) | (refine wpList_load_mid rfl 101 (.tmp 5) rfl fK 0 rfl [.bool xe.b, .slice xe.a xe.n xe.c, .slice xe.d xe.m xe.e, .bool xa.b, .slice xa.a xa.n xa.c, .slice xa.d xa.m xa.e, .bool xa.b, .slice xa.a xa.n xa.c, .slice xa.d xa.m xa.e] _ (fO (HS.out.at 0 _ _ _ rfl)) Tryz.underlying101 rfl (by kernel_rfl) ?_) | (refine wpList_load_mid rfl 101 (.tmp 5) rfl fK 0 rfl [.bool xe.b, .slice xe.a xe.n xe.c, .slice xe.d xe.m xe.e, .bool xa.b, .slice xa.a xa.n xa.c, .slice xa.d xa.m xa.e, .bool xa.b, .slice xa.a xa.n xa.c, .slice xa.d xa.m xa.e] _ (f_ (HS.out.at 0 _ _ _ rfl)) Tryz.underlying101 rfl (by kernel_rfl) ?_) | (refine cO rfl 102 (.tmp 8) (.tmp 22) rfl (fP.heap.size + 1) (by simp) #[.bool xe.b, .slice xe.a xe.n xe.c, .slice xe.d xe.m xe.e, .bool xa.b, .slice xa.a xa.n xa.c, .slice xa.d xa.m xa.e, .bool xa.b, .slice xa.a xa.n xa.c, .slice xa.d xa.m xa.e, .bool xe.b, .slice xe.a xe.n xe.c, .slice xe.d xe.m xe.e, .bool xa.b, .slice xa.a xa.n xa.c, .slice xa.d xa.m xa.e, .bool xa.b, .slice xa.a xa.n xa.c, .slice xa.d xa.m xa.e] #[.bool false, .slice none 0 0, .slice none 0 0, .bool false, .slice none 0 0, .slice none 0 0, .bool false, .slice none 0 0, .slice none 0 0, .bool false, .slice none 0 0, .slice none 0 0, .bool false, .slice none 0 0, .slice none 0 0, .bool false, .slice none 0 0, .slice none 0 0] _ rfl rfl (by simp) (by kernel_rfl) (by simp [Value.oneCell']) ?_))
      have HG9 : Hid (fP.heap.size ≤ fP.heap.size) := by first | exact jq.out.size | (show _ ≤ _; have := jq.out.size; omega)
      have tX : Hid (fP.heap.size ≤ fP.heap.size + 1) := by first | exact jq.out.size | (show _ ≤ _; have := jq.out.size; omega)
      generalize hW8 : ((fP).alloc (.cells _ _)).alloc (.cells _ _) = W8 at *
      replace HS := ae ((((HS.out).alloc (B := fP.heap.size) rfl (by rfl)).alloc (B := fP.heap.size + 1) (by simp) (by rfl)).to hW8 (by (try simp only [ig, ik]); rfl))
      replace jq : Hid (Below fP.heap.size fP W8) := by subst hW8; exact ae ((dC (dC jq.out)))
      clear hW8
      refine wp_region_held_drew (S := (fun w' => Sx w0 w' [(fP.heap.size, #[.bool c0.b, .slice c0.a c0.n c0.c, .slice c0.d c0.m c0.e, .bool c1.b, .slice c1.a c1.n c1.c, .slice c1.d c1.m c1.e, .bool c2.b, .slice c2.a c2.n c2.c, .slice c2.d c2.m c2.e, .bool c3.b, .slice c3.a c3.n c3.c, .slice c3.d c3.m c3.e, .bool c4.b, .slice c4.a c4.n c4.c, .slice c4.d c4.m c4.e, .bool c5.b, .slice c5.a c5.n c5.c, .slice c5.d c5.m c5.e, .bool c6.b, .slice c6.a c6.n c6.c, .slice c6.d c6.m c6.e], 46), (fK, #[.bool xe.b, .slice xe.a xe.n xe.c, .slice xe.d xe.m xe.e, .bool xa.b, .slice xa.a xa.n xa.c, .slice xa.d xa.m xa.e, .bool xa.b, .slice xa.a xa.n xa.c, .slice xa.d xa.m xa.e], 101), (Bl, #[.slice (some ⟨bk, off, none⟩) ls.length cap], 31), (Ba, xa.arr, 40), (Be, xe.arr, 40)] [])) (by kernel_rfl) ((HS.out.drew).erase 0) (fun hh => ?_)
      replace HS := ae HS.out.drew
      replace jq := ae (ax jq.out (Below.refl _ _).drew)
      refine dF (i := 0) (v := ?aon) rfl ?hk12 ?an8
      case hk12 => intro u aH; (try dsimp only at aH); have xA := (aH.at 2 _ _ _ rfl); have IG := af xA 0 (.slice (some ⟨bk, off, none⟩) ls.length cap) rfl; clear xA; clear aH; go_simp <;> with_reducible rfl
      try simp only [ag]
      refine dF (i := 1) (v := ?afI) rfl ?Jz ?afx
      case Jz => intro u aH; go_simp <;> with_reducible rfl
      try simp only [ag]
      refine dF (i := 2) (v := ?akA) rfl ?PU ?akr
      case PU => intro u aH; go_simp <;> with_reducible rfl
      try simp only [ag]
      refine dF (i := 3) (v := ?aoo) rfl ?ZE ?an9
      case ZE => intro u aH; go_simp <;> with_reducible rfl
      try simp only [ag]
      refine dF (i := 4) (v := ?arZ) rfl ?aiX ?arn
      case aiX => intro u aH; go_simp <;> with_reducible rfl
      try simp only [ag]
      refine dF (i := 5) (v := ?ar0) rfl ?aiY ?aro
      case aiY => intro u aH; (try dsimp only at aH); have dc0 := (aH.bel.cell (p := ⟨bk, Ad, none⟩) fU.out).trans (dR.out 0 _ rfl); have dc1 := (aH.bel.cell (p := ⟨bk, Ad + 1, none⟩) fU.out).trans (dR.out 1 _ rfl); have dc2 := (aH.bel.cell (p := ⟨bk, Ad + 2, none⟩) fU.out).trans (dR.out 2 _ rfl); clear aH; go_simp <;> with_reducible rfl
      try simp only [ag]
      refine dF (i := 6) (v := ?ar1) rfl ?aiZ ?arp
      case aiZ => intro u aH; (try dsimp only at aH); have xA := (aH.at 2 _ _ _ rfl); have IG := af xA 0 (.slice (some ⟨bk, off, none⟩) ls.length cap) rfl; clear xA; clear aH; go_simp <;> with_reducible rfl
      try simp only [ag]
      refine dF (i := 7) (v := ?ar2) rfl ?ai0 ?arq
      case ai0 => intro u aH; go_simp <;> with_reducible rfl
      try simp only [ag]
      refine dF (i := 8) (v := ?aop) rfl ?UK ?an'
      case UK => intro u aH; go_simp <;> with_reducible rfl
      try simp only [ag]
      refine dF (i := 9) (v := ?ar4) rfl ?ai1 ?ars
      case ai1 => intro u aH; go_simp <;> with_reducible rfl
      try simp only [ag]
      refine dF (i := 10) (v := ?ar5) rfl ?ai2 ?art
      case ai2 => intro u aH; go_simp <;> with_reducible rfl
      try simp only [ag]
      refine dF (i := 11) (v := ?aoq) rfl ?ZF ?an_
      case ZF => intro u aH; (try dsimp only at aH); have dc9 := (aH.bel.cell (p := ⟨bk, Ad + 9, none⟩) fU.out).trans (dR.out 9 _ rfl); have apr := (aH.bel.cell (p := ⟨bk, Ad + 10, none⟩) fU.out).trans (dR.out 10 _ rfl); have aps := (aH.bel.cell (p := ⟨bk, Ad + 11, none⟩) fU.out).trans (dR.out 11 _ rfl); have apt := (aH.bel.cell (p := ⟨bk, Ad + 12, none⟩) fU.out).trans (dR.out 12 _ rfl); have apu := (aH.bel.cell (p := ⟨bk, Ad + 13, none⟩) fU.out).trans (dR.out 13 _ rfl); have apv := (aH.bel.cell (p := ⟨bk, Ad + 14, none⟩) fU.out).trans (dR.out 14 _ rfl); clear aH; go_simp <;> with_reducible rfl
      try simp only [ag]
      refine dF (i := 12) (v := ?aor) rfl ?ZG ?aoa
      case ZG => intro u aH; go_simp <;> with_reducible rfl
      try simp only [ag]
      refine dF (i := 13) (v := ?aos) rfl ?ZH ?aob
      case ZH => intro u aH; go_simp <;> with_reducible rfl
      try simp only [ag]
      refine rdA (i := 14) rfl (fun K hK => ?_)
      refine kV (W' := (((((((((W8.drew).setCell ⟨fP.heap.size + 1, 0, none⟩ (.bool d0.b)).setCell ⟨fP.heap.size + 1, 1, none⟩ (.slice d0.a d0.n d0.c)).setCell ⟨fP.heap.size + 1, 2, none⟩ (.slice d0.d d0.m d0.e)).setCell ⟨fP.heap.size + 1, 3, none⟩ (.bool d3.b)).setCell ⟨fP.heap.size + 1, 4, none⟩ (.slice d3.a d3.n d3.c)).setCell ⟨fP.heap.size + 1, 5, none⟩ (.slice d3.d d3.m d3.e)).setCell ⟨fP.heap.size + 1, 6, none⟩ (.bool d4.b)).setCell ⟨fP.heap.size + 1, 7, none⟩ (.slice d4.a d4.n d4.c)).setCell ⟨fP.heap.size + 1, 8, none⟩ (.slice d4.d d4.m d4.e)) rfl 101 (.tmp 38) (.tmp 37) rfl (fP.heap.size + 1) 0 #[.bool d0.b, .slice d0.a d0.n d0.c, .slice d0.d d0.m d0.e, .bool d3.b, .slice d3.a d3.n d3.c, .slice d3.d d3.m d3.e, .bool d4.b, .slice d4.a d4.n d4.c, .slice d4.d d4.m d4.e] rfl rfl (oC (HS.out.at 0 _ _ _ rfl) (by simp)) (by kernel_rfl) (by simp [Value.oneCell']) rfl ?_
      refine hK.out _ _ ((((HS.out).oN 0 xe xa xa xe xa xa d0 d3 d4 rfl)).erase 0) (fun hh => ?_)
      clear hK K 
      try simp only [ag]
      generalize MF : (((((((((W8.drew).setCell _ _).setCell _ _).setCell _ _).setCell _ _).setCell _ _).setCell _ _).setCell _ _).setCell _ _).setCell _ _ = W26 at *
      replace HS := ae (((HS.out).oN 0 xe xa xa xe xa xa d0 d3 d4 rfl).to MF (by (try simp only [ig, ik]); rfl))
      replace jq : Hid (Below fP.heap.size fP W26) := by subst MF; exact ae (bC (bC (bC (bC (bC (bC (bC (bC (bC jq.out tX.out) tX.out) tX.out) tX.out) tX.out) tX.out) tX.out) tX.out) tX.out)
      clear MF
      refine wpAnyH_done (by kernel_rfl) ?_ _
      have jf := (HS.out.at 3 _ _ _ rfl)
      have jJ := af jf 0 (.slice (some ⟨bk, off, none⟩) ls.length cap) rfl
      have kP := ah jf 0
      have vS := ai jf
      clear jf
      go_wp2_with fail
      clear jJ kP vS
      refine wp_region_held_drew (S := (fun w' => Sx w0 w' [(fP.heap.size, #[.bool c0.b, .slice c0.a c0.n c0.c, .slice c0.d c0.m c0.e, .bool c1.b, .slice c1.a c1.n c1.c, .slice c1.d c1.m c1.e, .bool c2.b, .slice c2.a c2.n c2.c, .slice c2.d c2.m c2.e, .bool c3.b, .slice c3.a c3.n c3.c, .slice c3.d c3.m c3.e, .bool c4.b, .slice c4.a c4.n c4.c, .slice c4.d c4.m c4.e, .bool c5.b, .slice c5.a c5.n c5.c, .slice c5.d c5.m c5.e, .bool c6.b, .slice c6.a c6.n c6.c, .slice c6.d c6.m c6.e], 46), (fK, #[.bool xe.b, .slice xe.a xe.n xe.c, .slice xe.d xe.m xe.e, .bool xa.b, .slice xa.a xa.n xa.c, .slice xa.d xa.m xa.e, .bool xa.b, .slice xa.a xa.n xa.c, .slice xa.d xa.m xa.e], 101), (Bl, #[.slice (some ⟨bk, off, none⟩) ls.length cap], 31), (Ba, xa.arr, 40), (Be, xe.arr, 40)] [])) (by kernel_rfl) ((HS.out.drew).erase 0) (fun hh => ?_)
      replace HS := ae HS.out.drew
      replace jq := ae (ax jq.out (Below.refl _ _).drew)
      refine dF (i := 0) (v := ?ar6) rfl ?ai3 ?aru
      case ai3 => intro u aH; go_simp <;> with_reducible rfl
      try simp only [ag]
      refine dF (i := 1) (v := ?ar7) rfl ?ai4 ?arv
      case ai4 => intro u aH; (try dsimp only at aH); have jk := (aH.at 0 _ _ _ rfl); have Tq := af jk 0 (.bool c0.b) rfl; have Tt := af jk 1 (.slice c0.a c0.n c0.c) rfl; have Tu := af jk 2 (.slice c0.d c0.m c0.e) rfl; have Tv := af jk 3 (.bool c1.b) rfl; have Tz := af jk 4 (.slice c1.a c1.n c1.c) rfl; have TA := af jk 5 (.slice c1.d c1.m c1.e) rfl; have anS := af jk 6 (.bool c2.b) rfl; have anT := af jk 7 (.slice c2.a c2.n c2.c) rfl; have anU := af jk 8 (.slice c2.d c2.m c2.e) rfl; have anV := af jk 9 (.bool c3.b) rfl; have ajZ := af jk 10 (.slice c3.a c3.n c3.c) rfl; have aj0 := af jk 11 (.slice c3.d c3.m c3.e) rfl; have aj1 := af jk 12 (.bool c4.b) rfl; have aj2 := af jk 13 (.slice c4.a c4.n c4.c) rfl; have aj3 := af jk 14 (.slice c4.d c4.m c4.e) rfl; have aj6 := af jk 15 (.bool c5.b) rfl; have aj7 := af jk 16 (.slice c5.a c5.n c5.c) rfl; have aj8 := af jk 17 (.slice c5.d c5.m c5.e) rfl; have aj9 := af jk 18 (.bool c6.b) rfl; have aj' := af jk 19 (.slice c6.a c6.n c6.c) rfl; have aj_ := af jk 20 (.slice c6.d c6.m c6.e) rfl; clear jk; clear aH; go_simp <;> with_reducible rfl
      try simp only [ag]
      refine dF (i := 2) (v := ?ar8) rfl ?ai5 ?arw
      case ai5 => intro u aH; (try dsimp only at aH); have xA := (aH.at 2 _ _ _ rfl); have IG := af xA 0 (.slice (some ⟨bk, off, none⟩) ls.length cap) rfl; clear xA; clear aH; go_simp <;> with_reducible rfl
      try simp only [ag]
      refine dF (i := 3) (v := ?ar9) rfl ?hk31 ?arx
      case hk31 => intro u aH; go_simp <;> with_reducible rfl
      try simp only [ag]
      refine dF (i := 4) (v := ?aot) rfl ?ZI ?aoc
      case ZI => intro u aH; go_simp <;> with_reducible rfl
      try simp only [ag]
      refine dF (i := 5) (v := ?aou) rfl ?ZJ ?aod
      case ZJ => intro u aH; go_simp <;> with_reducible rfl
      try simp only [ag]
      refine dF (i := 6) (v := ?aov) rfl ?ZK ?aoe
      case ZK => intro u aH; go_simp <;> with_reducible rfl
      try simp only [ag]
      refine dF (i := 7) (v := ?ar') rfl ?ai6 ?ary
      case ai6 => intro u aH; (try dsimp only at aH); have fc9 := (aH.bel.cell (p := ⟨bk, Af + 9, none⟩) fU.out).trans (fR.out 9 _ rfl); have apw := (aH.bel.cell (p := ⟨bk, Af + 10, none⟩) fU.out).trans (fR.out 10 _ rfl); have apx := (aH.bel.cell (p := ⟨bk, Af + 11, none⟩) fU.out).trans (fR.out 11 _ rfl); have apy := (aH.bel.cell (p := ⟨bk, Af + 12, none⟩) fU.out).trans (fR.out 12 _ rfl); have apz := (aH.bel.cell (p := ⟨bk, Af + 13, none⟩) fU.out).trans (fR.out 13 _ rfl); have apA := (aH.bel.cell (p := ⟨bk, Af + 14, none⟩) fU.out).trans (fR.out 14 _ rfl); clear aH; go_simp <;> with_reducible rfl
      try simp only [ag]
      refine dF (i := 8) (v := ?auP) rfl ?ap0 ?aug
      case ap0 => intro u aH; go_simp <;> with_reducible rfl
      try simp only [ag]
      refine dF (i := 9) (v := ?auQ) rfl ?ap1 ?auh
      case ap1 => intro u aH; go_simp <;> with_reducible rfl
      try simp only [ag]
      refine rdA (i := 10) rfl (fun K hK => ?_)
      refine kV (W' := (((((((((W26.drew).setCell ⟨fP.heap.size + 1, 9, none⟩ (.bool c0.b)).setCell ⟨fP.heap.size + 1, 10, none⟩ (.slice c0.a c0.n c0.c)).setCell ⟨fP.heap.size + 1, 11, none⟩ (.slice c0.d c0.m c0.e)).setCell ⟨fP.heap.size + 1, 12, none⟩ (.bool f3.b)).setCell ⟨fP.heap.size + 1, 13, none⟩ (.slice f3.a f3.n f3.c)).setCell ⟨fP.heap.size + 1, 14, none⟩ (.slice f3.d f3.m f3.e)).setCell ⟨fP.heap.size + 1, 15, none⟩ (.bool f4.b)).setCell ⟨fP.heap.size + 1, 16, none⟩ (.slice f4.a f4.n f4.c)).setCell ⟨fP.heap.size + 1, 17, none⟩ (.slice f4.d f4.m f4.e)) rfl 101 (.tmp 53) (.tmp 52) rfl (fP.heap.size + 1) 9 #[.bool c0.b, .slice c0.a c0.n c0.c, .slice c0.d c0.m c0.e, .bool f3.b, .slice f3.a f3.n f3.c, .slice f3.d f3.m f3.e, .bool f4.b, .slice f4.a f4.n f4.c, .slice f4.d f4.m f4.e] rfl rfl (oC (HS.out.at 0 _ _ _ rfl) (by simp)) (by kernel_rfl) (by simp [Value.oneCell']) rfl ?_
      refine hK.out _ _ ((((HS.out).oO 0 d0 d3 d4 xe xa xa c0 f3 f4 rfl)).erase 0) (fun hh => ?_)
      clear hK K 
      try simp only [ag]
      generalize ait : (((((((((W26.drew).setCell _ _).setCell _ _).setCell _ _).setCell _ _).setCell _ _).setCell _ _).setCell _ _).setCell _ _).setCell _ _ = W38 at *
      replace HS := ae (((HS.out).oO 0 d0 d3 d4 xe xa xa c0 f3 f4 rfl).to ait (by (try simp only [ig, ik]); rfl))
      replace jq : Hid (Below fP.heap.size fP W38) := by subst ait; exact ae (bC (bC (bC (bC (bC (bC (bC (bC (bC jq.out tX.out) tX.out) tX.out) tX.out) tX.out) tX.out) tX.out) tX.out) tX.out)
      clear ait
      refine wpAnyH_done (by kernel_rfl) ?_ _
      go_upto_region 9 with (first | (refine wpList_load_mid rfl 46 (.tmp 7) rfl fP.heap.size 0 rfl [.bool c0.b, .slice c0.a c0.n c0.c, .slice c0.d c0.m c0.e, .bool c1.b, .slice c1.a c1.n c1.c, .slice c1.d c1.m c1.e, .bool c2.b, .slice c2.a c2.n c2.c, .slice c2.d c2.m c2.e, .bool c3.b, .slice c3.a c3.n c3.c, .slice c3.d c3.m c3.e, .bool c4.b, .slice c4.a c4.n c4.c, .slice c4.d c4.m c4.e, .bool c5.b, .slice c5.a c5.n c5.c, .slice c5.d c5.m c5.e, .bool c6.b, .slice c6.a c6.n c6.c, .slice c6.d c6.m c6.e] _ (dK (HS.out.at 1 _ _ _ rfl)) Tryz.underlying46 rfl (by kernel_rfl) ?_) | (refine wpList_load_mid rfl 46 (.tmp 7) rfl fP.heap.size 0 rfl [.bool c0.b, .slice c0.a c0.n c0.c, .slice c0.d c0.m c0.e, .bool c1.b, .slice c1.a c1.n c1.c, .slice c1.d c1.m c1.e, .bool c2.b, .slice c2.a c2.n c2.c, .slice c2.d c2.m c2.e, .bool c3.b, .slice c3.a c3.n c3.c, .slice c3.d c3.m c3.e, .bool c4.b, .slice c4.a c4.n c4.c, .slice c4.d c4.m c4.e, .bool c5.b, .slice c5.a c5.n c5.c, .slice c5.d c5.m c5.e, .bool c6.b, .slice c6.a c6.n c6.c, .slice c6.d c6.m c6.e] _ (fO (HS.out.at 1 _ _ _ rfl)) Tryz.underlying46 rfl (by kernel_rfl) ?_) | (refine wpList_load_mid rfl 46 (.tmp 7) rfl fP.heap.size 0 rfl [.bool c0.b, .slice c0.a c0.n c0.c, .slice c0.d c0.m c0.e, .bool c1.b, .slice c1.a c1.n c1.c, .slice c1.d c1.m c1.e, .bool c2.b, .slice c2.a c2.n c2.c, .slice c2.d c2.m c2.e, .bool c3.b, .slice c3.a c3.n c3.c, .slice c3.d c3.m c3.e, .bool c4.b, .slice c4.a c4.n c4.c, .slice c4.d c4.m c4.e, .bool c5.b, .slice c5.a c5.n c5.c, .slice c5.d c5.m c5.e, .bool c6.b, .slice c6.a c6.n c6.c, .slice c6.d c6.m c6.e] _ (f_ (HS.out.at 1 _ _ _ rfl)) Tryz.underlying46 rfl (by kernel_rfl) ?_) | (refine wpList_load_mid rfl 102 (.tmp 8) rfl (fP.heap.size + 1) 0 rfl [.bool d0.b, .slice d0.a d0.n d0.c, .slice d0.d d0.m d0.e, .bool d3.b, .slice d3.a d3.n d3.c, .slice d3.d d3.m d3.e, .bool d4.b, .slice d4.a d4.n d4.c, .slice d4.d d4.m d4.e, .bool c0.b, .slice c0.a c0.n c0.c, .slice c0.d c0.m c0.e, .bool f3.b, .slice f3.a f3.n f3.c, .slice f3.d f3.m f3.e, .bool f4.b, .slice f4.a f4.n f4.c, .slice f4.d f4.m f4.e] _ (dK (HS.out.at 0 _ _ _ rfl)) Tryz.underlying102 rfl (by kernel_rfl) ?_) | (refine wpList_load_mid rfl 102 (.tmp 8) rfl (fP.heap.size + 1) 0 rfl [.bool d0.b, .slice d0.a d0.n d0.c, .slice d0.d d0.m d0.e, .bool d3.b, .slice d3.a d3.n d3.c, .slice d3.d d3.m d3.e, .bool d4.b, .slice d4.a d4.n d4.c, .slice d4.d d4.m d4.e, .bool c0.b, .slice c0.a c0.n c0.c, .slice c0.d c0.m c0.e, .bool f3.b, .slice f3.a f3.n f3.c, .slice f3.d f3.m f3.e, .bool f4.b, .slice f4.a f4.n f4.c, .slice f4.d f4.m f4.e] _ (fO (HS.out.at 0 _ _ _ rfl)) Tryz.underlying102 rfl (by kernel_rfl) ?_) | (refine wpList_load_mid rfl 102 (.tmp 8) rfl (fP.heap.size + 1) 0 rfl [.bool d0.b, .slice d0.a d0.n d0.c, .slice d0.d d0.m d0.e, .bool d3.b, .slice d3.a d3.n d3.c, .slice d3.d d3.m d3.e, .bool d4.b, .slice d4.a d4.n d4.c, .slice d4.d d4.m d4.e, .bool c0.b, .slice c0.a c0.n c0.c, .slice c0.d c0.m c0.e, .bool f3.b, .slice f3.a f3.n f3.c, .slice f3.d f3.m f3.e, .bool f4.b, .slice f4.a f4.n f4.c, .slice f4.d f4.m f4.e] _ (f_ (HS.out.at 0 _ _ _ rfl)) Tryz.underlying102 rfl (by kernel_rfl) ?_))
      clear hw2 hm1 hm2 tm1 tm2
      refine (wpIn_wide (n := n)).1 ?_
      obtain ⟨fn, tm, asg, bod, hy, hR⟩ := HY.out ((List.finRange ls.length).take i) ⟨i, gq.out⟩ W38 (HJ.out _ _ _ none HJR.out (grownBy_below jq.out none) (fun r e => by cases e)) (by rw [pX (by have := gq.out; omega)]; exact gq.out)
      rw [HEN.out] at hy
      unfold Ei Ej at hy
      gi_wp2_with (first | (refine dD rfl 46 (.tmp 7) rfl fP.heap.size 0 rfl [.bool c0.b, .slice c0.a c0.n c0.c, .slice c0.d c0.m c0.e, .bool c1.b, .slice c1.a c1.n c1.c, .slice c1.d c1.m c1.e, .bool c2.b, .slice c2.a c2.n c2.c, .slice c2.d c2.m c2.e, .bool c3.b, .slice c3.a c3.n c3.c, .slice c3.d c3.m c3.e, .bool c4.b, .slice c4.a c4.n c4.c, .slice c4.d c4.m c4.e, .bool c5.b, .slice c5.a c5.n c5.c, .slice c5.d c5.m c5.e, .bool c6.b, .slice c6.a c6.n c6.c, .slice c6.d c6.m c6.e] _ (dK (HS.out.at 1 _ _ _ rfl)) Tryz.underlying46 rfl (by kernel_rfl) ?_) | (refine dD rfl 102 (.tmp 8) rfl (fP.heap.size + 1) 0 rfl [.bool d0.b, .slice d0.a d0.n d0.c, .slice d0.d d0.m d0.e, .bool d3.b, .slice d3.a d3.n d3.c, .slice d3.d d3.m d3.e, .bool d4.b, .slice d4.a d4.n d4.c, .slice d4.d d4.m d4.e, .bool c0.b, .slice c0.a c0.n c0.c, .slice c0.d c0.m c0.e, .bool f3.b, .slice f3.a f3.n f3.c, .slice f3.d f3.m f3.e, .bool f4.b, .slice f4.a f4.n f4.c, .slice f4.d f4.m f4.e] _ (dK (HS.out.at 0 _ _ _ rfl)) Tryz.underlying102 rfl (by kernel_rfl) ?_))
      clear hy
      refine ⟨fun h => (by cases h), ?_⟩
      refine hR.mono ?_
      rintro e W3 (⟨rfl, hJ3, hk3⟩ | ⟨rfl, hJx3⟩)
      ·
       have hob := HS.out.at 2 _ _ _ rfl
       replace HS := ae (Sx.kept (bs := [(fK, #[.bool xe.b, .slice xe.a xe.n xe.c, .slice xe.d xe.m xe.e, .bool xa.b, .slice xa.a xa.n xa.c, .slice xa.d xa.m xa.e, .bool xa.b, .slice xa.a xa.n xa.c, .slice xa.d xa.m xa.e], 101), (Bl, #[.slice (some ⟨bk, off, none⟩) ls.length cap], 31), (Ba, xa.arr, 40), (Be, xe.arr, 40)]) ((HS.out.erase 0).erase 0) HF0.out (HS.out.bel.trans hk3.1) (fun q hq => by
        simp only [List.mem_cons, List.not_mem_nil, or_false] at hq
        rcases hq with rfl | rfl | rfl | rfl
        · exact (hk3.2.2 _ _ _ hob).trans hob.symm
        · exact hk3.2.1 _ (by simp)
        · exact hk3.2.1 _ (by simp)
        · exact hk3.2.1 _ (by simp)))
       have HJN : Hid (J ((List.finRange ls.length).take (i + 1)) W3) := by show J _ _; rw [oQ gq.out]; exact hJ3
       clear hob hJ3 hk3 jq
       gi_wp2_with fail
       go_wp2_with fail
       exact ⟨⟨i + 1, by have := gq.out; omega, by go_num, HJN, ae (((HS.out.bare).az (HS.out.p 1 _ _ rfl)).az (HS.out.p 0 _ _ rfl))⟩, bU gq.out⟩
      ·
       have HJX := ae hJx3
       clear hJx3 HS jq
       gi_wp2_with fail
       go_wp2_with fail
       refine bodyPost_ret (results_none rfl _ _ _) rfl ?_
       exact ⟨⟨_, rfl⟩, .inr ⟨_, by rw [← oQ gq.out]; exact List.take_prefix _ _, HJX.out⟩⟩
     ·
      have tm1 : decide ((i : Int) + 1 < ls.length) = false := decide_eq_false (by omega)
      have tm2 : decide (i + 1 < ls.length) = false := decide_eq_false hq
      have hw2 : IntKind.i64.wrap ((i : Int) + 1) = (i : Int) + 1 := IntWalk.i64_in _ (by omega)
      have HQ := ae hq
      clear hq
      have HEN : Hid (encR ls.length X xa xe ⟨i, hlt⟩ = #[Ei c0 c1 c2 c3 c4 c5 c6, Ej d0 d3 d4 xe xa xa]) := by
       show _ = _
       unfold encR mQ mV gG gI
       dsimp only
       simp only [if_pos HP.out, if_neg HQ.out, HJ1.out, Hc0.out, Hc1.out, Hc2.out, Hc3.out, Hc4.out, Hc5.out, Hc6.out, Hd0.out, Hd3.out, Hd4.out]
      go_wp2_with (first | (refine wpList_load_mid rfl 46 (.tmp 18) rfl bk Ac rfl _ _ (jA cR.out HS.out.bel fU.out) Tryz.underlying46 rfl (by kernel_rfl) ?_) | (refine cO rfl 46 (.tmp 7) (.tmp 19) rfl fP.heap.size rfl #[.bool c0.b, .slice c0.a c0.n c0.c, .slice c0.d c0.m c0.e, .bool c1.b, .slice c1.a c1.n c1.c, .slice c1.d c1.m c1.e, .bool c2.b, .slice c2.a c2.n c2.c, .slice c2.d c2.m c2.e, .bool c3.b, .slice c3.a c3.n c3.c, .slice c3.d c3.m c3.e, .bool c4.b, .slice c4.a c4.n c4.c, .slice c4.d c4.m c4.e, .bool c5.b, .slice c5.a c5.n c5.c, .slice c5.d c5.m c5.e, .bool c6.b, .slice c6.a c6.n c6.c, .slice c6.d c6.m c6.e] #[.bool false, .slice none 0 0, .slice none 0 0, .bool false, .slice none 0 0, .slice none 0 0, .bool false, .slice none 0 0, .slice none 0 0, .bool false, .slice none 0 0, .slice none 0 0, .bool false, .slice none 0 0, .slice none 0 0, .bool false, .slice none 0 0, .slice none 0 0, .bool false, .slice none 0 0, .slice none 0 0] _ rfl rfl (by simp) (by kernel_rfl) (by simp [Value.oneCell']) ?_) | (refine wpList_load_mid rfl 101 (.tmp 5) rfl fK 0 rfl [.bool xe.b, .slice xe.a xe.n xe.c, .slice xe.d xe.m xe.e, .bool xa.b, .slice xa.a xa.n xa.c, .slice xa.d xa.m xa.e, .bool xa.b, .slice xa.a xa.n xa.c, .slice xa.d xa.m xa.e] _ (dK (HS.out.at 0 _ _ _ rfl)) Tryz.underlying101 rfl (by kernel_rfl) ?_) | (refine wpList_load_mid rfl 101 (.tmp 5) rfl fK 0 rfl [.bool xe.b, .slice xe.a xe.n xe.c, .slice xe.d xe.m xe.e, .bool xa.b, .slice xa.a xa.n xa.c, .slice xa.d xa.m xa.e, .bool xa.b, .slice xa.a xa.n xa.c, .slice xa.d xa.m xa.e] _ (fO (HS.out.at 0 _ _ _ rfl)) Tryz.underlying101 rfl (by kernel_rfl) ?_) | (refine wpList_load_mid rfl 101 (.tmp 5) rfl fK 0 rfl [.bool xe.b, .slice xe.a xe.n xe.c, .slice xe.d xe.m xe.e, .bool xa.b, .slice xa.a xa.n xa.c, .slice xa.d xa.m xa.e, .bool xa.b, .slice xa.a xa.n xa.c, .slice xa.d xa.m xa.e] _ (f_ (HS.out.at 0 _ _ _ rfl)) Tryz.underlying101 rfl (by kernel_rfl) ?_) | (refine cO rfl 102 (.tmp 8) (.tmp 22) rfl (fP.heap.size + 1) (by simp) #[.bool xe.b, .slice xe.a xe.n xe.c, .slice xe.d xe.m xe.e, .bool xa.b, .slice xa.a xa.n xa.c, .slice xa.d xa.m xa.e, .bool xa.b, .slice xa.a xa.n xa.c, .slice xa.d xa.m xa.e, .bool xe.b, .slice xe.a xe.n xe.c, .slice xe.d xe.m xe.e, .bool xa.b, .slice xa.a xa.n xa.c, .slice xa.d xa.m xa.e, .bool xa.b, .slice xa.a xa.n xa.c, .slice xa.d xa.m xa.e] #[.bool false, .slice none 0 0, .slice none 0 0, .bool false, .slice none 0 0, .slice none 0 0, .bool false, .slice none 0 0, .slice none 0 0, .bool false, .slice none 0 0, .slice none 0 0, .bool false, .slice none 0 0, .slice none 0 0, .bool false, .slice none 0 0, .slice none 0 0] _ rfl rfl (by simp) (by kernel_rfl) (by simp [Value.oneCell']) ?_))
      have atn : Hid (fP.heap.size ≤ fP.heap.size) := by first | exact jq.out.size | (show _ ≤ _; have := jq.out.size; omega)
      have IY : Hid (fP.heap.size ≤ fP.heap.size + 1) := by first | exact jq.out.size | (show _ ≤ _; have := jq.out.size; omega)
      generalize MG : ((fP).alloc (.cells _ _)).alloc (.cells _ _) = W39 at *
      replace HS := ae ((((HS.out).alloc (B := fP.heap.size) rfl (by rfl)).alloc (B := fP.heap.size + 1) (by simp) (by rfl)).to MG (by (try simp only [ig, ik]); rfl))
      replace jq : Hid (Below fP.heap.size fP W39) := by subst MG; exact ae ((dC (dC jq.out)))
      clear MG
      refine wp_region_held_drew (S := (fun w' => Sx w0 w' [(fP.heap.size, #[.bool c0.b, .slice c0.a c0.n c0.c, .slice c0.d c0.m c0.e, .bool c1.b, .slice c1.a c1.n c1.c, .slice c1.d c1.m c1.e, .bool c2.b, .slice c2.a c2.n c2.c, .slice c2.d c2.m c2.e, .bool c3.b, .slice c3.a c3.n c3.c, .slice c3.d c3.m c3.e, .bool c4.b, .slice c4.a c4.n c4.c, .slice c4.d c4.m c4.e, .bool c5.b, .slice c5.a c5.n c5.c, .slice c5.d c5.m c5.e, .bool c6.b, .slice c6.a c6.n c6.c, .slice c6.d c6.m c6.e], 46), (fK, #[.bool xe.b, .slice xe.a xe.n xe.c, .slice xe.d xe.m xe.e, .bool xa.b, .slice xa.a xa.n xa.c, .slice xa.d xa.m xa.e, .bool xa.b, .slice xa.a xa.n xa.c, .slice xa.d xa.m xa.e], 101), (Bl, #[.slice (some ⟨bk, off, none⟩) ls.length cap], 31), (Ba, xa.arr, 40), (Be, xe.arr, 40)] [])) (by kernel_rfl) ((HS.out.drew).erase 0) (fun hh => ?_)
      replace HS := ae HS.out.drew
      replace jq := ae (ax jq.out (Below.refl _ _).drew)
      refine dF (i := 0) (v := ?aow) rfl ?ZL ?aof
      case ZL => intro u aH; (try dsimp only at aH); have xA := (aH.at 2 _ _ _ rfl); have IG := af xA 0 (.slice (some ⟨bk, off, none⟩) ls.length cap) rfl; clear xA; clear aH; go_simp <;> with_reducible rfl
      try simp only [ag]
      refine dF (i := 1) (v := ?ar_) rfl ?ai7 ?arz
      case ai7 => intro u aH; go_simp <;> with_reducible rfl
      try simp only [ag]
      refine dF (i := 2) (v := ?asa) rfl ?ai8 ?arA
      case ai8 => intro u aH; go_simp <;> with_reducible rfl
      try simp only [ag]
      refine dF (i := 3) (v := ?asb) rfl ?ai9 ?arB
      case ai9 => intro u aH; go_simp <;> with_reducible rfl
      try simp only [ag]
      refine dF (i := 4) (v := ?asc) rfl ?ai' ?arC
      case ai' => intro u aH; go_simp <;> with_reducible rfl
      try simp only [ag]
      refine dF (i := 5) (v := ?ase) rfl ?ai_ ?arD
      case ai_ => intro u aH; (try dsimp only at aH); have dc0 := (aH.bel.cell (p := ⟨bk, Ad, none⟩) fU.out).trans (dR.out 0 _ rfl); have dc1 := (aH.bel.cell (p := ⟨bk, Ad + 1, none⟩) fU.out).trans (dR.out 1 _ rfl); have dc2 := (aH.bel.cell (p := ⟨bk, Ad + 2, none⟩) fU.out).trans (dR.out 2 _ rfl); clear aH; go_simp <;> with_reducible rfl
      try simp only [ag]
      refine dF (i := 6) (v := ?asf) rfl ?aja ?arE
      case aja => intro u aH; (try dsimp only at aH); have xA := (aH.at 2 _ _ _ rfl); have IG := af xA 0 (.slice (some ⟨bk, off, none⟩) ls.length cap) rfl; clear xA; clear aH; go_simp <;> with_reducible rfl
      try simp only [ag]
      refine dF (i := 7) (v := ?ash) rfl ?ajb ?arF
      case ajb => intro u aH; go_simp <;> with_reducible rfl
      try simp only [ag]
      refine dF (i := 8) (v := ?asi) rfl ?ajc ?arG
      case ajc => intro u aH; go_simp <;> with_reducible rfl
      try simp only [ag]
      refine dF (i := 9) (v := ?asj) rfl ?ajd ?arH
      case ajd => intro u aH; go_simp <;> with_reducible rfl
      try simp only [ag]
      refine dF (i := 10) (v := ?auT) rfl ?ap4 ?auk
      case ap4 => intro u aH; go_simp <;> with_reducible rfl
      try simp only [ag]
      refine dF (i := 11) (v := ?auU) rfl ?ap5 ?aul
      case ap5 => intro u aH; (try dsimp only at aH); have dc9 := (aH.bel.cell (p := ⟨bk, Ad + 9, none⟩) fU.out).trans (dR.out 9 _ rfl); have apr := (aH.bel.cell (p := ⟨bk, Ad + 10, none⟩) fU.out).trans (dR.out 10 _ rfl); have aps := (aH.bel.cell (p := ⟨bk, Ad + 11, none⟩) fU.out).trans (dR.out 11 _ rfl); have apt := (aH.bel.cell (p := ⟨bk, Ad + 12, none⟩) fU.out).trans (dR.out 12 _ rfl); have apu := (aH.bel.cell (p := ⟨bk, Ad + 13, none⟩) fU.out).trans (dR.out 13 _ rfl); have apv := (aH.bel.cell (p := ⟨bk, Ad + 14, none⟩) fU.out).trans (dR.out 14 _ rfl); clear aH; go_simp <;> with_reducible rfl
      try simp only [ag]
      refine dF (i := 12) (v := ?auV) rfl ?ap6 ?aum
      case ap6 => intro u aH; go_simp <;> with_reducible rfl
      try simp only [ag]
      refine dF (i := 13) (v := ?auW) rfl ?ap7 ?aun
      case ap7 => intro u aH; go_simp <;> with_reducible rfl
      try simp only [ag]
      refine rdA (i := 14) rfl (fun K hK => ?_)
      refine kV (W' := (((((((((W39.drew).setCell ⟨fP.heap.size + 1, 0, none⟩ (.bool d0.b)).setCell ⟨fP.heap.size + 1, 1, none⟩ (.slice d0.a d0.n d0.c)).setCell ⟨fP.heap.size + 1, 2, none⟩ (.slice d0.d d0.m d0.e)).setCell ⟨fP.heap.size + 1, 3, none⟩ (.bool d3.b)).setCell ⟨fP.heap.size + 1, 4, none⟩ (.slice d3.a d3.n d3.c)).setCell ⟨fP.heap.size + 1, 5, none⟩ (.slice d3.d d3.m d3.e)).setCell ⟨fP.heap.size + 1, 6, none⟩ (.bool d4.b)).setCell ⟨fP.heap.size + 1, 7, none⟩ (.slice d4.a d4.n d4.c)).setCell ⟨fP.heap.size + 1, 8, none⟩ (.slice d4.d d4.m d4.e)) rfl 101 (.tmp 38) (.tmp 37) rfl (fP.heap.size + 1) 0 #[.bool d0.b, .slice d0.a d0.n d0.c, .slice d0.d d0.m d0.e, .bool d3.b, .slice d3.a d3.n d3.c, .slice d3.d d3.m d3.e, .bool d4.b, .slice d4.a d4.n d4.c, .slice d4.d d4.m d4.e] rfl rfl (oC (HS.out.at 0 _ _ _ rfl) (by simp)) (by kernel_rfl) (by simp [Value.oneCell']) rfl ?_
      refine hK.out _ _ ((((HS.out).oN 0 xe xa xa xe xa xa d0 d3 d4 rfl)).erase 0) (fun hh => ?_)
      clear hK K 
      try simp only [ag]
      generalize aiv : (((((((((W39.drew).setCell _ _).setCell _ _).setCell _ _).setCell _ _).setCell _ _).setCell _ _).setCell _ _).setCell _ _).setCell _ _ = W57 at *
      replace HS := ae (((HS.out).oN 0 xe xa xa xe xa xa d0 d3 d4 rfl).to aiv (by (try simp only [ig, ik]); rfl))
      replace jq : Hid (Below fP.heap.size fP W57) := by subst aiv; exact ae (bC (bC (bC (bC (bC (bC (bC (bC (bC jq.out IY.out) IY.out) IY.out) IY.out) IY.out) IY.out) IY.out) IY.out) IY.out)
      clear aiv
      refine wpAnyH_done (by kernel_rfl) ?_ _
      have jf := (HS.out.at 3 _ _ _ rfl)
      have jJ := af jf 0 (.slice (some ⟨bk, off, none⟩) ls.length cap) rfl
      have kP := ah jf 0
      have vS := ai jf
      clear jf
      go_upto_region 9 with (first | (refine wpList_load_mid rfl 46 (.tmp 7) rfl fP.heap.size 0 rfl [.bool c0.b, .slice c0.a c0.n c0.c, .slice c0.d c0.m c0.e, .bool c1.b, .slice c1.a c1.n c1.c, .slice c1.d c1.m c1.e, .bool c2.b, .slice c2.a c2.n c2.c, .slice c2.d c2.m c2.e, .bool c3.b, .slice c3.a c3.n c3.c, .slice c3.d c3.m c3.e, .bool c4.b, .slice c4.a c4.n c4.c, .slice c4.d c4.m c4.e, .bool c5.b, .slice c5.a c5.n c5.c, .slice c5.d c5.m c5.e, .bool c6.b, .slice c6.a c6.n c6.c, .slice c6.d c6.m c6.e] _ (dK (HS.out.at 1 _ _ _ rfl)) Tryz.underlying46 rfl (by kernel_rfl) ?_) | (refine wpList_load_mid rfl 46 (.tmp 7) rfl fP.heap.size 0 rfl [.bool c0.b, .slice c0.a c0.n c0.c, .slice c0.d c0.m c0.e, .bool c1.b, .slice c1.a c1.n c1.c, .slice c1.d c1.m c1.e, .bool c2.b, .slice c2.a c2.n c2.c, .slice c2.d c2.m c2.e, .bool c3.b, .slice c3.a c3.n c3.c, .slice c3.d c3.m c3.e, .bool c4.b, .slice c4.a c4.n c4.c, .slice c4.d c4.m c4.e, .bool c5.b, .slice c5.a c5.n c5.c, .slice c5.d c5.m c5.e, .bool c6.b, .slice c6.a c6.n c6.c, .slice c6.d c6.m c6.e] _ (fO (HS.out.at 1 _ _ _ rfl)) Tryz.underlying46 rfl (by kernel_rfl) ?_) | (refine wpList_load_mid rfl 46 (.tmp 7) rfl fP.heap.size 0 rfl [.bool c0.b, .slice c0.a c0.n c0.c, .slice c0.d c0.m c0.e, .bool c1.b, .slice c1.a c1.n c1.c, .slice c1.d c1.m c1.e, .bool c2.b, .slice c2.a c2.n c2.c, .slice c2.d c2.m c2.e, .bool c3.b, .slice c3.a c3.n c3.c, .slice c3.d c3.m c3.e, .bool c4.b, .slice c4.a c4.n c4.c, .slice c4.d c4.m c4.e, .bool c5.b, .slice c5.a c5.n c5.c, .slice c5.d c5.m c5.e, .bool c6.b, .slice c6.a c6.n c6.c, .slice c6.d c6.m c6.e] _ (f_ (HS.out.at 1 _ _ _ rfl)) Tryz.underlying46 rfl (by kernel_rfl) ?_) | (refine wpList_load_mid rfl 102 (.tmp 8) rfl (fP.heap.size + 1) 0 rfl [.bool d0.b, .slice d0.a d0.n d0.c, .slice d0.d d0.m d0.e, .bool d3.b, .slice d3.a d3.n d3.c, .slice d3.d d3.m d3.e, .bool d4.b, .slice d4.a d4.n d4.c, .slice d4.d d4.m d4.e, .bool xe.b, .slice xe.a xe.n xe.c, .slice xe.d xe.m xe.e, .bool xa.b, .slice xa.a xa.n xa.c, .slice xa.d xa.m xa.e, .bool xa.b, .slice xa.a xa.n xa.c, .slice xa.d xa.m xa.e] _ (dK (HS.out.at 0 _ _ _ rfl)) Tryz.underlying102 rfl (by kernel_rfl) ?_) | (refine wpList_load_mid rfl 102 (.tmp 8) rfl (fP.heap.size + 1) 0 rfl [.bool d0.b, .slice d0.a d0.n d0.c, .slice d0.d d0.m d0.e, .bool d3.b, .slice d3.a d3.n d3.c, .slice d3.d d3.m d3.e, .bool d4.b, .slice d4.a d4.n d4.c, .slice d4.d d4.m d4.e, .bool xe.b, .slice xe.a xe.n xe.c, .slice xe.d xe.m xe.e, .bool xa.b, .slice xa.a xa.n xa.c, .slice xa.d xa.m xa.e, .bool xa.b, .slice xa.a xa.n xa.c, .slice xa.d xa.m xa.e] _ (fO (HS.out.at 0 _ _ _ rfl)) Tryz.underlying102 rfl (by kernel_rfl) ?_) | (refine wpList_load_mid rfl 102 (.tmp 8) rfl (fP.heap.size + 1) 0 rfl [.bool d0.b, .slice d0.a d0.n d0.c, .slice d0.d d0.m d0.e, .bool d3.b, .slice d3.a d3.n d3.c, .slice d3.d d3.m d3.e, .bool d4.b, .slice d4.a d4.n d4.c, .slice d4.d d4.m d4.e, .bool xe.b, .slice xe.a xe.n xe.c, .slice xe.d xe.m xe.e, .bool xa.b, .slice xa.a xa.n xa.c, .slice xa.d xa.m xa.e, .bool xa.b, .slice xa.a xa.n xa.c, .slice xa.d xa.m xa.e] _ (f_ (HS.out.at 0 _ _ _ rfl)) Tryz.underlying102 rfl (by kernel_rfl) ?_))
      clear jJ kP vS
      clear hw2 tm1 tm2
      refine (wpIn_wide (n := n)).1 ?_
      obtain ⟨fn, tm, asg, bod, hy, hR⟩ := HY.out ((List.finRange ls.length).take i) ⟨i, gq.out⟩ W57 (HJ.out _ _ _ none HJR.out (grownBy_below jq.out none) (fun r e => by cases e)) (by rw [pX (by have := gq.out; omega)]; exact gq.out)
      rw [HEN.out] at hy
      unfold Ei Ej at hy
      gi_wp2_with (first | (refine dD rfl 46 (.tmp 7) rfl fP.heap.size 0 rfl [.bool c0.b, .slice c0.a c0.n c0.c, .slice c0.d c0.m c0.e, .bool c1.b, .slice c1.a c1.n c1.c, .slice c1.d c1.m c1.e, .bool c2.b, .slice c2.a c2.n c2.c, .slice c2.d c2.m c2.e, .bool c3.b, .slice c3.a c3.n c3.c, .slice c3.d c3.m c3.e, .bool c4.b, .slice c4.a c4.n c4.c, .slice c4.d c4.m c4.e, .bool c5.b, .slice c5.a c5.n c5.c, .slice c5.d c5.m c5.e, .bool c6.b, .slice c6.a c6.n c6.c, .slice c6.d c6.m c6.e] _ (dK (HS.out.at 1 _ _ _ rfl)) Tryz.underlying46 rfl (by kernel_rfl) ?_) | (refine dD rfl 102 (.tmp 8) rfl (fP.heap.size + 1) 0 rfl [.bool d0.b, .slice d0.a d0.n d0.c, .slice d0.d d0.m d0.e, .bool d3.b, .slice d3.a d3.n d3.c, .slice d3.d d3.m d3.e, .bool d4.b, .slice d4.a d4.n d4.c, .slice d4.d d4.m d4.e, .bool xe.b, .slice xe.a xe.n xe.c, .slice xe.d xe.m xe.e, .bool xa.b, .slice xa.a xa.n xa.c, .slice xa.d xa.m xa.e, .bool xa.b, .slice xa.a xa.n xa.c, .slice xa.d xa.m xa.e] _ (dK (HS.out.at 0 _ _ _ rfl)) Tryz.underlying102 rfl (by kernel_rfl) ?_))
      clear hy
      refine ⟨fun h => (by cases h), ?_⟩
      refine hR.mono ?_
      rintro e W3 (⟨rfl, hJ3, hk3⟩ | ⟨rfl, hJx3⟩)
      ·
       have hob := HS.out.at 2 _ _ _ rfl
       replace HS := ae (Sx.kept (bs := [(fK, #[.bool xe.b, .slice xe.a xe.n xe.c, .slice xe.d xe.m xe.e, .bool xa.b, .slice xa.a xa.n xa.c, .slice xa.d xa.m xa.e, .bool xa.b, .slice xa.a xa.n xa.c, .slice xa.d xa.m xa.e], 101), (Bl, #[.slice (some ⟨bk, off, none⟩) ls.length cap], 31), (Ba, xa.arr, 40), (Be, xe.arr, 40)]) ((HS.out.erase 0).erase 0) HF0.out (HS.out.bel.trans hk3.1) (fun q hq => by
        simp only [List.mem_cons, List.not_mem_nil, or_false] at hq
        rcases hq with rfl | rfl | rfl | rfl
        · exact (hk3.2.2 _ _ _ hob).trans hob.symm
        · exact hk3.2.1 _ (by simp)
        · exact hk3.2.1 _ (by simp)
        · exact hk3.2.1 _ (by simp)))
       have HJN : Hid (J ((List.finRange ls.length).take (i + 1)) W3) := by show J _ _; rw [oQ gq.out]; exact hJ3
       clear hob hJ3 hk3 jq
       gi_wp2_with fail
       go_wp2_with fail
       exact ⟨⟨i + 1, by have := gq.out; omega, by go_num, HJN, ae (((HS.out.bare).az (HS.out.p 1 _ _ rfl)).az (HS.out.p 0 _ _ rfl))⟩, bU gq.out⟩
      ·
       have HJX := ae hJx3
       clear hJx3 HS jq
       gi_wp2_with fail
       go_wp2_with fail
       refine bodyPost_ret (results_none rfl _ _ _) rfl ?_
       exact ⟨⟨_, rfl⟩, .inr ⟨_, by rw [← oQ gq.out]; exact List.take_prefix _ _, HJX.out⟩⟩
    ·
     have tp1 : decide ((i : Int) > 0) = false := decide_eq_false (by omega)
     have tp2 : decide (0 < i) = false := decide_eq_false hp
     have hpI : ¬ (0 : Int) < i := by omega
     have HP := ae hp
     clear hp
     by_cases hq : i + 1 < ls.length
     ·
      obtain ⟨m, hm⟩ : ∃ m, m = i + 1 := ⟨_, rfl⟩
      have hml : m < ls.length := by omega
      obtain ⟨Af, hAf⟩ : ∃ z, off + m * 21 = z := ⟨_, rfl⟩
      have fG := kS HX.out m hml
      rw [hAf] at fG
      obtain ⟨f3, hf3⟩ : ∃ z, X m 3 = z := ⟨_, rfl⟩
      rw [hf3] at fG
      have Hf3 := ae hf3
      clear hf3
      obtain ⟨f4, hf4⟩ : ∃ z, X m 4 = z := ⟨_, rfl⟩
      rw [hf4] at fG
      have Hf4 := ae hf4
      clear hf4
      have fR := ae fG
      clear fG
      have hw2 : IntKind.i64.wrap ((i : Int) + 1) = (m : Int) := (IntWalk.i64_in _ (by omega)).trans (by omega)
      have hm1 : (0 : Int) ≤ m := by omega
      have hm2 : (m : Int) < ls.length := by omega
      have tm1 : decide ((m : Int) < ls.length) = true := decide_eq_true hm2
      have tm2 : decide (m < ls.length) = true := decide_eq_true hml
      have HQ := ae hq
      have HM1 := ae hm
      clear hml hm hq
      have Hg3 : X (i + 1) 3 = f3 := by rw [← HM1.out]; exact Hf3.out
      have Hg4 : X (i + 1) 4 = f4 := by rw [← HM1.out]; exact Hf4.out
      have HEN : Hid (encR ls.length X xa xe ⟨i, hlt⟩ = #[Ei c0 c1 c2 c3 c4 c5 c6, Ej xe xa xa c0 f3 f4]) := by
       show _ = _
       unfold encR mQ mV gG gI
       dsimp only
       simp only [if_neg HP.out, if_pos HQ.out, Hc0.out, Hc1.out, Hc2.out, Hc3.out, Hc4.out, Hc5.out, Hc6.out, Hg3, Hg4]
      clear Hg3 Hg4
      have jf := (HS.out.at 1 _ _ _ rfl)
      have jJ := af jf 0 (.slice (some ⟨bk, off, none⟩) ls.length cap) rfl
      have kP := ah jf 0
      have vS := ai jf
      clear jf
      go_wp2_with (first | (refine wpList_load_mid rfl 46 (.tmp 18) rfl bk Ac rfl _ _ (jA cR.out HS.out.bel fU.out) Tryz.underlying46 rfl (by kernel_rfl) ?_) | (refine cO rfl 46 (.tmp 7) (.tmp 19) rfl fP.heap.size rfl #[.bool c0.b, .slice c0.a c0.n c0.c, .slice c0.d c0.m c0.e, .bool c1.b, .slice c1.a c1.n c1.c, .slice c1.d c1.m c1.e, .bool c2.b, .slice c2.a c2.n c2.c, .slice c2.d c2.m c2.e, .bool c3.b, .slice c3.a c3.n c3.c, .slice c3.d c3.m c3.e, .bool c4.b, .slice c4.a c4.n c4.c, .slice c4.d c4.m c4.e, .bool c5.b, .slice c5.a c5.n c5.c, .slice c5.d c5.m c5.e, .bool c6.b, .slice c6.a c6.n c6.c, .slice c6.d c6.m c6.e] #[.bool false, .slice none 0 0, .slice none 0 0, .bool false, .slice none 0 0, .slice none 0 0, .bool false, .slice none 0 0, .slice none 0 0, .bool false, .slice none 0 0, .slice none 0 0, .bool false, .slice none 0 0, .slice none 0 0, .bool false, .slice none 0 0, .slice none 0 0, .bool false, .slice none 0 0, .slice none 0 0] _ rfl rfl (by simp) (by kernel_rfl) (by simp [Value.oneCell']) ?_) | (refine wpList_load_mid rfl 101 (.tmp 5) rfl fK 0 rfl [.bool xe.b, .slice xe.a xe.n xe.c, .slice xe.d xe.m xe.e, .bool xa.b, .slice xa.a xa.n xa.c, .slice xa.d xa.m xa.e, .bool xa.b, .slice xa.a xa.n xa.c, .slice xa.d xa.m xa.e] _ (dK (HS.out.at 0 _ _ _ rfl)) Tryz.underlying101 rfl (by kernel_rfl) ?_) | (refine wpList_load_mid rfl 101 (.tmp 5) rfl fK 0 rfl [.bool xe.b, .slice xe.a xe.n xe.c, .slice xe.d xe.m xe.e, .bool xa.b, .slice xa.a xa.n xa.c, .slice xa.d xa.m xa.e, .bool xa.b, .slice xa.a xa.n xa.c, .slice xa.d xa.m xa.e] _ (fO (HS.out.at 0 _ _ _ rfl)) Tryz.underlying101 rfl (by kernel_rfl) ?_) | (refine wpList_load_mid rfl 101 (.tmp 5) rfl fK 0 rfl [.bool xe.b, .slice xe.a xe.n xe.c, .slice xe.d xe.m xe.e, .bool xa.b, .slice xa.a xa.n xa.c, .slice xa.d xa.m xa.e, .bool xa.b, .slice xa.a xa.n xa.c, .slice xa.d xa.m xa.e] _ (f_ (HS.out.at 0 _ _ _ rfl)) Tryz.underlying101 rfl (by kernel_rfl) ?_) | (refine cO rfl 102 (.tmp 8) (.tmp 22) rfl (fP.heap.size + 1) (by simp) #[.bool xe.b, .slice xe.a xe.n xe.c, .slice xe.d xe.m xe.e, .bool xa.b, .slice xa.a xa.n xa.c, .slice xa.d xa.m xa.e, .bool xa.b, .slice xa.a xa.n xa.c, .slice xa.d xa.m xa.e, .bool xe.b, .slice xe.a xe.n xe.c, .slice xe.d xe.m xe.e, .bool xa.b, .slice xa.a xa.n xa.c, .slice xa.d xa.m xa.e, .bool xa.b, .slice xa.a xa.n xa.c, .slice xa.d xa.m xa.e] #[.bool false, .slice none 0 0, .slice none 0 0, .bool false, .slice none 0 0, .slice none 0 0, .bool false, .slice none 0 0, .slice none 0 0, .bool false, .slice none 0 0, .slice none 0 0, .bool false, .slice none 0 0, .slice none 0 0, .bool false, .slice none 0 0, .slice none 0 0] _ rfl rfl (by simp) (by kernel_rfl) (by simp [Value.oneCell']) ?_))
      clear jJ kP vS
      have aoF : Hid (fP.heap.size ≤ fP.heap.size) := by first | exact jq.out.size | (show _ ≤ _; have := jq.out.size; omega)
      have IZ : Hid (fP.heap.size ≤ fP.heap.size + 1) := by first | exact jq.out.size | (show _ ≤ _; have := jq.out.size; omega)
      generalize PG : ((fP).alloc (.cells _ _)).alloc (.cells _ _) = W58 at *
      replace HS := ae ((((HS.out).alloc (B := fP.heap.size) rfl (by rfl)).alloc (B := fP.heap.size + 1) (by simp) (by rfl)).to PG (by (try simp only [ig, ik]); rfl))
      replace jq : Hid (Below fP.heap.size fP W58) := by subst PG; exact ae ((dC (dC jq.out)))
      clear PG
      refine wp_region_held_drew (S := (fun w' => Sx w0 w' [(fP.heap.size, #[.bool c0.b, .slice c0.a c0.n c0.c, .slice c0.d c0.m c0.e, .bool c1.b, .slice c1.a c1.n c1.c, .slice c1.d c1.m c1.e, .bool c2.b, .slice c2.a c2.n c2.c, .slice c2.d c2.m c2.e, .bool c3.b, .slice c3.a c3.n c3.c, .slice c3.d c3.m c3.e, .bool c4.b, .slice c4.a c4.n c4.c, .slice c4.d c4.m c4.e, .bool c5.b, .slice c5.a c5.n c5.c, .slice c5.d c5.m c5.e, .bool c6.b, .slice c6.a c6.n c6.c, .slice c6.d c6.m c6.e], 46), (fK, #[.bool xe.b, .slice xe.a xe.n xe.c, .slice xe.d xe.m xe.e, .bool xa.b, .slice xa.a xa.n xa.c, .slice xa.d xa.m xa.e, .bool xa.b, .slice xa.a xa.n xa.c, .slice xa.d xa.m xa.e], 101), (Bl, #[.slice (some ⟨bk, off, none⟩) ls.length cap], 31), (Ba, xa.arr, 40), (Be, xe.arr, 40)] [])) (by kernel_rfl) ((HS.out.drew).erase 0) (fun hh => ?_)
      replace HS := ae HS.out.drew
      replace jq := ae (ax jq.out (Below.refl _ _).drew)
      refine dF (i := 0) (v := ?asn) rfl ?ajf ?arJ
      case ajf => intro u aH; go_simp <;> with_reducible rfl
      try simp only [ag]
      refine dF (i := 1) (v := ?aso) rfl ?ajg ?arK
      case ajg => intro u aH; (try dsimp only at aH); have jk := (aH.at 0 _ _ _ rfl); have Tq := af jk 0 (.bool c0.b) rfl; have Tt := af jk 1 (.slice c0.a c0.n c0.c) rfl; have Tu := af jk 2 (.slice c0.d c0.m c0.e) rfl; have Tv := af jk 3 (.bool c1.b) rfl; have Tz := af jk 4 (.slice c1.a c1.n c1.c) rfl; have TA := af jk 5 (.slice c1.d c1.m c1.e) rfl; have anS := af jk 6 (.bool c2.b) rfl; have anT := af jk 7 (.slice c2.a c2.n c2.c) rfl; have anU := af jk 8 (.slice c2.d c2.m c2.e) rfl; have anV := af jk 9 (.bool c3.b) rfl; have ajZ := af jk 10 (.slice c3.a c3.n c3.c) rfl; have aj0 := af jk 11 (.slice c3.d c3.m c3.e) rfl; have aj1 := af jk 12 (.bool c4.b) rfl; have aj2 := af jk 13 (.slice c4.a c4.n c4.c) rfl; have aj3 := af jk 14 (.slice c4.d c4.m c4.e) rfl; have aj6 := af jk 15 (.bool c5.b) rfl; have aj7 := af jk 16 (.slice c5.a c5.n c5.c) rfl; have aj8 := af jk 17 (.slice c5.d c5.m c5.e) rfl; have aj9 := af jk 18 (.bool c6.b) rfl; have aj' := af jk 19 (.slice c6.a c6.n c6.c) rfl; have aj_ := af jk 20 (.slice c6.d c6.m c6.e) rfl; clear jk; clear aH; go_simp <;> with_reducible rfl
      try simp only [ag]
      refine dF (i := 2) (v := ?asq) rfl ?ajh ?arL
      case ajh => intro u aH; (try dsimp only at aH); have xA := (aH.at 2 _ _ _ rfl); have IG := af xA 0 (.slice (some ⟨bk, off, none⟩) ls.length cap) rfl; clear xA; clear aH; go_simp <;> with_reducible rfl
      try simp only [ag]
      refine dF (i := 3) (v := ?asr) rfl ?aji ?arM
      case aji => intro u aH; go_simp <;> with_reducible rfl
      try simp only [ag]
      refine dF (i := 4) (v := ?ass) rfl ?ajj ?arN
      case ajj => intro u aH; go_simp <;> with_reducible rfl
      try simp only [ag]
      refine dF (i := 5) (v := ?ast) rfl ?ajk ?arO
      case ajk => intro u aH; go_simp <;> with_reducible rfl
      try simp only [ag]
      refine dF (i := 6) (v := ?asu) rfl ?ajl ?arP
      case ajl => intro u aH; go_simp <;> with_reducible rfl
      try simp only [ag]
      refine dF (i := 7) (v := ?au0) rfl ?ap_ ?aur
      case ap_ => intro u aH; (try dsimp only at aH); have fc9 := (aH.bel.cell (p := ⟨bk, Af + 9, none⟩) fU.out).trans (fR.out 9 _ rfl); have apw := (aH.bel.cell (p := ⟨bk, Af + 10, none⟩) fU.out).trans (fR.out 10 _ rfl); have apx := (aH.bel.cell (p := ⟨bk, Af + 11, none⟩) fU.out).trans (fR.out 11 _ rfl); have apy := (aH.bel.cell (p := ⟨bk, Af + 12, none⟩) fU.out).trans (fR.out 12 _ rfl); have apz := (aH.bel.cell (p := ⟨bk, Af + 13, none⟩) fU.out).trans (fR.out 13 _ rfl); have apA := (aH.bel.cell (p := ⟨bk, Af + 14, none⟩) fU.out).trans (fR.out 14 _ rfl); clear aH; go_simp <;> with_reducible rfl
      try simp only [ag]
      refine dF (i := 8) (v := ?aox) rfl ?ZM ?aog
      case ZM => intro u aH; go_simp <;> with_reducible rfl
      try simp only [ag]
      refine dF (i := 9) (v := ?asv) rfl ?ajm ?arQ
      case ajm => intro u aH; go_simp <;> with_reducible rfl
      try simp only [ag]
      refine rdA (i := 10) rfl (fun K hK => ?_)
      refine kV (W' := (((((((((W58.drew).setCell ⟨fP.heap.size + 1, 9, none⟩ (.bool c0.b)).setCell ⟨fP.heap.size + 1, 10, none⟩ (.slice c0.a c0.n c0.c)).setCell ⟨fP.heap.size + 1, 11, none⟩ (.slice c0.d c0.m c0.e)).setCell ⟨fP.heap.size + 1, 12, none⟩ (.bool f3.b)).setCell ⟨fP.heap.size + 1, 13, none⟩ (.slice f3.a f3.n f3.c)).setCell ⟨fP.heap.size + 1, 14, none⟩ (.slice f3.d f3.m f3.e)).setCell ⟨fP.heap.size + 1, 15, none⟩ (.bool f4.b)).setCell ⟨fP.heap.size + 1, 16, none⟩ (.slice f4.a f4.n f4.c)).setCell ⟨fP.heap.size + 1, 17, none⟩ (.slice f4.d f4.m f4.e)) rfl 101 (.tmp 53) (.tmp 52) rfl (fP.heap.size + 1) 9 #[.bool c0.b, .slice c0.a c0.n c0.c, .slice c0.d c0.m c0.e, .bool f3.b, .slice f3.a f3.n f3.c, .slice f3.d f3.m f3.e, .bool f4.b, .slice f4.a f4.n f4.c, .slice f4.d f4.m f4.e] rfl rfl (oC (HS.out.at 0 _ _ _ rfl) (by simp)) (by kernel_rfl) (by simp [Value.oneCell']) rfl ?_
      refine hK.out _ _ ((((HS.out).oO 0 xe xa xa xe xa xa c0 f3 f4 rfl)).erase 0) (fun hh => ?_)
      clear hK K 
      try simp only [ag]
      generalize MI : (((((((((W58.drew).setCell _ _).setCell _ _).setCell _ _).setCell _ _).setCell _ _).setCell _ _).setCell _ _).setCell _ _).setCell _ _ = W72 at *
      replace HS := ae (((HS.out).oO 0 xe xa xa xe xa xa c0 f3 f4 rfl).to MI (by (try simp only [ig, ik]); rfl))
      replace jq : Hid (Below fP.heap.size fP W72) := by subst MI; exact ae (bC (bC (bC (bC (bC (bC (bC (bC (bC jq.out IZ.out) IZ.out) IZ.out) IZ.out) IZ.out) IZ.out) IZ.out) IZ.out) IZ.out)
      clear MI
      refine wpAnyH_done (by kernel_rfl) ?_ _
      go_upto_region 9 with (first | (refine wpList_load_mid rfl 46 (.tmp 7) rfl fP.heap.size 0 rfl [.bool c0.b, .slice c0.a c0.n c0.c, .slice c0.d c0.m c0.e, .bool c1.b, .slice c1.a c1.n c1.c, .slice c1.d c1.m c1.e, .bool c2.b, .slice c2.a c2.n c2.c, .slice c2.d c2.m c2.e, .bool c3.b, .slice c3.a c3.n c3.c, .slice c3.d c3.m c3.e, .bool c4.b, .slice c4.a c4.n c4.c, .slice c4.d c4.m c4.e, .bool c5.b, .slice c5.a c5.n c5.c, .slice c5.d c5.m c5.e, .bool c6.b, .slice c6.a c6.n c6.c, .slice c6.d c6.m c6.e] _ (dK (HS.out.at 1 _ _ _ rfl)) Tryz.underlying46 rfl (by kernel_rfl) ?_) | (refine wpList_load_mid rfl 46 (.tmp 7) rfl fP.heap.size 0 rfl [.bool c0.b, .slice c0.a c0.n c0.c, .slice c0.d c0.m c0.e, .bool c1.b, .slice c1.a c1.n c1.c, .slice c1.d c1.m c1.e, .bool c2.b, .slice c2.a c2.n c2.c, .slice c2.d c2.m c2.e, .bool c3.b, .slice c3.a c3.n c3.c, .slice c3.d c3.m c3.e, .bool c4.b, .slice c4.a c4.n c4.c, .slice c4.d c4.m c4.e, .bool c5.b, .slice c5.a c5.n c5.c, .slice c5.d c5.m c5.e, .bool c6.b, .slice c6.a c6.n c6.c, .slice c6.d c6.m c6.e] _ (fO (HS.out.at 1 _ _ _ rfl)) Tryz.underlying46 rfl (by kernel_rfl) ?_) | (refine wpList_load_mid rfl 46 (.tmp 7) rfl fP.heap.size 0 rfl [.bool c0.b, .slice c0.a c0.n c0.c, .slice c0.d c0.m c0.e, .bool c1.b, .slice c1.a c1.n c1.c, .slice c1.d c1.m c1.e, .bool c2.b, .slice c2.a c2.n c2.c, .slice c2.d c2.m c2.e, .bool c3.b, .slice c3.a c3.n c3.c, .slice c3.d c3.m c3.e, .bool c4.b, .slice c4.a c4.n c4.c, .slice c4.d c4.m c4.e, .bool c5.b, .slice c5.a c5.n c5.c, .slice c5.d c5.m c5.e, .bool c6.b, .slice c6.a c6.n c6.c, .slice c6.d c6.m c6.e] _ (f_ (HS.out.at 1 _ _ _ rfl)) Tryz.underlying46 rfl (by kernel_rfl) ?_) | (refine wpList_load_mid rfl 102 (.tmp 8) rfl (fP.heap.size + 1) 0 rfl [.bool xe.b, .slice xe.a xe.n xe.c, .slice xe.d xe.m xe.e, .bool xa.b, .slice xa.a xa.n xa.c, .slice xa.d xa.m xa.e, .bool xa.b, .slice xa.a xa.n xa.c, .slice xa.d xa.m xa.e, .bool c0.b, .slice c0.a c0.n c0.c, .slice c0.d c0.m c0.e, .bool f3.b, .slice f3.a f3.n f3.c, .slice f3.d f3.m f3.e, .bool f4.b, .slice f4.a f4.n f4.c, .slice f4.d f4.m f4.e] _ (dK (HS.out.at 0 _ _ _ rfl)) Tryz.underlying102 rfl (by kernel_rfl) ?_) | (refine wpList_load_mid rfl 102 (.tmp 8) rfl (fP.heap.size + 1) 0 rfl [.bool xe.b, .slice xe.a xe.n xe.c, .slice xe.d xe.m xe.e, .bool xa.b, .slice xa.a xa.n xa.c, .slice xa.d xa.m xa.e, .bool xa.b, .slice xa.a xa.n xa.c, .slice xa.d xa.m xa.e, .bool c0.b, .slice c0.a c0.n c0.c, .slice c0.d c0.m c0.e, .bool f3.b, .slice f3.a f3.n f3.c, .slice f3.d f3.m f3.e, .bool f4.b, .slice f4.a f4.n f4.c, .slice f4.d f4.m f4.e] _ (fO (HS.out.at 0 _ _ _ rfl)) Tryz.underlying102 rfl (by kernel_rfl) ?_) | (refine wpList_load_mid rfl 102 (.tmp 8) rfl (fP.heap.size + 1) 0 rfl [.bool xe.b, .slice xe.a xe.n xe.c, .slice xe.d xe.m xe.e, .bool xa.b, .slice xa.a xa.n xa.c, .slice xa.d xa.m xa.e, .bool xa.b, .slice xa.a xa.n xa.c, .slice xa.d xa.m xa.e, .bool c0.b, .slice c0.a c0.n c0.c, .slice c0.d c0.m c0.e, .bool f3.b, .slice f3.a f3.n f3.c, .slice f3.d f3.m f3.e, .bool f4.b, .slice f4.a f4.n f4.c, .slice f4.d f4.m f4.e] _ (f_ (HS.out.at 0 _ _ _ rfl)) Tryz.underlying102 rfl (by kernel_rfl) ?_))
      clear hw2 hm1 hm2 tm1 tm2
      refine (wpIn_wide (n := n)).1 ?_
      obtain ⟨fn, tm, asg, bod, hy, hR⟩ := HY.out ((List.finRange ls.length).take i) ⟨i, gq.out⟩ W72 (HJ.out _ _ _ none HJR.out (grownBy_below jq.out none) (fun r e => by cases e)) (by rw [pX (by have := gq.out; omega)]; exact gq.out)
      rw [HEN.out] at hy
      unfold Ei Ej at hy
      gi_wp2_with (first | (refine dD rfl 46 (.tmp 7) rfl fP.heap.size 0 rfl [.bool c0.b, .slice c0.a c0.n c0.c, .slice c0.d c0.m c0.e, .bool c1.b, .slice c1.a c1.n c1.c, .slice c1.d c1.m c1.e, .bool c2.b, .slice c2.a c2.n c2.c, .slice c2.d c2.m c2.e, .bool c3.b, .slice c3.a c3.n c3.c, .slice c3.d c3.m c3.e, .bool c4.b, .slice c4.a c4.n c4.c, .slice c4.d c4.m c4.e, .bool c5.b, .slice c5.a c5.n c5.c, .slice c5.d c5.m c5.e, .bool c6.b, .slice c6.a c6.n c6.c, .slice c6.d c6.m c6.e] _ (dK (HS.out.at 1 _ _ _ rfl)) Tryz.underlying46 rfl (by kernel_rfl) ?_) | (refine dD rfl 102 (.tmp 8) rfl (fP.heap.size + 1) 0 rfl [.bool xe.b, .slice xe.a xe.n xe.c, .slice xe.d xe.m xe.e, .bool xa.b, .slice xa.a xa.n xa.c, .slice xa.d xa.m xa.e, .bool xa.b, .slice xa.a xa.n xa.c, .slice xa.d xa.m xa.e, .bool c0.b, .slice c0.a c0.n c0.c, .slice c0.d c0.m c0.e, .bool f3.b, .slice f3.a f3.n f3.c, .slice f3.d f3.m f3.e, .bool f4.b, .slice f4.a f4.n f4.c, .slice f4.d f4.m f4.e] _ (dK (HS.out.at 0 _ _ _ rfl)) Tryz.underlying102 rfl (by kernel_rfl) ?_))
      clear hy
      refine ⟨fun h => (by cases h), ?_⟩
      refine hR.mono ?_
      rintro e W3 (⟨rfl, hJ3, hk3⟩ | ⟨rfl, hJx3⟩)
      ·
       have hob := HS.out.at 2 _ _ _ rfl
       replace HS := ae (Sx.kept (bs := [(fK, #[.bool xe.b, .slice xe.a xe.n xe.c, .slice xe.d xe.m xe.e, .bool xa.b, .slice xa.a xa.n xa.c, .slice xa.d xa.m xa.e, .bool xa.b, .slice xa.a xa.n xa.c, .slice xa.d xa.m xa.e], 101), (Bl, #[.slice (some ⟨bk, off, none⟩) ls.length cap], 31), (Ba, xa.arr, 40), (Be, xe.arr, 40)]) ((HS.out.erase 0).erase 0) HF0.out (HS.out.bel.trans hk3.1) (fun q hq => by
        simp only [List.mem_cons, List.not_mem_nil, or_false] at hq
        rcases hq with rfl | rfl | rfl | rfl
        · exact (hk3.2.2 _ _ _ hob).trans hob.symm
        · exact hk3.2.1 _ (by simp)
        · exact hk3.2.1 _ (by simp)
        · exact hk3.2.1 _ (by simp)))
       have HJN : Hid (J ((List.finRange ls.length).take (i + 1)) W3) := by show J _ _; rw [oQ gq.out]; exact hJ3
       clear hob hJ3 hk3 jq
       gi_wp2_with fail
       go_wp2_with fail
       exact ⟨⟨i + 1, by have := gq.out; omega, by go_num, HJN, ae (((HS.out.bare).az (HS.out.p 1 _ _ rfl)).az (HS.out.p 0 _ _ rfl))⟩, bU gq.out⟩
      ·
       have HJX := ae hJx3
       clear hJx3 HS jq
       gi_wp2_with fail
       go_wp2_with fail
       refine bodyPost_ret (results_none rfl _ _ _) rfl ?_
       exact ⟨⟨_, rfl⟩, .inr ⟨_, by rw [← oQ gq.out]; exact List.take_prefix _ _, HJX.out⟩⟩
     ·
      have tm1 : decide ((i : Int) + 1 < ls.length) = false := decide_eq_false (by omega)
      have tm2 : decide (i + 1 < ls.length) = false := decide_eq_false hq
      have hw2 : IntKind.i64.wrap ((i : Int) + 1) = (i : Int) + 1 := IntWalk.i64_in _ (by omega)
      have HQ := ae hq
      clear hq
      have HEN : Hid (encR ls.length X xa xe ⟨i, hlt⟩ = #[Ei c0 c1 c2 c3 c4 c5 c6, Ej xe xa xa xe xa xa]) := by
       show _ = _
       unfold encR mQ mV gG gI
       dsimp only
       simp only [if_neg HP.out, if_neg HQ.out, Hc0.out, Hc1.out, Hc2.out, Hc3.out, Hc4.out, Hc5.out, Hc6.out]
      have jf := (HS.out.at 1 _ _ _ rfl)
      have jJ := af jf 0 (.slice (some ⟨bk, off, none⟩) ls.length cap) rfl
      have kP := ah jf 0
      have vS := ai jf
      clear jf
      go_upto_region 9 with (first | (refine wpList_load_mid rfl 46 (.tmp 18) rfl bk Ac rfl _ _ (jA cR.out HS.out.bel fU.out) Tryz.underlying46 rfl (by kernel_rfl) ?_) | (refine cO rfl 46 (.tmp 7) (.tmp 19) rfl fP.heap.size rfl #[.bool c0.b, .slice c0.a c0.n c0.c, .slice c0.d c0.m c0.e, .bool c1.b, .slice c1.a c1.n c1.c, .slice c1.d c1.m c1.e, .bool c2.b, .slice c2.a c2.n c2.c, .slice c2.d c2.m c2.e, .bool c3.b, .slice c3.a c3.n c3.c, .slice c3.d c3.m c3.e, .bool c4.b, .slice c4.a c4.n c4.c, .slice c4.d c4.m c4.e, .bool c5.b, .slice c5.a c5.n c5.c, .slice c5.d c5.m c5.e, .bool c6.b, .slice c6.a c6.n c6.c, .slice c6.d c6.m c6.e] #[.bool false, .slice none 0 0, .slice none 0 0, .bool false, .slice none 0 0, .slice none 0 0, .bool false, .slice none 0 0, .slice none 0 0, .bool false, .slice none 0 0, .slice none 0 0, .bool false, .slice none 0 0, .slice none 0 0, .bool false, .slice none 0 0, .slice none 0 0, .bool false, .slice none 0 0, .slice none 0 0] _ rfl rfl (by simp) (by kernel_rfl) (by simp [Value.oneCell']) ?_) | (refine wpList_load_mid rfl 101 (.tmp 5) rfl fK 0 rfl [.bool xe.b, .slice xe.a xe.n xe.c, .slice xe.d xe.m xe.e, .bool xa.b, .slice xa.a xa.n xa.c, .slice xa.d xa.m xa.e, .bool xa.b, .slice xa.a xa.n xa.c, .slice xa.d xa.m xa.e] _ (dK (HS.out.at 0 _ _ _ rfl)) Tryz.underlying101 rfl (by kernel_rfl) ?_) | (refine wpList_load_mid rfl 101 (.tmp 5) rfl fK 0 rfl [.bool xe.b, .slice xe.a xe.n xe.c, .slice xe.d xe.m xe.e, .bool xa.b, .slice xa.a xa.n xa.c, .slice xa.d xa.m xa.e, .bool xa.b, .slice xa.a xa.n xa.c, .slice xa.d xa.m xa.e] _ (fO (HS.out.at 0 _ _ _ rfl)) Tryz.underlying101 rfl (by kernel_rfl) ?_) | (refine wpList_load_mid rfl 101 (.tmp 5) rfl fK 0 rfl [.bool xe.b, .slice xe.a xe.n xe.c, .slice xe.d xe.m xe.e, .bool xa.b, .slice xa.a xa.n xa.c, .slice xa.d xa.m xa.e, .bool xa.b, .slice xa.a xa.n xa.c, .slice xa.d xa.m xa.e] _ (f_ (HS.out.at 0 _ _ _ rfl)) Tryz.underlying101 rfl (by kernel_rfl) ?_) | (refine cO rfl 102 (.tmp 8) (.tmp 22) rfl (fP.heap.size + 1) (by simp) #[.bool xe.b, .slice xe.a xe.n xe.c, .slice xe.d xe.m xe.e, .bool xa.b, .slice xa.a xa.n xa.c, .slice xa.d xa.m xa.e, .bool xa.b, .slice xa.a xa.n xa.c, .slice xa.d xa.m xa.e, .bool xe.b, .slice xe.a xe.n xe.c, .slice xe.d xe.m xe.e, .bool xa.b, .slice xa.a xa.n xa.c, .slice xa.d xa.m xa.e, .bool xa.b, .slice xa.a xa.n xa.c, .slice xa.d xa.m xa.e] #[.bool false, .slice none 0 0, .slice none 0 0, .bool false, .slice none 0 0, .slice none 0 0, .bool false, .slice none 0 0, .slice none 0 0, .bool false, .slice none 0 0, .slice none 0 0, .bool false, .slice none 0 0, .slice none 0 0, .bool false, .slice none 0 0, .slice none 0 0] _ rfl rfl (by simp) (by kernel_rfl) (by simp [Value.oneCell']) ?_))
      clear jJ kP vS
      have atz : Hid (fP.heap.size ≤ fP.heap.size) := by first | exact jq.out.size | (show _ ≤ _; have := jq.out.size; omega)
      have atA : Hid (fP.heap.size ≤ fP.heap.size + 1) := by first | exact jq.out.size | (show _ ≤ _; have := jq.out.size; omega)
      generalize aiy : ((fP).alloc (.cells _ _)).alloc (.cells _ _) = W73 at *
      replace HS := ae ((((HS.out).alloc (B := fP.heap.size) rfl (by rfl)).alloc (B := fP.heap.size + 1) (by simp) (by rfl)).to aiy (by (try simp only [ig, ik]); rfl))
      replace jq : Hid (Below fP.heap.size fP W73) := by subst aiy; exact ae ((dC (dC jq.out)))
      clear aiy
      clear hw2 tm1 tm2
      refine (wpIn_wide (n := n)).1 ?_
      obtain ⟨fn, tm, asg, bod, hy, hR⟩ := HY.out ((List.finRange ls.length).take i) ⟨i, gq.out⟩ W73 (HJ.out _ _ _ none HJR.out (grownBy_below jq.out none) (fun r e => by cases e)) (by rw [pX (by have := gq.out; omega)]; exact gq.out)
      rw [HEN.out] at hy
      unfold Ei Ej at hy
      gi_wp2_with (first | (refine dD rfl 46 (.tmp 7) rfl fP.heap.size 0 rfl [.bool c0.b, .slice c0.a c0.n c0.c, .slice c0.d c0.m c0.e, .bool c1.b, .slice c1.a c1.n c1.c, .slice c1.d c1.m c1.e, .bool c2.b, .slice c2.a c2.n c2.c, .slice c2.d c2.m c2.e, .bool c3.b, .slice c3.a c3.n c3.c, .slice c3.d c3.m c3.e, .bool c4.b, .slice c4.a c4.n c4.c, .slice c4.d c4.m c4.e, .bool c5.b, .slice c5.a c5.n c5.c, .slice c5.d c5.m c5.e, .bool c6.b, .slice c6.a c6.n c6.c, .slice c6.d c6.m c6.e] _ (dK (HS.out.at 1 _ _ _ rfl)) Tryz.underlying46 rfl (by kernel_rfl) ?_) | (refine dD rfl 102 (.tmp 8) rfl (fP.heap.size + 1) 0 rfl [.bool xe.b, .slice xe.a xe.n xe.c, .slice xe.d xe.m xe.e, .bool xa.b, .slice xa.a xa.n xa.c, .slice xa.d xa.m xa.e, .bool xa.b, .slice xa.a xa.n xa.c, .slice xa.d xa.m xa.e, .bool xe.b, .slice xe.a xe.n xe.c, .slice xe.d xe.m xe.e, .bool xa.b, .slice xa.a xa.n xa.c, .slice xa.d xa.m xa.e, .bool xa.b, .slice xa.a xa.n xa.c, .slice xa.d xa.m xa.e] _ (dK (HS.out.at 0 _ _ _ rfl)) Tryz.underlying102 rfl (by kernel_rfl) ?_))
      clear hy
      refine ⟨fun h => (by cases h), ?_⟩
      refine hR.mono ?_
      rintro e W3 (⟨rfl, hJ3, hk3⟩ | ⟨rfl, hJx3⟩)
      ·
       have hob := HS.out.at 2 _ _ _ rfl
       replace HS := ae (Sx.kept (bs := [(fK, #[.bool xe.b, .slice xe.a xe.n xe.c, .slice xe.d xe.m xe.e, .bool xa.b, .slice xa.a xa.n xa.c, .slice xa.d xa.m xa.e, .bool xa.b, .slice xa.a xa.n xa.c, .slice xa.d xa.m xa.e], 101), (Bl, #[.slice (some ⟨bk, off, none⟩) ls.length cap], 31), (Ba, xa.arr, 40), (Be, xe.arr, 40)]) ((HS.out.erase 0).erase 0) HF0.out (HS.out.bel.trans hk3.1) (fun q hq => by
        simp only [List.mem_cons, List.not_mem_nil, or_false] at hq
        rcases hq with rfl | rfl | rfl | rfl
        · exact (hk3.2.2 _ _ _ hob).trans hob.symm
        · exact hk3.2.1 _ (by simp)
        · exact hk3.2.1 _ (by simp)
        · exact hk3.2.1 _ (by simp)))
       have HJN : Hid (J ((List.finRange ls.length).take (i + 1)) W3) := by show J _ _; rw [oQ gq.out]; exact hJ3
       clear hob hJ3 hk3 jq
       gi_wp2_with fail
       go_wp2_with fail
       exact ⟨⟨i + 1, by have := gq.out; omega, by go_num, HJN, ae (((HS.out.bare).az (HS.out.p 1 _ _ rfl)).az (HS.out.p 0 _ _ rfl))⟩, bU gq.out⟩
      ·
       have HJX := ae hJx3
       clear hJx3 HS jq
       gi_wp2_with fail
       go_wp2_with fail
       refine bodyPost_ret (results_none rfl _ _ _) rfl ?_
       exact ⟨⟨_, rfl⟩, .inr ⟨_, by rw [← oQ gq.out]; exact List.take_prefix _ _, HJX.out⟩⟩
   ·
    obtain rfl : i = ls.length := by omega
    have HJN := HJR
    go_wp2_with fail
    refine bodyPost_ret (results_none rfl _ _ _) rfl ?_
    exact ⟨⟨_, rfl⟩, .inl ⟨_, rfl, by have h := HJN.out; rw [ad7] at h; exact h⟩⟩
end Go.Proofs.YtkblihocfapklaaGreat
