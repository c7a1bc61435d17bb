/- Part i of the lemmas and walks. -/
import Derived.Test.YtkblihocfapklaaGreatFh
set_option maxRecDepth 100000
set_option maxHeartbeats 30000000
namespace Go.Proofs.YtkblihocfapklaaGreat
open Go.RowKit
attribute [local go_sem] Oper.semAt_some
theorem qP {l n : Nat} {P : Program} {ops : Array Oper} {rest : List Oper} {op : Oper} {a : Act} {w : World} {Q : Exit → Act → World → Prop} (hgd : op.guard = none) (ty : TypeId) (x y : Operand) (ho : op.op = .store ty x y)
  (B : Nat) (hB : w.heap.size = B) (cells zs : Array Value) (T : TypeId) (hx : a.eval x = .pointer (some ⟨B, 0, none⟩)) (hy : a.eval y = .agg cells) (hz : cells.size = zs.size) (hi : (P.info? ty).map (·.size) = some cells.size) (h1 : cells.all (·.oneCell') = true)
  (h : wpListIn (Fence.wide.inRound l) n P ops Q rest (a.put op.dst undef) (w.alloc (.cells cells T))) : wpListIn (Fence.wide.inRound l) n P ops Q (op :: rest) a (w.alloc (.cells zs T)) := by
 subst hB
 refine wpListIn_plain hgd fun K hK => zl (by intro c; rw [ho]; simp) ?_
 refine wp_store_mid ty x y ho w.heap.size 0 cells hx hy (oC (aV w zs T) (by omega)) hi h1 ?_
 have := uH w T cells.toList [] zs (by simp; omega) rfl
 rw [List.nil_append] at this
 rw [show (w.alloc (.cells zs T)).setCells w.heap.size 0 cells.toList = w.alloc (.cells cells T) from this]
 exact hK _ _ h
def nP (v w : Rat) : Nat → Rat
 | 0 => 1
 | 1 => 1 - v
 | _ => 1 - v - w
def zi (u l m : Rat) : Nat → Rat
 | 0 => u
 | 1 => u + l
 | _ => u + l + m
theorem ajD {v w : Rat} (h1 : bQ v 1000) (h2 : bQ w 1000) : ∀ j, bQ (nP v w j) 3000
 | 0 => aj (jb 1 (by omega)) (by omega)
 | 1 => aj (oP (jb 1 (by omega)) h1) (by omega)
 | _ + 2 => aj (oP (oP (jb 1 (by omega)) h1) h2) (by omega)
theorem aci {u l m : Rat} (h0 : bQ u 20000) (h1 : bQ l 3000) (h2 : bQ m 3000) : ∀ j, bQ (zi u l m j) 30000
 | 0 => aj h0 (by omega)
 | 1 => aj (lN h0 h1) (by omega)
 | _ + 2 => aj (lN (lN h0 h1) h2) (by omega)
theorem AU (a b c d : Rat) (vx vy : Value) (w : World) (hx : cZ w vx a b) (hy : cZ w vy c d) (sa : bQ a 1000000000) (sb : bQ b 1000000000) (sc : bQ c 1000000000) (sd : bQ d 1000000000) :
  Calls Tryz.prog 49 #[vx, vy] w (iK (jQ a b c d) (jP a b c d) w) := ab6 a b c d vx vy w hx hy sa sb sc sd
def ahF (sl : Value) (xa xe : R3) (w : World) (e : Ending) (w' : World) : Prop :=
 ∃ Be Ba Bl : Nat, e = .returned (.func (.func 71) #[] #[.pointer (some ⟨Be, 0, none⟩), .pointer (some ⟨Ba, 0, none⟩), .pointer (some ⟨Bl, 0, none⟩)]) ∧ Below w.heap.size w w' ∧
  w'.heap[Be]? = some (.cells xe.arr 40 (0, 0)) ∧ w'.heap[Ba]? = some (.cells xa.arr 40 (0, 0)) ∧ w'.heap[Bl]? = some (.cells #[sl] 31 (0, 0)) ∧
  w.heap.size ≤ Be ∧ w.heap.size ≤ Ba ∧ w.heap.size ≤ Bl ∧ Be ≠ Ba ∧ Be ≠ Bl ∧ Ba ≠ Bl
theorem O7 {n : Nat} {w W W' : World} (h : Below n w W) (h' : Below n w W') (hs : W.heap.size ≤ W'.heap.size) : Below n W W' :=
 ⟨h'.os.trans h.os.symm, h'.tape.trans h.tape.symm, h'.output.trans h.output.symm, hs, fun k hk => (h'.block k hk).trans (h.block k hk).symm⟩
theorem Rw.below {T n : Nat} {Bs : List Nat} {W W' : World} (h : Below W.heap.size W W') (hn : n ≤ W.heap.size) (hB : ∀ b, b ∈ Bs → b < W.heap.size) : Rw T n Bs W W' :=
 ⟨h.mono hn, fun b hb => h.block b (hB b hb), fun k cs fr hk => (h.block k (Array.getElem?_eq_some_iff.1 hk).1).trans hk⟩
theorem afy {w : World} {ls : List (List Rat)} {ed : Rat} {X : Nat → Nat → R3} {xe : R3} {i : Nat} (hi : i < ls.length) (hX : ∀ i, i < ls.length → ∀ j, j < 7 → aA w (X i j).val (aS ls i j)) (he : aA w xe.val ed) : aA w (mQ X xe i).val (sV ls ed i) := by
 unfold mQ sV
 split
 · exact hX _ (by omega) 0 (by omega)
 · exact he
theorem afz {w : World} {ls : List (List Rat)} {ed : Rat} {X : Nat → Nat → R3} {xe : R3} {i : Nat} (hi : i < ls.length) (hX : ∀ i, i < ls.length → ∀ j, j < 7 → aA w (X i j).val (aS ls i j)) (he : aA w xe.val ed) : aA w (mV ls.length X xe i).val (sW ls ed i) := by
 unfold mV sW
 split
 · exact hX _ hi 0 (by omega)
 · exact he
theorem TJ {w : World} {ls : List (List Rat)} {dX : Rat} {X : Nat → Nat → R3} {xa : R3} {i : Nat} (hi : i < ls.length) (hX : ∀ i, i < ls.length → ∀ j, j < 7 → aA w (X i j).val (aS ls i j)) (ha : aA w xa.val dX) (j : Nat) (hj : j < 7) : aA w (gG X xa i j).val (sL ls dX i j) := by
 unfold gG sL
 split
 · exact hX _ (by omega) j hj
 · exact ha
theorem TK {w : World} {ls : List (List Rat)} {dX : Rat} {X : Nat → Nat → R3} {xa : R3} {i : Nat} (hX : ∀ i, i < ls.length → ∀ j, j < 7 → aA w (X i j).val (aS ls i j)) (ha : aA w xa.val dX) (j : Nat) (hj : j < 7) : aA w (gI ls.length X xa i j).val (sM ls dX i j) := by
 unfold gI sM
 split
 · exact hX _ (by assumption) j hj
 · exact ha
theorem Vf (ls : List (List Rat)) (dX ed : Rat) (X : Nat → Nat → R3) (xa xe : R3) (bk off cap : Nat) (w0 : World) (hlen : ls.length ≤ 1000000) (hbl : bk < w0.heap.size) (hX : (∀ i, i < ls.length → ∀ j, j < 7 → w0.cell? ⟨bk, off + i * (3 * 7) + j * 3, none⟩ = some (.bool (X i j).b) ∧ w0.cell? ⟨bk, off + i * (3 * 7) + j * 3 + 1, none⟩ = some (.slice (X i j).a (X i j).n (X i j).c) ∧ w0.cell? ⟨bk, off + i * (3 * 7) + j * 3 + 2, none⟩ = some (.slice (X i j).d (X i j).m (X i j).e) ∧ Fr true w0 (X i j).val ((ls.getD i []).getD j 0))) (hf : Sx w0 w0 [] [(true, xe.val, ed), (true, xa.val, dX)]) (Be Ba Bl n : Nat) (W1 : World)
  (hS : Sx w0 W1 [(Bl, #[.slice (some ⟨bk, off, none⟩) ls.length cap], 31), (Ba, xa.arr, 40), (Be, xe.arr, 40)] []) :
  SeqStopsK Fence.wide n Tryz.prog 71 #[.pointer (some ⟨Be, 0, none⟩), .pointer (some ⟨Ba, 0, none⟩), .pointer (some ⟨Bl, 0, none⟩)] (encR ls.length X xa xe) (Rw 101 w0.heap.size [Be, Ba, Bl]) (fun ys => ys = List.finRange ls.length) (fun pre => pre <+: List.finRange ls.length) ls.length W1 :=
 fun l J Jx W hW hJ _ hY h0 => row_in ls dX ed X xa xe bk off cap w0 hlen hbl hX hf Be Ba Bl l n J Jx W (hS.below hW) hJ hY h0
theorem Sx.ao6 {w0 wc w : World} {bs : List Bx} {fs : List Fx} (h : Sx w0 w bs fs) (hlt : ∀ b, b ∈ bs → b.1 < wc.heap.size) (hs : w0.heap.size ≤ wc.heap.size) {B1 B2 B3 T1 T2 T3 : Nat} {c1 c2 c3 : Array Value} (h1 : w.heap[B1]? = some (.cells c1 T1 (0, 0))) (h2 : w.heap[B2]? = some (.cells c2 T2 (0, 0))) (h3 : w.heap[B3]? = some (.cells c3 T3 (0, 0)))
    (g1 : wc.heap.size ≤ B1) (g2 : wc.heap.size ≤ B2) (g3 : wc.heap.size ≤ B3) (n12 : B1 ≠ B2) (n13 : B1 ≠ B3) (n23 : B2 ≠ B3) (p1 : c1.toList.all ni = true) (p2 : c2.toList.all ni = true) (p3 : c3.toList.all ni = true) : Sx w0 w ((B3, c3, T3) :: (B2, c2, T2) :: (B1, c1, T1) :: bs) fs :=
  ((h.ku h1 (Nat.le_trans hs g1) p1 (fun b hb => by have := hlt b hb; omega)).ku h2 (Nat.le_trans hs g2) p2 (fun b hb => by
    rcases List.mem_cons.1 hb with rfl | hb
    · exact n12
    · have := hlt b hb; omega)).ku h3 (Nat.le_trans hs g3) p3 (fun b hb => by
    rcases List.mem_cons.1 hb with rfl | hb
    · exact n23
    · rcases List.mem_cons.1 hb with rfl | hb
      · exact n13
      · have := hlt b hb; omega)
theorem L9 (ls : List (List Rat)) (es : List lD) (dX ed : Rat) (k : Nat) : ((List.finRange ls.length).map fun i => qG ls es dX ed k i.1) = nK ls es dX ed k ls.length := by
 unfold nK
 apply List.ext_getElem
 · simp
 ·
  intro i h1 h2
  simp
theorem yZ (x0 : R3) (x1 : R3) (x2 : R3) (x3 : R3) (x4 : R3) (x5 : R3) (w : World) : (Instr.index 102 (.agg #[.bool x0.b, .slice x0.a x0.n x0.c, .slice x0.d x0.m x0.e, .bool x1.b, .slice x1.a x1.n x1.c, .slice x1.d x1.m x1.e, .bool x2.b, .slice x2.a x2.n x2.c, .slice x2.d x2.m x2.e, .bool x3.b, .slice x3.a x3.n x3.c, .slice x3.d x3.m x3.e, .bool x4.b, .slice x4.a x4.n x4.c, .slice x4.d x4.m x4.e, .bool x5.b, .slice x5.a x5.n x5.c, .slice x5.d x5.m x5.e]) (.int .i64 0)).run Tryz.prog w = .ok (.agg #[.bool x0.b, .slice x0.a x0.n x0.c, .slice x0.d x0.m x0.e, .bool x1.b, .slice x1.a x1.n x1.c, .slice x1.d x1.m x1.e, .bool x2.b, .slice x2.a x2.n x2.c, .slice x2.d x2.m x2.e]) w := by kernel_rfl
theorem y8 (x0 : R3) (x1 : R3) (x2 : R3) (x3 : R3) (x4 : R3) (x5 : R3) (w : World) : (Instr.index 102 (.agg #[.bool x0.b, .slice x0.a x0.n x0.c, .slice x0.d x0.m x0.e, .bool x1.b, .slice x1.a x1.n x1.c, .slice x1.d x1.m x1.e, .bool x2.b, .slice x2.a x2.n x2.c, .slice x2.d x2.m x2.e, .bool x3.b, .slice x3.a x3.n x3.c, .slice x3.d x3.m x3.e, .bool x4.b, .slice x4.a x4.n x4.c, .slice x4.d x4.m x4.e, .bool x5.b, .slice x5.a x5.n x5.c, .slice x5.d x5.m x5.e]) (.int .i64 1)).run Tryz.prog w = .ok (.agg #[.bool x3.b, .slice x3.a x3.n x3.c, .slice x3.d x3.m x3.e, .bool x4.b, .slice x4.a x4.n x4.c, .slice x4.d x4.m x4.e, .bool x5.b, .slice x5.a x5.n x5.c, .slice x5.d x5.m x5.e]) w := by kernel_rfl
theorem Sx.nC {w0 w : World} {bs : List Bx} {fs : List Fx} (h : Sx w0 w bs fs) (i : Nat) (o0 : R3) (o1 : R3) (o2 : R3) (o3 : R3) (o4 : R3) (o5 : R3) (o6 : R3) (n5 : R3) (n6 : R3) {B T : Nat} (hi : bs[i]? = some (B, #[.bool o0.b, .slice o0.a o0.n o0.c, .slice o0.d o0.m o0.e, .bool o1.b, .slice o1.a o1.n o1.c, .slice o1.d o1.m o1.e, .bool o2.b, .slice o2.a o2.n o2.c, .slice o2.d o2.m o2.e, .bool o3.b, .slice o3.a o3.n o3.c, .slice o3.d o3.m o3.e, .bool o4.b, .slice o4.a o4.n o4.c, .slice o4.d o4.m o4.e, .bool o5.b, .slice o5.a o5.n o5.c, .slice o5.d o5.m o5.e, .bool o6.b, .slice o6.a o6.n o6.c, .slice o6.d o6.m o6.e], T)) :
  Sx w0 (((((((w).setCell ⟨B, 15, none⟩ (.bool n5.b)).setCell ⟨B, 16, none⟩ (.slice n5.a n5.n n5.c)).setCell ⟨B, 17, none⟩ (.slice n5.d n5.m n5.e)).setCell ⟨B, 18, none⟩ (.bool n6.b)).setCell ⟨B, 19, none⟩ (.slice n6.a n6.n n6.c)).setCell ⟨B, 20, none⟩ (.slice n6.d n6.m n6.e)) (bs.set i (B, #[.bool o0.b, .slice o0.a o0.n o0.c, .slice o0.d o0.m o0.e, .bool o1.b, .slice o1.a o1.n o1.c, .slice o1.d o1.m o1.e, .bool o2.b, .slice o2.a o2.n o2.c, .slice o2.d o2.m o2.e, .bool o3.b, .slice o3.a o3.n o3.c, .slice o3.d o3.m o3.e, .bool o4.b, .slice o4.a o4.n o4.c, .slice o4.d o4.m o4.e, .bool n5.b, .slice n5.a n5.n n5.c, .slice n5.d n5.m n5.e, .bool n6.b, .slice n6.a n6.n n6.c, .slice n6.d n6.m n6.e], T)) fs := by
 have hl := (List.getElem?_eq_some_iff.1 hi).1
 have g := ((((((h).set i hi 15 (v := .bool n5.b) rfl).set i (by rw [List.getElem?_set, if_pos rfl, if_pos (by simpa using hl)]) 16 (v := .slice n5.a n5.n n5.c) rfl).set i (by rw [List.getElem?_set, if_pos rfl, if_pos (by simpa using hl)]) 17 (v := .slice n5.d n5.m n5.e) rfl).set i (by rw [List.getElem?_set, if_pos rfl, if_pos (by simpa using hl)]) 18 (v := .bool n6.b) rfl).set i (by rw [List.getElem?_set, if_pos rfl, if_pos (by simpa using hl)]) 19 (v := .slice n6.a n6.n n6.c) rfl).set i (by rw [List.getElem?_set, if_pos rfl, if_pos (by simpa using hl)]) 20 (v := .slice n6.d n6.m n6.e) rfl
 simpa using g
theorem jF.nC {w0 w : World} {bs : List Bx} {gs : List yz} {fs : List Fx} (h : jF w0 w bs gs) (hs : Sx w0 w bs fs) (i : Nat) (o0 : R3) (o1 : R3) (o2 : R3) (o3 : R3) (o4 : R3) (o5 : R3) (o6 : R3) (n5 : R3) (n6 : R3) {B T : Nat} (hi : bs[i]? = some (B, #[.bool o0.b, .slice o0.a o0.n o0.c, .slice o0.d o0.m o0.e, .bool o1.b, .slice o1.a o1.n o1.c, .slice o1.d o1.m o1.e, .bool o2.b, .slice o2.a o2.n o2.c, .slice o2.d o2.m o2.e, .bool o3.b, .slice o3.a o3.n o3.c, .slice o3.d o3.m o3.e, .bool o4.b, .slice o4.a o4.n o4.c, .slice o4.d o4.m o4.e, .bool o5.b, .slice o5.a o5.n o5.c, .slice o5.d o5.m o5.e, .bool o6.b, .slice o6.a o6.n o6.c, .slice o6.d o6.m o6.e], T)) :
  jF w0 (((((((w).setCell ⟨B, 15, none⟩ (.bool n5.b)).setCell ⟨B, 16, none⟩ (.slice n5.a n5.n n5.c)).setCell ⟨B, 17, none⟩ (.slice n5.d n5.m n5.e)).setCell ⟨B, 18, none⟩ (.bool n6.b)).setCell ⟨B, 19, none⟩ (.slice n6.a n6.n n6.c)).setCell ⟨B, 20, none⟩ (.slice n6.d n6.m n6.e)) (bs.set i (B, #[.bool o0.b, .slice o0.a o0.n o0.c, .slice o0.d o0.m o0.e, .bool o1.b, .slice o1.a o1.n o1.c, .slice o1.d o1.m o1.e, .bool o2.b, .slice o2.a o2.n o2.c, .slice o2.d o2.m o2.e, .bool o3.b, .slice o3.a o3.n o3.c, .slice o3.d o3.m o3.e, .bool o4.b, .slice o4.a o4.n o4.c, .slice o4.d o4.m o4.e, .bool n5.b, .slice n5.a n5.n n5.c, .slice n5.d n5.m n5.e, .bool n6.b, .slice n6.a n6.n n6.c, .slice n6.d n6.m n6.e], T)) gs := by
 have hl := (List.getElem?_eq_some_iff.1 hi).1
 have g := ((((((h).set2 (hs) i hi 15 (.bool n5.b)).set2 ((hs).set i hi 15 (v := .bool n5.b) rfl) i (by rw [List.getElem?_set, if_pos rfl, if_pos (by simpa using hl)]) 16 (.slice n5.a n5.n n5.c)).set2 (((hs).set i hi 15 (v := .bool n5.b) rfl).set i (by rw [List.getElem?_set, if_pos rfl, if_pos (by simpa using hl)]) 16 (v := .slice n5.a n5.n n5.c) rfl) i (by rw [List.getElem?_set, if_pos rfl, if_pos (by simpa using hl)]) 17 (.slice n5.d n5.m n5.e)).set2 ((((hs).set i hi 15 (v := .bool n5.b) rfl).set i (by rw [List.getElem?_set, if_pos rfl, if_pos (by simpa using hl)]) 16 (v := .slice n5.a n5.n n5.c) rfl).set i (by rw [List.getElem?_set, if_pos rfl, if_pos (by simpa using hl)]) 17 (v := .slice n5.d n5.m n5.e) rfl) i (by rw [List.getElem?_set, if_pos rfl, if_pos (by simpa using hl)]) 18 (.bool n6.b)).set2 (((((hs).set i hi 15 (v := .bool n5.b) rfl).set i (by rw [List.getElem?_set, if_pos rfl, if_pos (by simpa using hl)]) 16 (v := .slice n5.a n5.n n5.c) rfl).set i (by rw [List.getElem?_set, if_pos rfl, if_pos (by simpa using hl)]) 17 (v := .slice n5.d n5.m n5.e) rfl).set i (by rw [List.getElem?_set, if_pos rfl, if_pos (by simpa using hl)]) 18 (v := .bool n6.b) rfl) i (by rw [List.getElem?_set, if_pos rfl, if_pos (by simpa using hl)]) 19 (.slice n6.a n6.n n6.c)).set2 ((((((hs).set i hi 15 (v := .bool n5.b) rfl).set i (by rw [List.getElem?_set, if_pos rfl, if_pos (by simpa using hl)]) 16 (v := .slice n5.a n5.n n5.c) rfl).set i (by rw [List.getElem?_set, if_pos rfl, if_pos (by simpa using hl)]) 17 (v := .slice n5.d n5.m n5.e) rfl).set i (by rw [List.getElem?_set, if_pos rfl, if_pos (by simpa using hl)]) 18 (v := .bool n6.b) rfl).set i (by rw [List.getElem?_set, if_pos rfl, if_pos (by simpa using hl)]) 19 (v := .slice n6.a n6.n n6.c) rfl) i (by rw [List.getElem?_set, if_pos rfl, if_pos (by simpa using hl)]) 20 (.slice n6.d n6.m n6.e)
 simpa using g
theorem Sx.nz {w0 w : World} {bs : List Bx} {fs : List Fx} (h : Sx w0 w bs fs) (i : Nat) (o0 : R3) (o1 : R3) (o2 : R3) (o3 : R3) (o4 : R3) (o5 : R3) (o6 : R3) (n3 : R3) (n4 : R3) {B T : Nat} (hi : bs[i]? = some (B, #[.bool o0.b, .slice o0.a o0.n o0.c, .slice o0.d o0.m o0.e, .bool o1.b, .slice o1.a o1.n o1.c, .slice o1.d o1.m o1.e, .bool o2.b, .slice o2.a o2.n o2.c, .slice o2.d o2.m o2.e, .bool o3.b, .slice o3.a o3.n o3.c, .slice o3.d o3.m o3.e, .bool o4.b, .slice o4.a o4.n o4.c, .slice o4.d o4.m o4.e, .bool o5.b, .slice o5.a o5.n o5.c, .slice o5.d o5.m o5.e, .bool o6.b, .slice o6.a o6.n o6.c, .slice o6.d o6.m o6.e], T)) :
  Sx w0 (((((((w).setCell ⟨B, 9, none⟩ (.bool n3.b)).setCell ⟨B, 10, none⟩ (.slice n3.a n3.n n3.c)).setCell ⟨B, 11, none⟩ (.slice n3.d n3.m n3.e)).setCell ⟨B, 12, none⟩ (.bool n4.b)).setCell ⟨B, 13, none⟩ (.slice n4.a n4.n n4.c)).setCell ⟨B, 14, none⟩ (.slice n4.d n4.m n4.e)) (bs.set i (B, #[.bool o0.b, .slice o0.a o0.n o0.c, .slice o0.d o0.m o0.e, .bool o1.b, .slice o1.a o1.n o1.c, .slice o1.d o1.m o1.e, .bool o2.b, .slice o2.a o2.n o2.c, .slice o2.d o2.m o2.e, .bool n3.b, .slice n3.a n3.n n3.c, .slice n3.d n3.m n3.e, .bool n4.b, .slice n4.a n4.n n4.c, .slice n4.d n4.m n4.e, .bool o5.b, .slice o5.a o5.n o5.c, .slice o5.d o5.m o5.e, .bool o6.b, .slice o6.a o6.n o6.c, .slice o6.d o6.m o6.e], T)) fs := by
 have hl := (List.getElem?_eq_some_iff.1 hi).1
 have g := ((((((h).set i hi 9 (v := .bool n3.b) rfl).set i (by rw [List.getElem?_set, if_pos rfl, if_pos (by simpa using hl)]) 10 (v := .slice n3.a n3.n n3.c) rfl).set i (by rw [List.getElem?_set, if_pos rfl, if_pos (by simpa using hl)]) 11 (v := .slice n3.d n3.m n3.e) rfl).set i (by rw [List.getElem?_set, if_pos rfl, if_pos (by simpa using hl)]) 12 (v := .bool n4.b) rfl).set i (by rw [List.getElem?_set, if_pos rfl, if_pos (by simpa using hl)]) 13 (v := .slice n4.a n4.n n4.c) rfl).set i (by rw [List.getElem?_set, if_pos rfl, if_pos (by simpa using hl)]) 14 (v := .slice n4.d n4.m n4.e) rfl
 simpa using g
theorem jF.nz {w0 w : World} {bs : List Bx} {gs : List yz} {fs : List Fx} (h : jF w0 w bs gs) (hs : Sx w0 w bs fs) (i : Nat) (o0 : R3) (o1 : R3) (o2 : R3) (o3 : R3) (o4 : R3) (o5 : R3) (o6 : R3) (n3 : R3) (n4 : R3) {B T : Nat} (hi : bs[i]? = some (B, #[.bool o0.b, .slice o0.a o0.n o0.c, .slice o0.d o0.m o0.e, .bool o1.b, .slice o1.a o1.n o1.c, .slice o1.d o1.m o1.e, .bool o2.b, .slice o2.a o2.n o2.c, .slice o2.d o2.m o2.e, .bool o3.b, .slice o3.a o3.n o3.c, .slice o3.d o3.m o3.e, .bool o4.b, .slice o4.a o4.n o4.c, .slice o4.d o4.m o4.e, .bool o5.b, .slice o5.a o5.n o5.c, .slice o5.d o5.m o5.e, .bool o6.b, .slice o6.a o6.n o6.c, .slice o6.d o6.m o6.e], T)) :
  jF w0 (((((((w).setCell ⟨B, 9, none⟩ (.bool n3.b)).setCell ⟨B, 10, none⟩ (.slice n3.a n3.n n3.c)).setCell ⟨B, 11, none⟩ (.slice n3.d n3.m n3.e)).setCell ⟨B, 12, none⟩ (.bool n4.b)).setCell ⟨B, 13, none⟩ (.slice n4.a n4.n n4.c)).setCell ⟨B, 14, none⟩ (.slice n4.d n4.m n4.e)) (bs.set i (B, #[.bool o0.b, .slice o0.a o0.n o0.c, .slice o0.d o0.m o0.e, .bool o1.b, .slice o1.a o1.n o1.c, .slice o1.d o1.m o1.e, .bool o2.b, .slice o2.a o2.n o2.c, .slice o2.d o2.m o2.e, .bool n3.b, .slice n3.a n3.n n3.c, .slice n3.d n3.m n3.e, .bool n4.b, .slice n4.a n4.n n4.c, .slice n4.d n4.m n4.e, .bool o5.b, .slice o5.a o5.n o5.c, .slice o5.d o5.m o5.e, .bool o6.b, .slice o6.a o6.n o6.c, .slice o6.d o6.m o6.e], T)) gs := by
 have hl := (List.getElem?_eq_some_iff.1 hi).1
 have g := ((((((h).set2 (hs) i hi 9 (.bool n3.b)).set2 ((hs).set i hi 9 (v := .bool n3.b) rfl) i (by rw [List.getElem?_set, if_pos rfl, if_pos (by simpa using hl)]) 10 (.slice n3.a n3.n n3.c)).set2 (((hs).set i hi 9 (v := .bool n3.b) rfl).set i (by rw [List.getElem?_set, if_pos rfl, if_pos (by simpa using hl)]) 10 (v := .slice n3.a n3.n n3.c) rfl) i (by rw [List.getElem?_set, if_pos rfl, if_pos (by simpa using hl)]) 11 (.slice n3.d n3.m n3.e)).set2 ((((hs).set i hi 9 (v := .bool n3.b) rfl).set i (by rw [List.getElem?_set, if_pos rfl, if_pos (by simpa using hl)]) 10 (v := .slice n3.a n3.n n3.c) rfl).set i (by rw [List.getElem?_set, if_pos rfl, if_pos (by simpa using hl)]) 11 (v := .slice n3.d n3.m n3.e) rfl) i (by rw [List.getElem?_set, if_pos rfl, if_pos (by simpa using hl)]) 12 (.bool n4.b)).set2 (((((hs).set i hi 9 (v := .bool n3.b) rfl).set i (by rw [List.getElem?_set, if_pos rfl, if_pos (by simpa using hl)]) 10 (v := .slice n3.a n3.n n3.c) rfl).set i (by rw [List.getElem?_set, if_pos rfl, if_pos (by simpa using hl)]) 11 (v := .slice n3.d n3.m n3.e) rfl).set i (by rw [List.getElem?_set, if_pos rfl, if_pos (by simpa using hl)]) 12 (v := .bool n4.b) rfl) i (by rw [List.getElem?_set, if_pos rfl, if_pos (by simpa using hl)]) 13 (.slice n4.a n4.n n4.c)).set2 ((((((hs).set i hi 9 (v := .bool n3.b) rfl).set i (by rw [List.getElem?_set, if_pos rfl, if_pos (by simpa using hl)]) 10 (v := .slice n3.a n3.n n3.c) rfl).set i (by rw [List.getElem?_set, if_pos rfl, if_pos (by simpa using hl)]) 11 (v := .slice n3.d n3.m n3.e) rfl).set i (by rw [List.getElem?_set, if_pos rfl, if_pos (by simpa using hl)]) 12 (v := .bool n4.b) rfl).set i (by rw [List.getElem?_set, if_pos rfl, if_pos (by simpa using hl)]) 13 (v := .slice n4.a n4.n n4.c) rfl) i (by rw [List.getElem?_set, if_pos rfl, if_pos (by simpa using hl)]) 14 (.slice n4.d n4.m n4.e)
 simpa using g
theorem AB : (Tryz.prog.info? 46).map (fun i => (i.zero, i.size, i.bytes)) = some (some (.agg #[.bool false, .slice none 0 0, .slice none 0 0, .bool false, .slice none 0 0, .slice none 0 0, .bool false, .slice none 0 0, .slice none 0 0, .bool false, .slice none 0 0, .slice none 0 0, .bool false, .slice none 0 0, .slice none 0 0, .bool false, .slice none 0 0, .slice none 0 0, .bool false, .slice none 0 0, .slice none 0 0]), 21, 392) := by kernel_rfl
theorem Sx.akw {w0 w : World} {bs : List Bx} {fs : List Fx} (h : Sx w0 w bs fs) (i : Nat) (Dh : Option Addr) (Dj Di : Nat) (n0a : Option Addr) (yC n0c : Nat) {B T : Nat} (hi : bs[i]? = some (B, #[.slice Dh Dj Di], T)) :
  Sx w0 ((w).setCell ⟨B, 0, none⟩ (.slice n0a yC n0c)) (bs.set i (B, #[.slice n0a yC n0c], T)) fs := by
 have hl := (List.getElem?_eq_some_iff.1 hi).1
 have g := (h).set i hi 0 (v := .slice n0a yC n0c) rfl
 simpa using g
theorem jF.akw {w0 w : World} {bs : List Bx} {gs : List yz} {fs : List Fx} (h : jF w0 w bs gs) (hs : Sx w0 w bs fs) (i : Nat) (Dh : Option Addr) (Dj Di : Nat) (n0a : Option Addr) (yC n0c : Nat) {B T : Nat} (hi : bs[i]? = some (B, #[.slice Dh Dj Di], T)) :
  jF w0 ((w).setCell ⟨B, 0, none⟩ (.slice n0a yC n0c)) (bs.set i (B, #[.slice n0a yC n0c], T)) gs := by
 have hl := (List.getElem?_eq_some_iff.1 hi).1
 have g := (h).set2 (hs) i hi 0 (.slice n0a yC n0c)
 simpa using g
theorem afA (sa : Option Addr) (sn sc : Nat) (xa xe : R3) (w : World) : Calls Tryz.prog 41 #[.slice sa sn sc, xa.val, xe.val] w (ahF (.slice sa sn sc) xa xe w) := by
 have HS := ae (Sx.init w)
 go_enter Tryz.func41, Tryz.ntmps41
 go_wp2_with fail
 generalize hW1 : (((w).alloc (.cells _ _)).alloc (.cells _ _)).alloc (.cells _ _) = W1 at *
 replace HS := ae (((((HS.out).alloc (B := w.heap.size) rfl (by rfl)).alloc (B := w.heap.size + 1) (by simp) (by rfl)).alloc (B := w.heap.size + 2) (by simp) (by rfl)).to hW1 (by (try simp only [ig, ik]); rfl))
 clear hW1
 go_ret
 exact ⟨_, _, _, rfl, HS.out.bel, HS.out.at 0 _ _ _ rfl, HS.out.at 1 _ _ _ rfl, HS.out.at 2 _ _ _ rfl, by omega, by omega, by omega, by omega, by omega, by omega⟩
theorem Qi (ls : List (List Rat)) (es : List lD) (dX ed : Rat) (k : Nat) (hk : k ≤ 256) (z : Int) (hz : min (max z 0) 256 = (k : Int)) (vl vt va ve : Value) (w : World) (h : di true 7 w vl ls) (ht : kN aA w vt es) (ha : aA w va dX) (he : aA w ve ed) (h0 : 0 < ls.length) (h16 : ls.length ≤ 16) (hall : Rt ls es dX ed k z) :
  Calls Tryz.prog 21 #[vl, vt, va, ve, .int .i64 z] w (OL 46 true 7 (nK ls es dX ed k ls.length) w) := by
 obtain ⟨xa, rfl⟩ := ha.bn
 obtain ⟨xe, rfl⟩ := he.bn
 obtain ⟨bk, off, cap, X, rfl, hbl, hX⟩ := h.pick h0
 have HS := ae (((Sx.init w).az ha).az he)
 have HF0 := ae (((Sx.init w).az ha).az he)
 have HX : Hid (∀ i, i < ls.length → ∀ j, j < 7 → w.cell? ⟨bk, off + i * (3 * 7) + j * 3, none⟩ = some (.bool (X i j).b) ∧ w.cell? ⟨bk, off + i * (3 * 7) + j * 3 + 1, none⟩ = some (.slice (X i j).a (X i j).n (X i j).c) ∧ w.cell? ⟨bk, off + i * (3 * 7) + j * 3 + 2, none⟩ = some (.slice (X i j).d (X i j).m (X i j).e) ∧ Fr true w (X i j).val ((ls.getD i []).getD j 0)) := hX
 have fU := ae hbl
 have akY := ae h16
 have HK := ae hk
 have HZK := ae hz
 have HT := ae ht
 have ahn := ae hall
 obtain ⟨Ib, ct, rfl, _⟩ := ht
 clear h ha he hbl hX h16 hk hz hall h0
 refine (callsIn_wide (n := 3)).1 ?_
 refine callsIn_of_wp_marks Tryz.func21 rfl trivial ?_ rfl
 simp only [Tryz.ntmps21, List.size_toArray, List.length_cons, List.length_nil, Nat.reduceAdd, Nat.reduceSub, Array.replicate_succ, Array.replicate_zero, List.push_toArray, List.append_toArray, List.nil_append, List.cons_append]
 refine wpIn_wide.2 ?_
 go_wp2_with fail
 generalize hW1 : (((((w).alloc (.cells _ _)).alloc (.cells _ _)).alloc (.cells _ _)).alloc (.cells _ _)).alloc (.cells _ _) = W1 at *
 replace HS := ae (((((((HS.out).alloc (B := w.heap.size) rfl (by rfl)).alloc (B := w.heap.size + 1) (by simp) (by rfl)).alloc (B := w.heap.size + 2) (by simp) (by rfl)).alloc (B := w.heap.size + 3) (by simp) (by rfl)).alloc (B := w.heap.size + 4) (by simp) (by rfl)).to hW1 (by (try simp only [ig, ik]); rfl))
 clear hW1
 have Dt := ae HS.out.lt
 have aoJ := ae HS.out.bel.size
 refine (afA _ _ _ xa xe _).mono ?_
 rintro e w2 ⟨Be, Ba, Bl, rfl, hb2, hE1, hE2, hE3, hg1, hg2, hg3, hn1, hn2, hn3⟩
 have HE1 := ae hE1
 have HE2 := ae hE2
 have HE3 := ae hE3
 have HG1 := ae hg1
 have HG2 := ae hg2
 have HG3 := ae hg3
 have OD := ae hn1
 have Hu := ae hn2
 have HN3 := ae hn3
 clear hE1 hE2 hE3 hg1 hg2 hg3 hn1 hn2 hn3
 replace HS := ae (HS.out.below hb2)
 clear hb2
 go_wp2_with fail
 replace HS := ae (HS.out.ao6 Dt.out aoJ.out HE1.out HE2.out HE3.out HG1.out HG2.out HG3.out OD.out Hu.out HN3.out (by rfl) (by rfl) (by rfl))
 have HAD : Hid (∀ n, n ∈ ([(Bl, #[.slice (some ⟨bk, off, none⟩) ls.length cap], 31), (Ba, xa.arr, 40), (Be, xe.arr, 40), (w.heap.size + 4, #[.slice none 0 0], 31), (w.heap.size + 3, #[.int .i64 z], 3), (w.heap.size + 2, xe.arr, 40), (w.heap.size + 1, xa.arr, 40), (w.heap.size, #[.slice Ib es.length ct], 26)] : List Bx).map (·.1) → n < w2.heap.size) := fun n hn => by obtain ⟨q, hq, rfl⟩ := List.mem_map.1 hn; exact HS.out.lt q hq
 have HWS : w.heap.size ≤ w2.heap.size := HS.out.bel.size
 have IX : ∀ q, q ∈ [Be, Ba, Bl] → q < w2.heap.size := fun q hq => HAD.out q (by simp only [List.mem_cons, List.not_mem_nil, or_false] at hq; rcases hq with rfl | rfl | rfl <;> simp)
 refine (wpIn_wide (n := 3)).1 ?_
 refine wpIn_rangeFunc_ownH rfl (by omega) (gf := 71) (lb := #[.pointer (some ⟨Be, 0, none⟩), .pointer (some ⟨Ba, 0, none⟩), .pointer (some ⟨Bl, 0, none⟩)]) rfl trivial (enters_of Tryz.func71 (by kernel_rfl) rfl)
  (Vf ls dX ed X xa xe bk off cap w (by have := akY.out; omega) fU.out HX.out HF0.out Be Ba Bl (3 - 1) w2 (((((HS.out.erase 3).erase 3).erase 3).erase 3).erase 3))
  (fun h k => Rw.trans h k) (fun W l o o' hl h hc _ => Rw.putObj HWS IX W l o o' hl h hc) (Below.refl _ _) (fun _ => rfl)
  (fun pre W => w2.heap.size ≤ W.heap.size ∧ ∃ (sa : Option Addr) (sn sc : Nat) (xs : List Value), Hid (Sx w W [(Bl, #[.slice (some ⟨bk, off, none⟩) ls.length cap], 31), (Ba, xa.arr, 40), (Be, xe.arr, 40), (w.heap.size + 4, #[.slice sa sn sc], 31), (w.heap.size + 3, #[.int .i64 z], 3), (w.heap.size + 2, xe.arr, 40), (w.heap.size + 1, xa.arr, 40), (w.heap.size, #[.slice Ib es.length ct], 26)] []) ∧ Hid (jF w W [(Bl, #[.slice (some ⟨bk, off, none⟩) ls.length cap], 31), (Ba, xa.arr, 40), (Be, xe.arr, 40), (w.heap.size + 4, #[.slice sa sn sc], 31), (w.heap.size + 3, #[.int .i64 z], 3), (w.heap.size + 2, xe.arr, 40), (w.heap.size + 1, xa.arr, 40), (w.heap.size, #[.slice Ib es.length ct], 26)] [⟨46, true, 7, (.slice sa sn sc), xs, (pre.map fun i => qG ls es dX ed k i.1)⟩]))
  (fun _ _ _ => False)
  (fun pre W W' row hs hg hr => by
   obtain ⟨hsz, sa, sn, sc, xs, h1, h2⟩ := hs
   exact ⟨Nat.le_trans hsz hg.size, sa, sn, sc, xs, ae (h1.out.other hg (fun r e => ⟨Nat.le_trans HWS (hr r e).1, (hr r e).2⟩)), ae (h2.out.other hg (fun r e => (hr r e).2))⟩)
  (fun _ _ _ _ _ hs _ _ => hs)
  ⟨Nat.le_refl _, none, 0, 0, [], ae HS.out.bare, ae (jF.add (jF.nil w w2 [(Bl, #[.slice (some ⟨bk, off, none⟩) ls.length cap], 31), (Ba, xa.arr, 40), (Be, xe.arr, 40), (w.heap.size + 4, #[.slice none 0 0], 31), (w.heap.size + 3, #[.int .i64 z], 3), (w.heap.size + 2, xe.arr, 40), (w.heap.size + 1, xa.arr, 40), (w.heap.size, #[.slice Ib es.length ct], 26)]) 46 true 7)⟩
  (fun x a' W => ∃ (Bc Bs : Nat) (sv : Value), W.heap[w.heap.size + 4]? = some (.cells #[sv] 31 (0, 0)) ∧ sv.ownBlock ≠ some Bc ∧ sv.ownBlock ≠ some Bs ∧ w2.heap.size ≤ Bc ∧ w2.heap.size ≤ Bs ∧ Bc ≠ Bs ∧ W.heap[Bc]? = some (.cells #[.bool (X x.1 0).b, .slice (X x.1 0).a (X x.1 0).n (X x.1 0).c, .slice (X x.1 0).d (X x.1 0).m (X x.1 0).e, .bool (X x.1 1).b, .slice (X x.1 1).a (X x.1 1).n (X x.1 1).c, .slice (X x.1 1).d (X x.1 1).m (X x.1 1).e, .bool (X x.1 2).b, .slice (X x.1 2).a (X x.1 2).n (X x.1 2).c, .slice (X x.1 2).d (X x.1 2).m (X x.1 2).e, .bool (X x.1 3).b, .slice (X x.1 3).a (X x.1 3).n (X x.1 3).c, .slice (X x.1 3).d (X x.1 3).m (X x.1 3).e, .bool (X x.1 4).b, .slice (X x.1 4).a (X x.1 4).n (X x.1 4).c, .slice (X x.1 4).d (X x.1 4).m (X x.1 4).e, .bool (X x.1 5).b, .slice (X x.1 5).a (X x.1 5).n (X x.1 5).c, .slice (X x.1 5).d (X x.1 5).m (X x.1 5).e, .bool (X x.1 6).b, .slice (X x.1 6).a (X x.1 6).n (X x.1 6).c, .slice (X x.1 6).d (X x.1 6).m (X x.1 6).e] 46 (0, 0)) ∧ W.heap[Bs]? = some (.cells #[.bool (mQ X xe x.1).b, .slice (mQ X xe x.1).a (mQ X xe x.1).n (mQ X xe x.1).c, .slice (mQ X xe x.1).d (mQ X xe x.1).m (mQ X xe x.1).e, .bool (gG X xa x.1 3).b, .slice (gG X xa x.1 3).a (gG X xa x.1 3).n (gG X xa x.1 3).c, .slice (gG X xa x.1 3).d (gG X xa x.1 3).m (gG X xa x.1 3).e, .bool (gG X xa x.1 4).b, .slice (gG X xa x.1 4).a (gG X xa x.1 4).n (gG X xa x.1 4).c, .slice (gG X xa x.1 4).d (gG X xa x.1 4).m (gG X xa x.1 4).e, .bool (mV ls.length X xe x.1).b, .slice (mV ls.length X xe x.1).a (mV ls.length X xe x.1).n (mV ls.length X xe x.1).c, .slice (mV ls.length X xe x.1).d (mV ls.length X xe x.1).m (mV ls.length X xe x.1).e, .bool (gI ls.length X xa x.1 3).b, .slice (gI ls.length X xa x.1 3).a (gI ls.length X xa x.1 3).n (gI ls.length X xa x.1 3).c, .slice (gI ls.length X xa x.1 3).d (gI ls.length X xa x.1 3).m (gI ls.length X xa x.1 3).e, .bool (gI ls.length X xa x.1 4).b, .slice (gI ls.length X xa x.1 4).a (gI ls.length X xa x.1 4).n (gI ls.length X xa x.1 4).c, .slice (gI ls.length X xa x.1 4).d (gI ls.length X xa x.1 4).m (gI ls.length X xa x.1 4).e] 102 (0, 0)) ∧ a' = { tmps := #[.slice (some ⟨bk, off, none⟩) ls.length cap, .slice Ib es.length ct, xa.val, xe.val, .int .i64 z, undef, .pointer (some ⟨w.heap.size, 0, none⟩), .pointer (some ⟨w.heap.size + 1, 0, none⟩), .pointer (some ⟨w.heap.size + 2, 0, none⟩), .pointer (some ⟨w.heap.size + 3, 0, none⟩), .slice none 0 0, .pointer (some ⟨w.heap.size + 4, 0, none⟩), .pointer (some ⟨Bc, 0, none⟩), .pointer (some ⟨Bs, 0, none⟩), undef, undef, undef, undef, undef, undef, undef, .slice (some ⟨bk, off, none⟩) ls.length cap, xa.val, xe.val, .func (.func 71) #[] #[.pointer (some ⟨Be, 0, none⟩), .pointer (some ⟨Ba, 0, none⟩), .pointer (some ⟨Bl, 0, none⟩)], Ei (X x.1 0) (X x.1 1) (X x.1 2) (X x.1 3) (X x.1 4) (X x.1 5) (X x.1 6), Ej (mQ X xe x.1) (gG X xa x.1 3) (gG X xa x.1 4) (mV ls.length X xe x.1) (gI ls.length X xa x.1 3) (gI ls.length X xa x.1 4), undef, undef, undef, undef, undef, undef, undef, undef, undef, undef, undef, undef, undef, undef, undef, undef, undef, undef, undef, undef, undef, undef, undef, undef, undef, undef, undef, undef, undef, undef, undef, undef, undef, undef, undef, undef, undef, undef, undef, undef, undef, undef, undef, undef, undef, undef, undef, undef, undef, undef, undef, undef, undef, undef, undef, undef, undef, undef, undef, undef, undef, undef, undef, undef, undef], defers := [] })
  (fun x a' _ X' Y' row hs hg hr => by
   obtain ⟨Bc, Bs, sv, g7, g8, g9, g1, g2, g3, g4, g5, g6⟩ := hs
   refine ⟨Bc, Bs, sv, (hg.block _ (ai g7) (fun e => ?_)).trans g7, g8, g9, g1, g2, g3, (hg.block Bc (ai g4) (fun e => ?_)).trans g4, (hg.block Bs (ai g5) (fun e => ?_)).trans g5, g6⟩
   ·
    obtain ⟨o, ho, hc⟩ := (hr _ e.symm).2
    exact sZ ho hc g7 rfl
   ·
    obtain ⟨o, ho, hc⟩ := (hr Bc e.symm).2
    exact sZ ho hc g4 rfl
   ·
    obtain ⟨o, ho, hc⟩ := (hr Bs e.symm).2
    exact sZ ho hc g5 rfl)
  ?assign ?body ?done ?stop
 case assign =>
  rintro l pre x W K ⟨hsz, sa, sn, sc, xs, h1, h2⟩ hK
  simp only [encR, Ei, Ej]
  gi_wp2_with (first | (refine qP rfl 46 (.tmp 12) (.tmp 25) rfl W.heap.size rfl #[.bool (X x.1 0).b, .slice (X x.1 0).a (X x.1 0).n (X x.1 0).c, .slice (X x.1 0).d (X x.1 0).m (X x.1 0).e, .bool (X x.1 1).b, .slice (X x.1 1).a (X x.1 1).n (X x.1 1).c, .slice (X x.1 1).d (X x.1 1).m (X x.1 1).e, .bool (X x.1 2).b, .slice (X x.1 2).a (X x.1 2).n (X x.1 2).c, .slice (X x.1 2).d (X x.1 2).m (X x.1 2).e, .bool (X x.1 3).b, .slice (X x.1 3).a (X x.1 3).n (X x.1 3).c, .slice (X x.1 3).d (X x.1 3).m (X x.1 3).e, .bool (X x.1 4).b, .slice (X x.1 4).a (X x.1 4).n (X x.1 4).c, .slice (X x.1 4).d (X x.1 4).m (X x.1 4).e, .bool (X x.1 5).b, .slice (X x.1 5).a (X x.1 5).n (X x.1 5).c, .slice (X x.1 5).d (X x.1 5).m (X x.1 5).e, .bool (X x.1 6).b, .slice (X x.1 6).a (X x.1 6).n (X x.1 6).c, .slice (X x.1 6).d (X x.1 6).m (X x.1 6).e] #[.bool false, .slice none 0 0, .slice none 0 0, .bool false, .slice none 0 0, .slice none 0 0, .bool false, .slice none 0 0, .slice none 0 0, .bool false, .slice none 0 0, .slice none 0 0, .bool false, .slice none 0 0, .slice none 0 0, .bool false, .slice none 0 0, .slice none 0 0, .bool false, .slice none 0 0, .slice none 0 0] _ rfl rfl (by simp) (by kernel_rfl) (by simp [Value.oneCell']) ?_) | (refine qP rfl 102 (.tmp 13) (.tmp 26) rfl (W.heap.size + 1) (by simp) #[.bool (mQ X xe x.1).b, .slice (mQ X xe x.1).a (mQ X xe x.1).n (mQ X xe x.1).c, .slice (mQ X xe x.1).d (mQ X xe x.1).m (mQ X xe x.1).e, .bool (gG X xa x.1 3).b, .slice (gG X xa x.1 3).a (gG X xa x.1 3).n (gG X xa x.1 3).c, .slice (gG X xa x.1 3).d (gG X xa x.1 3).m (gG X xa x.1 3).e, .bool (gG X xa x.1 4).b, .slice (gG X xa x.1 4).a (gG X xa x.1 4).n (gG X xa x.1 4).c, .slice (gG X xa x.1 4).d (gG X xa x.1 4).m (gG X xa x.1 4).e, .bool (mV ls.length X xe x.1).b, .slice (mV ls.length X xe x.1).a (mV ls.length X xe x.1).n (mV ls.length X xe x.1).c, .slice (mV ls.length X xe x.1).d (mV ls.length X xe x.1).m (mV ls.length X xe x.1).e, .bool (gI ls.length X xa x.1 3).b, .slice (gI ls.length X xa x.1 3).a (gI ls.length X xa x.1 3).n (gI ls.length X xa x.1 3).c, .slice (gI ls.length X xa x.1 3).d (gI ls.length X xa x.1 3).m (gI ls.length X xa x.1 3).e, .bool (gI ls.length X xa x.1 4).b, .slice (gI ls.length X xa x.1 4).a (gI ls.length X xa x.1 4).n (gI ls.length X xa x.1 4).c, .slice (gI ls.length X xa x.1 4).d (gI ls.length X xa x.1 4).m (gI ls.length X xa x.1 4).e] #[.bool false, .slice none 0 0, .slice none 0 0, .bool false, .slice none 0 0, .slice none 0 0, .bool false, .slice none 0 0, .slice none 0 0, .bool false, .slice none 0 0, .slice none 0 0, .bool false, .slice none 0 0, .slice none 0 0, .bool false, .slice none 0 0, .slice none 0 0] _ rfl rfl (by simp) (by kernel_rfl) (by simp [Value.oneCell']) ?_))
  have hbb := fun o1 o2 => ((Below.refl W.heap.size W).alloc (Nat.le_refl _) o1).alloc (by simp) o2
  refine hK _ _ (((KeepsOthers.alloc W _).trans (KeepsOthers.alloc _ _)).from _) (Rw.below (hbb _ _) h1.out.bel.size (fun q hq => Nat.lt_of_lt_of_le (IX q hq) hsz)) ⟨Nat.le_trans hsz (hbb _ _).size, sa, sn, sc, xs, ae (h1.out.below (hbb _ _)), ae (h2.out.below (hbb _ _))⟩ ⟨W.heap.size, W.heap.size + 1, .slice sa sn sc, ay (h1.out.at 3 _ _ _ rfl) (hbb _ _) (ai (h1.out.at 3 _ _ _ rfl)), fun e => ?_, fun e => ?_, hsz, by omega, by omega, ?_, ?_, rfl⟩
  · have := ((h2.out.row 0 _ rfl).lt (g := W.heap.size) e).1; omega
  · have := ((h2.out.row 0 _ rfl).lt (g := W.heap.size + 1) e).1; omega
  · exact ay (aV W _ _) ((Below.refl _ _).alloc (Nat.le_refl _) _) (ai (aV W _ _))
  ·
   have := aV (W.alloc (.cells #[.bool (X x.1 0).b, .slice (X x.1 0).a (X x.1 0).n (X x.1 0).c, .slice (X x.1 0).d (X x.1 0).m (X x.1 0).e, .bool (X x.1 1).b, .slice (X x.1 1).a (X x.1 1).n (X x.1 1).c, .slice (X x.1 1).d (X x.1 1).m (X x.1 1).e, .bool (X x.1 2).b, .slice (X x.1 2).a (X x.1 2).n (X x.1 2).c, .slice (X x.1 2).d (X x.1 2).m (X x.1 2).e, .bool (X x.1 3).b, .slice (X x.1 3).a (X x.1 3).n (X x.1 3).c, .slice (X x.1 3).d (X x.1 3).m (X x.1 3).e, .bool (X x.1 4).b, .slice (X x.1 4).a (X x.1 4).n (X x.1 4).c, .slice (X x.1 4).d (X x.1 4).m (X x.1 4).e, .bool (X x.1 5).b, .slice (X x.1 5).a (X x.1 5).n (X x.1 5).c, .slice (X x.1 5).d (X x.1 5).m (X x.1 5).e, .bool (X x.1 6).b, .slice (X x.1 6).a (X x.1 6).n (X x.1 6).c, .slice (X x.1 6).d (X x.1 6).m (X x.1 6).e] 46)) #[.bool (mQ X xe x.1).b, .slice (mQ X xe x.1).a (mQ X xe x.1).n (mQ X xe x.1).c, .slice (mQ X xe x.1).d (mQ X xe x.1).m (mQ X xe x.1).e, .bool (gG X xa x.1 3).b, .slice (gG X xa x.1 3).a (gG X xa x.1 3).n (gG X xa x.1 3).c, .slice (gG X xa x.1 3).d (gG X xa x.1 3).m (gG X xa x.1 3).e, .bool (gG X xa x.1 4).b, .slice (gG X xa x.1 4).a (gG X xa x.1 4).n (gG X xa x.1 4).c, .slice (gG X xa x.1 4).d (gG X xa x.1 4).m (gG X xa x.1 4).e, .bool (mV ls.length X xe x.1).b, .slice (mV ls.length X xe x.1).a (mV ls.length X xe x.1).n (mV ls.length X xe x.1).c, .slice (mV ls.length X xe x.1).d (mV ls.length X xe x.1).m (mV ls.length X xe x.1).e, .bool (gI ls.length X xa x.1 3).b, .slice (gI ls.length X xa x.1 3).a (gI ls.length X xa x.1 3).n (gI ls.length X xa x.1 3).c, .slice (gI ls.length X xa x.1 3).d (gI ls.length X xa x.1 3).m (gI ls.length X xa x.1 3).e, .bool (gI ls.length X xa x.1 4).b, .slice (gI ls.length X xa x.1 4).a (gI ls.length X xa x.1 4).n (gI ls.length X xa x.1 4).c, .slice (gI ls.length X xa x.1 4).d (gI ls.length X xa x.1 4).m (gI ls.length X xa x.1 4).e] 102
   rwa [World.size_alloc] at this
 case body =>
  rintro l pre x a' W hl hrec ⟨hsz, sa, sn, sc, xs, h1, h2⟩ ⟨Bc, Bs, sv, hsv, hs1, hs2, hBc, hBs, hcs, hC, hD, rfl⟩ hlt
  obtain ⟨i, hi⟩ := x
  have HII : Hid (i < ls.length) := hi
  dsimp only at hC hD ⊢
  obtain ⟨qs0, TY⟩ : ∃ q, Hid (q = pre.map fun i => qG ls es dX ed k i.1) := ⟨_, ae rfl⟩
  rw [← TY.out] at h2
  have hpl : qs0.length ≤ 15 := by
   rw [TY.out, List.length_map]
   have := akY.out
   omega
  have Rq : ∀ i, i < ls.length → ∀ j, j < 7 → aA W (X i j).val (aS ls i j) := fun i hi j hj => aA.below (HX.out i hi j hj).2.2.2 h1.out.bel
  have fa := aA.below (HF0.out.p 1 _ _ rfl) h1.out.bel
  have fe := aA.below (HF0.out.p 0 _ _ rfl) h1.out.bel
  have q0 := Rq i hi 0 (by omega)
  have q1 := Rq i hi 1 (by omega)
  have q2 := Rq i hi 2 (by omega)
  have q3 := Rq i hi 3 (by omega)
  have q4 := Rq i hi 4 (by omega)
  have q5 := Rq i hi 5 (by omega)
  have q6 := Rq i hi 6 (by omega)
  have qv := afy (ed := ed) hi Rq fe
  have qw := afz (ed := ed) hi Rq fe
  have ql := TJ hi Rq fa 3 (by omega)
  have qk := TJ hi Rq fa 4 (by omega)
  have qm := TK (i := i) Rq fa 3 (by omega)
  have qn := TK (i := i) Rq fa 4 (by omega)
  obtain ⟨hsc, hsd, hsr, hov, huu, hstp⟩ := ahn.out i hi
  have HCM : Hid (qG ls es dX ed k i = [aS ls i 0, aS ls i 1, aS ls i 2, gK (EJ (aS ls i 1) (aS ls i 2) (aS ls i 3) (aS ls i 4) ((fJ es (aS ls i 3)).1 * (1 - aS ls i 6)) ((fJ es (aS ls i 4)).2 * (1 - aS ls i 5)) (sV ls ed i) (sW ls ed i) (sL ls dX i 3) (sL ls dX i 4) (sM ls dX i 3) (sM ls dX i 4)) k, yu (EI (aS ls i 1) (aS ls i 2) (aS ls i 3) (aS ls i 4) ((fJ es (aS ls i 3)).1 * (1 - aS ls i 6)) ((fJ es (aS ls i 4)).2 * (1 - aS ls i 5)) (sV ls ed i) (sW ls ed i) (sL ls dX i 3) (sL ls dX i 4) (sM ls dX i 3) (sM ls dX i 4)) k, gK (aS ls i 5 + (fJ es (aS ls i 3)).1 * (1 - aS ls i 5)) k, yu (aS ls i 6 + (fJ es (aS ls i 4)).2 * (1 - aS ls i 6)) k]) := rfl
  clear Rq
  generalize X i 0 = y0 at *
  generalize X i 1 = y1 at *
  generalize X i 2 = y2 at *
  generalize X i 3 = y3 at *
  generalize X i 4 = y4 at *
  generalize X i 5 = y5 at *
  generalize X i 6 = y6 at *
  generalize mQ X xe i = yv at *
  generalize gG X xa i 3 = yl at *
  generalize gG X xa i 4 = yk at *
  generalize mV ls.length X xe i = yw at *
  generalize gI ls.length X xa i 3 = ym at *
  generalize gI ls.length X xa i 4 = yn at *
  generalize (fJ es (aS ls i 3)).1 = r0 at *
  generalize (fJ es (aS ls i 4)).2 = r1 at *
  generalize aS ls i 0 = p at *
  generalize aS ls i 1 = pa at *
  generalize aS ls i 2 = pb at *
  generalize aS ls i 3 = t0 at *
  generalize aS ls i 4 = t1 at *
  generalize aS ls i 5 = c0 at *
  generalize aS ls i 6 = c1 at *
  generalize sV ls ed i = vv at *
  generalize sL ls dX i 3 = l0 at *
  generalize sL ls dX i 4 = l1 at *
  generalize sW ls ed i = uu at *
  generalize sM ls dX i 3 = m0 at *
  generalize sM ls dX i 4 = m1 at *
  obtain ⟨zp, zpa, zpb, zt0, zt1, zc0, zc1⟩ := hsc
  obtain ⟨zvv, zl0, zl1, zuu, zm0, zm1⟩ := hsd
  obtain ⟨zr0, zr1⟩ := hsr
  have Sp := ae zp
  have Spa := ae zpa
  have Spb := ae zpb
  have St0 := ae zt0
  have St1 := ae zt1
  have Sc0 := ae zc0
  have Sc1 := ae zc1
  have Svv := ae zvv
  have Sl0 := ae zl0
  have Sl1 := ae zl1
  have Suu := ae zuu
  have Sm0 := ae zm0
  have Sm1 := ae zm1
  have Sr0 := ae zr0
  have Sr1 := ae zr1
  clear zp zpa zpb zt0 zt1 zc0 zc1 zvv zl0 zl1 zuu zm0 zm1 zr0 zr1
  have ak3 : Hid (bQ (1 - c0) 2000) := aj (oP (jb 1 (by omega)) Sc0.out) (by omega)
  have ak4 : Hid (bQ (1 - c1) 2000) := aj (oP (jb 1 (by omega)) Sc1.out) (by omega)
  have SU0 : Hid (bQ (r0 * (1 - c1)) 13000) := aj (gZ Sr0.out ak4.out) (by omega)
  have SU1 : Hid (bQ (r1 * (1 - c0)) 13000) := aj (gZ Sr1.out ak3.out) (by omega)
  have HOV := ae hov
  have HUU := ae huu
  have aoR := ae hstp
  have H1 := h1
  have HG := h2
  have KU := ae hsz
  have nI := ae (aez 101 W)
  have HS := ae ((h1.out.ku hC (Nat.le_trans HWS hBc) (by rfl) (fun q hq => by have := HAD.out q.1 (by have h := List.mem_map_of_mem (f := fun q : Bx => q.1) hq; exact h); omega)).ku hD (Nat.le_trans HWS hBs) (by rfl) (fun q hq => by
   rcases List.mem_cons.1 hq with rfl | hq
   · exact hcs
   · have := HAD.out q.1 (by have h := List.mem_map_of_mem (f := fun q : Bx => q.1) hq; exact h); omega))
  clear h1 hsz hlt hrec hl
  replace HS := ae (((((((((((((HS.out.bare.az q0).az q1).az q2).az q3).az q4).az q5).az q6).az qv).az ql).az qk).az qw).az qm).az qn)
  clear q0 q1 q2 q3 q4 q5 q6 qv ql qk qw qm qn fa fe
  have hso := (H1.out.at 3 _ _ _ rfl).symm.trans hsv
  simp only [Option.some.injEq, Obj.cells.injEq, Array.mk.injEq, List.cons.injEq, and_true] at hso
  rw [← hso] at hs1 hs2
  clear hso hsv
  replace HG := ae ((HG.out.box (B := Bc) (T := 46) (cs := #[.bool y0.b, .slice y0.a y0.n y0.c, .slice y0.d y0.m y0.e, .bool y1.b, .slice y1.a y1.n y1.c, .slice y1.d y1.m y1.e, .bool y2.b, .slice y2.a y2.n y2.c, .slice y2.d y2.m y2.e, .bool y3.b, .slice y3.a y3.n y3.c, .slice y3.d y3.m y3.e, .bool y4.b, .slice y4.a y4.n y4.c, .slice y4.d y4.m y4.e, .bool y5.b, .slice y5.a y5.n y5.c, .slice y5.d y5.m y5.e, .bool y6.b, .slice y6.a y6.n y6.c, .slice y6.d y6.m y6.e]) (fun g hg hc => by simp only [List.mem_singleton] at hg; subst hg; exact hs1 hc)).box (B := Bs) (T := 102) (cs := #[.bool yv.b, .slice yv.a yv.n yv.c, .slice yv.d yv.m yv.e, .bool yl.b, .slice yl.a yl.n yl.c, .slice yl.d yl.m yl.e, .bool yk.b, .slice yk.a yk.n yk.c, .slice yk.d yk.m yk.e, .bool yw.b, .slice yw.a yw.n yw.c, .slice yw.d yw.m yw.e, .bool ym.b, .slice ym.a ym.n ym.c, .slice ym.d ym.m ym.e, .bool yn.b, .slice yn.a yn.n yn.c, .slice yn.d yn.m yn.e]) (fun g hg hc => by simp only [List.mem_singleton] at hg; subst hg; exact hs2 hc))
  clear h2 hC hD hcs hs1 hs2
  have bg := (HS.out.at 9 _ _ _ rfl)
  have iy := af bg 0 (.slice Ib es.length ct) rfl
  have jI := ah bg 0
  have rG := ai bg
  clear bg
  have eQ := (HS.out.at 1 _ _ _ rfl)
  have OQ := af eQ 0 (.bool y0.b) rfl
  have OT := af eQ 1 (.slice y0.a y0.n y0.c) rfl
  have OU := af eQ 2 (.slice y0.d y0.m y0.e) rfl
  have OV := af eQ 3 (.bool y1.b) rfl
  have OW := af eQ 4 (.slice y1.a y1.n y1.c) rfl
  have OX := af eQ 5 (.slice y1.d y1.m y1.e) rfl
  have OY := af eQ 6 (.bool y2.b) rfl
  have OZ := af eQ 7 (.slice y2.a y2.n y2.c) rfl
  have O0 := af eQ 8 (.slice y2.d y2.m y2.e) rfl
  have O1 := af eQ 9 (.bool y3.b) rfl
  have DR := af eQ 10 (.slice y3.a y3.n y3.c) rfl
  have DT := af eQ 11 (.slice y3.d y3.m y3.e) rfl
  have DU := af eQ 12 (.bool y4.b) rfl
  have DV := af eQ 13 (.slice y4.a y4.n y4.c) rfl
  have DW := af eQ 14 (.slice y4.d y4.m y4.e) rfl
  have DX := af eQ 15 (.bool y5.b) rfl
  have DY := af eQ 16 (.slice y5.a y5.n y5.c) rfl
  have DZ := af eQ 17 (.slice y5.d y5.m y5.e) rfl
  have D7 := af eQ 18 (.bool y6.b) rfl
  have D8 := af eQ 19 (.slice y6.a y6.n y6.c) rfl
  have D9 := af eQ 20 (.slice y6.d y6.m y6.e) rfl
  have b8l := ai eQ
  clear eQ
  have alS := HS.out.ne 9 1 rfl rfl (by decide)
  gi_wp2_with fail
  clear iy jI rG OQ OT OU OV OW OX OY OZ O0 O1 DR DT DU DV DW DX DY DZ D7 D8 D9 b8l alS
  refine ⟨trivial, ?_⟩
  refine (YG (HOV.out _ _ _ (HT.out.bP HS.out.bel) (gB (HS.out.p 9 _ _ rfl) (HS.out.p 8 _ _ rfl)))).mono ?_
  rintro e w3 ⟨v3, rfl, ⟨Ox, Oy, rfl, hv3, hw3⟩, hb3⟩
  replace HS := ae (HS.out.below hb3)
  replace HG := ae (HG.out.below hb3)
  replace nI := ae (jy nI.out hb3)
  clear hb3
  replace HS := ae (HS.out.az hv3)
  clear hv3
  replace HS := ae (HS.out.az hw3)
  clear hw3
  gi_wp2_with fail
  generalize hW4 : (w3).alloc (.cells _ _) = W4 at *
  replace nI := ae (wX (FV nI.out _) hW4)
  replace HG := ae (((HG.out).alloc (B := w3.heap.size) rfl).to hW4 (by (try simp only [ig, ik]); rfl))
  replace HS := ae (((HS.out).alloc (B := w3.heap.size) rfl (by rfl)).to hW4 (by (try simp only [ig, ik]); rfl))
  clear hW4
  refine gm (S := (fun w' => Sx w w' [(w3.heap.size, aY Ox Oy, 43), (Bs, #[.bool yv.b, .slice yv.a yv.n yv.c, .slice yv.d yv.m yv.e, .bool yl.b, .slice yl.a yl.n yl.c, .slice yl.d yl.m yl.e, .bool yk.b, .slice yk.a yk.n yk.c, .slice yk.d yk.m yk.e, .bool yw.b, .slice yw.a yw.n yw.c, .slice yw.d yw.m yw.e, .bool ym.b, .slice ym.a ym.n ym.c, .slice ym.d ym.m ym.e, .bool yn.b, .slice yn.a yn.n yn.c, .slice yn.d yn.m yn.e], 102), (Bc, #[.bool y0.b, .slice y0.a y0.n y0.c, .slice y0.d y0.m y0.e, .bool y1.b, .slice y1.a y1.n y1.c, .slice y1.d y1.m y1.e, .bool y2.b, .slice y2.a y2.n y2.c, .slice y2.d y2.m y2.e, .bool y3.b, .slice y3.a y3.n y3.c, .slice y3.d y3.m y3.e, .bool y4.b, .slice y4.a y4.n y4.c, .slice y4.d y4.m y4.e, .bool y5.b, .slice y5.a y5.n y5.c, .slice y5.d y5.m y5.e, .bool y6.b, .slice y6.a y6.n y6.c, .slice y6.d y6.m y6.e], 46), (Bl, #[.slice (some ⟨bk, off, none⟩) ls.length cap], 31), (Ba, xa.arr, 40), (Be, xe.arr, 40), (w.heap.size + 4, #[.slice sa sn sc], 31), (w.heap.size + 3, #[.int .i64 z], 3), (w.heap.size + 2, xe.arr, 40), (w.heap.size + 1, xa.arr, 40), (w.heap.size, #[.slice Ib es.length ct], 26)] [])) (by kernel_rfl) (by kernel_rfl) (by exact fun _ _ h => h) ((HS.out.drew).bare) (fun hh => ?_)
  replace HS := ae HS.out.drew
  replace HG := ae (HG.out.below (Below.refl _ _).drew)
  replace nI := ae (jy nI.out (Below.refl _ _).drew)
  have BM := ae HS.out.bel.size
  refine dF (i := 0) (v := ?vk6) rfl ?hk6 ?rk6
  case hk6 => intro u aH; (try dsimp only at aH); obtain ⟨aaw, aax, aay, aaz, aaA, aaB, _⟩ := dO (x := Ox) (y := Oy) (aH.at 0 _ _ _ rfl); clear aH; go_simp <;> with_reducible rfl
  try simp only [ag]
  refine dF (i := 2) (v := ?vk7) rfl ?hk7 ?rk7
  case hk7 => intro u aH; go_simp <;> with_reducible rfl
  try simp only [ag]
  refine dF (i := 3) (v := ?vk8) rfl ?hk8 ?rk8
  case hk8 => intro u aH; go_simp <;> with_reducible rfl
  try simp only [ag]
  refine dF (i := 4) (v := ?vk9) rfl ?hk9 ?rk9
  case hk9 => intro u aH; (try dsimp only at aH); have dh := (aH.at 2 _ _ _ rfl); have aaG := af dh 0 (.bool y0.b) rfl; have aaH := af dh 1 (.slice y0.a y0.n y0.c) rfl; have aaI := af dh 2 (.slice y0.d y0.m y0.e) rfl; have aaJ := af dh 3 (.bool y1.b) rfl; have aaK := af dh 4 (.slice y1.a y1.n y1.c) rfl; have aaL := af dh 5 (.slice y1.d y1.m y1.e) rfl; have aaM := af dh 6 (.bool y2.b) rfl; have aaN := af dh 7 (.slice y2.a y2.n y2.c) rfl; have aaO := af dh 8 (.slice y2.d y2.m y2.e) rfl; have aaP := af dh 9 (.bool y3.b) rfl; have QE := af dh 10 (.slice y3.a y3.n y3.c) rfl; have QF := af dh 11 (.slice y3.d y3.m y3.e) rfl; have QG := af dh 12 (.bool y4.b) rfl; have QH := af dh 13 (.slice y4.a y4.n y4.c) rfl; have QI := af dh 14 (.slice y4.d y4.m y4.e) rfl; have QJ := af dh 15 (.bool y5.b) rfl; have QK := af dh 16 (.slice y5.a y5.n y5.c) rfl; have QL := af dh 17 (.slice y5.d y5.m y5.e) rfl; have QM := af dh 18 (.bool y6.b) rfl; have QN := af dh 19 (.slice y6.a y6.n y6.c) rfl; have QO := af dh 20 (.slice y6.d y6.m y6.e) rfl; clear dh; clear aH; go_simp <;> with_reducible rfl
  try simp only [ag]
  refine dF (i := 8) (v := ?aol) rfl ?hk10 ?an6
  case hk10 => intro u aH; (try dsimp only at aH); obtain ⟨aaw, aax, aay, aaz, aaA, aaB, _⟩ := dO (x := Ox) (y := Oy) (aH.at 0 _ _ _ rfl); clear aH; go_simp <;> with_reducible rfl
  try simp only [ag]
  refine dF (i := 10) (v := ?arY) rfl ?aiW ?arl
  case aiW => intro u aH; go_simp <;> with_reducible rfl
  try simp only [ag]
  refine dF (i := 11) (v := ?aon) rfl ?hk12 ?an8
  case hk12 => intro u aH; go_simp <;> with_reducible rfl
  try simp only [ag]
  refine dF (i := 12) (v := ?afI) rfl ?Jz ?afx
  case Jz => intro u aH; (try dsimp only at aH); have dh := (aH.at 2 _ _ _ rfl); have aaG := af dh 0 (.bool y0.b) rfl; have aaH := af dh 1 (.slice y0.a y0.n y0.c) rfl; have aaI := af dh 2 (.slice y0.d y0.m y0.e) rfl; have aaJ := af dh 3 (.bool y1.b) rfl; have aaK := af dh 4 (.slice y1.a y1.n y1.c) rfl; have aaL := af dh 5 (.slice y1.d y1.m y1.e) rfl; have aaM := af dh 6 (.bool y2.b) rfl; have aaN := af dh 7 (.slice y2.a y2.n y2.c) rfl; have aaO := af dh 8 (.slice y2.d y2.m y2.e) rfl; have aaP := af dh 9 (.bool y3.b) rfl; have QE := af dh 10 (.slice y3.a y3.n y3.c) rfl; have QF := af dh 11 (.slice y3.d y3.m y3.e) rfl; have QG := af dh 12 (.bool y4.b) rfl; have QH := af dh 13 (.slice y4.a y4.n y4.c) rfl; have QI := af dh 14 (.slice y4.d y4.m y4.e) rfl; have QJ := af dh 15 (.bool y5.b) rfl; have QK := af dh 16 (.slice y5.a y5.n y5.c) rfl; have QL := af dh 17 (.slice y5.d y5.m y5.e) rfl; have QM := af dh 18 (.bool y6.b) rfl; have QN := af dh 19 (.slice y6.a y6.n y6.c) rfl; have QO := af dh 20 (.slice y6.d y6.m y6.e) rfl; clear dh; clear aH; go_simp <;> with_reducible rfl
  try simp only [ag]
  refine dY [1, 5, 6, 7, 9, 13, 14, 15, 16, 17] [1, 5, 6, 7, 9, 13, 14, 15, 16, 17] [] [32, 36, 37, 38, 40, 44, 45, 46, 47, 16] #[true, true, true, true, true, true, true, true, true, true, true, true, true, true, true, true, true, true, false] 1 [(1, 32), (5, 36), (6, 37), (7, 38), (9, 40), (13, 44), (14, 45), (15, 46), (16, 47), (17, 16)] [(1, []), (5, [1]), (6, [5]), (7, [1, 6]), (9, [7]), (13, [9]), (14, [13]), (15, [9, 14]), (16, [7, 15]), (17, [])] [17] [(1, fun v w => ∃ Ri : R3, v = Ri.val ∧ Fr true w Ri.val r0), (5, fun v w => ∃ zn : R3, v = zn.val ∧ Fr true w zn.val c1), (6, fun v w => ∃ yG : R3, v = yG.val ∧ Fr true w yG.val (1 - c1)), (7, fun v w => ∃ z17 : R3, v = z17.val ∧ Fr true w z17.val (r0 * (1 - c1))), (9, fun v w => ∃ Rj : R3, v = Rj.val ∧ Fr true w Rj.val r1), (13, fun v w => ∃ zo : R3, v = zo.val ∧ Fr true w zo.val c0), (14, fun v w => ∃ z20 : R3, v = z20.val ∧ Fr true w z20.val (1 - c0)), (15, fun v w => ∃ z21 : R3, v = z21.val ∧ Fr true w z21.val (r1 * (1 - c0))), (16, fun v w => ∃ jm jo : R3, v = .agg #[.bool jm.b, .slice jm.a jm.n jm.c, .slice jm.d jm.m jm.e, .bool jo.b, .slice jo.a jo.n jo.c, .slice jo.d jo.m jo.e] ∧ Fr true w jm.val (r0 * (1 - c1)) ∧ Fr true w jo.val (r1 * (1 - c0))), (17, fun v w => ∃ jB : Nat, v = .pointer (some ⟨jB, 0, none⟩) ∧ W4.drew.heap.size ≤ jB ∧ w.heap[jB]? = some (.cells #[.bool false, .slice none 0 0, .slice none 0 0, .bool false, .slice none 0 0, .slice none 0 0] 43 (0, 0)))]
   rfl (by kernel_rfl) (by decide) rfl ⟨(fun v w w' hb ⟨z0, e, h0⟩ => ⟨z0, e, Fr.below h0 hb⟩), ⟨(fun v w w' hb ⟨z0, e, h0⟩ => ⟨z0, e, Fr.below h0 hb⟩), ⟨(fun v w w' hb ⟨z0, e, h0⟩ => ⟨z0, e, Fr.below h0 hb⟩), ⟨(fun v w w' hb ⟨z0, e, h0⟩ => ⟨z0, e, Fr.below h0 hb⟩), ⟨(fun v w w' hb ⟨z0, e, h0⟩ => ⟨z0, e, Fr.below h0 hb⟩), ⟨(fun v w w' hb ⟨z0, e, h0⟩ => ⟨z0, e, Fr.below h0 hb⟩), ⟨(fun v w w' hb ⟨z0, e, h0⟩ => ⟨z0, e, Fr.below h0 hb⟩), ⟨(fun v w w' hb ⟨z0, e, h0⟩ => ⟨z0, e, Fr.below h0 hb⟩), ⟨(fun v w w' hb ⟨z0, z1, e, h0, h1⟩ => ⟨z0, z1, e, Fr.below h0 hb, Fr.below h1 hb⟩), ⟨(fun v w w' hb ⟨B, e, g, k⟩ => ⟨B, e, g, ay k hb (ai k)⟩), trivial⟩⟩⟩⟩⟩⟩⟩⟩⟩⟩ ⟨fun v w ⟨B, e, g, k⟩ => ⟨B, e, ai k⟩, trivial⟩ (fun w' hb => Sx.below hh hb) ⟨?_, ?_, ?_, ?_, ?_, ?_, ?_, ?_, ?_, ?_, trivial⟩ trivial (by decide) ?_
  ·
   refine dI.of rfl (fun f w' hb hp K hK => ?_)
   simp only [aQ, aT, List.foldl_cons, List.foldl_nil, ag]
   have pJ := HS
   replace HS := ae (HS.out.below hb)
   have a23 := HS.out.p 1 _ _ rfl
   have a24 := HS.out.p 0 _ _ rfl
   go_simp
   go_wp2_with (go_at_call 47; (with_reducible refine (ny r0 r1 _ _ (gB a23 a24)).mono ?_); rintro e w14 ⟨v14, rfl, ZR, Zj⟩; obtain ⟨Ri, rfl⟩ := ZR.bn)
   exact hK.out _ _ (Ri.val) (by simp only [aQ, aT, List.foldl_cons, List.foldl_nil, ag]) ⟨Ri, rfl, ZR⟩ (fun h => absurd h (by decide)) Zj
  ·
   refine dI.of rfl (fun f w' hb hp K hK => ?_)
   simp only [aQ, aT, List.foldl_cons, List.foldl_nil, ag]
   have pJ := HS
   replace HS := ae (HS.out.below hb)
   have a25 := HS.out.p 9 _ _ rfl
   have a26 := HS.out.p 8 _ _ rfl
   go_simp
   go_wp2_with (go_at_call 48; (with_reducible refine (oL c0 c1 _ _ (gB a25 a26)).mono ?_); rintro e w15 ⟨v15, rfl, ZT, aiC⟩; obtain ⟨zn, rfl⟩ := ZT.bn)
   exact hK.out _ _ (zn.val) (by simp only [aQ, aT, List.foldl_cons, List.foldl_nil, ag]) ⟨zn, rfl, ZT⟩ (fun h => absurd h (by decide)) aiC
  ·
   refine dI.of rfl (fun f w' hb hp K hK => ?_)
   simp only [aQ, aT, List.foldl_cons, List.foldl_nil, ag]
   obtain ⟨zn, e5, EC⟩ : ∃ zn : R3, f 36 = zn.val ∧ Fr true w' zn.val c1 := hp 5 (by decide)
   have pJ := HS
   replace HS := ae (HS.out.below hb)
   replace HS := ae (HS.out.az EC)
   simp only [e5]
   have a27 := HS.out.p 0 _ _ rfl
   go_simp
   go_wp2_with (go_at_call 43; (with_reducible refine (Ip c1 _ _ a27 (aj Sc1.out (by omega))).mono ?_); rintro e w16 ⟨v16, rfl, JB, hb16⟩; obtain ⟨yG, rfl⟩ := JB.bn)
   exact hK.out _ _ (yG.val) (by simp only [aQ, aT, List.foldl_cons, List.foldl_nil, ag, e5]) ⟨yG, rfl, JB⟩ (fun h => absurd h (by decide)) hb16
  ·
   refine dI.of rfl (fun f w' hb hp K hK => ?_)
   simp only [aQ, aT, List.foldl_cons, List.foldl_nil, ag]
   obtain ⟨Ri, e1, Ew⟩ : ∃ Ri : R3, f 32 = Ri.val ∧ Fr true w' Ri.val r0 := hp 1 (by decide)
   obtain ⟨yG, e6, wK⟩ : ∃ yG : R3, f 37 = yG.val ∧ Fr true w' yG.val (1 - c1) := hp 6 (by decide)
   have pJ := HS
   replace HS := ae (HS.out.below hb)
   replace HS := ae (HS.out.az Ew)
   replace HS := ae (HS.out.az wK)
   simp only [e1, e6]
   have a28 := HS.out.p 1 _ _ rfl
   have a29 := HS.out.p 0 _ _ rfl
   go_simp
   go_wp2_with (go_at_call 34; (with_reducible refine (kQ r0 (1 - c1) _ _ _ a28 a29 (aj Sr0.out (by omega)) (aj ak4.out (by omega))).mono ?_); rintro e w17 ⟨v17, rfl, am3, aiD⟩; obtain ⟨z17, rfl⟩ := am3.bn)
   exact hK.out _ _ (z17.val) (by simp only [aQ, aT, List.foldl_cons, List.foldl_nil, ag, e1, e6]) ⟨z17, rfl, am3⟩ (fun h => absurd h (by decide)) aiD
  ·
   refine dI.of rfl (fun f w' hb hp K hK => ?_)
   simp only [aQ, aT, List.foldl_cons, List.foldl_nil, ag]
   have pJ := HS
   replace HS := ae (HS.out.below hb)
   have a30 := HS.out.p 1 _ _ rfl
   have a31 := HS.out.p 0 _ _ rfl
   go_simp
   go_wp2_with (go_at_call 48; (with_reducible refine (oL r0 r1 _ _ (gB a30 a31)).mono ?_); rintro e w18 ⟨v18, rfl, am7, apG⟩; obtain ⟨Rj, rfl⟩ := am7.bn)
   exact hK.out _ _ (Rj.val) (by simp only [aQ, aT, List.foldl_cons, List.foldl_nil, ag]) ⟨Rj, rfl, am7⟩ (fun h => absurd h (by decide)) apG
  ·
   refine dI.of rfl (fun f w' hb hp K hK => ?_)
   simp only [aQ, aT, List.foldl_cons, List.foldl_nil, ag]
   have pJ := HS
   replace HS := ae (HS.out.below hb)
   have a32 := HS.out.p 9 _ _ rfl
   have a33 := HS.out.p 8 _ _ rfl
   go_simp
   go_wp2_with (go_at_call 47; (with_reducible refine (ny c0 c1 _ _ (gB a32 a33)).mono ?_); rintro e w19 ⟨v19, rfl, GI, Ju⟩; obtain ⟨zo, rfl⟩ := GI.bn)
   exact hK.out _ _ (zo.val) (by simp only [aQ, aT, List.foldl_cons, List.foldl_nil, ag]) ⟨zo, rfl, GI⟩ (fun h => absurd h (by decide)) Ju
  ·
   refine dI.of rfl (fun f w' hb hp K hK => ?_)
   simp only [aQ, aT, List.foldl_cons, List.foldl_nil, ag]
   obtain ⟨zo, e13, sK⟩ : ∃ zo : R3, f 44 = zo.val ∧ Fr true w' zo.val c0 := hp 13 (by decide)
   have pJ := HS
   replace HS := ae (HS.out.below hb)
   replace HS := ae (HS.out.az sK)
   simp only [e13]
   have a34 := HS.out.p 0 _ _ rfl
   go_simp
   go_wp2_with (go_at_call 43; (with_reducible refine (Ip c0 _ _ a34 (aj Sc0.out (by omega))).mono ?_); rintro e w20 ⟨v20, rfl, am8, apH⟩; obtain ⟨z20, rfl⟩ := am8.bn)
   exact hK.out _ _ (z20.val) (by simp only [aQ, aT, List.foldl_cons, List.foldl_nil, ag, e13]) ⟨z20, rfl, am8⟩ (fun h => absurd h (by decide)) apH
  ·
   refine dI.of rfl (fun f w' hb hp K hK => ?_)
   simp only [aQ, aT, List.foldl_cons, List.foldl_nil, ag]
   obtain ⟨Rj, e9, Ar⟩ : ∃ Rj : R3, f 40 = Rj.val ∧ Fr true w' Rj.val r1 := hp 9 (by decide)
   obtain ⟨z20, e14, wH⟩ : ∃ z20 : R3, f 45 = z20.val ∧ Fr true w' z20.val (1 - c0) := hp 14 (by decide)
   have pJ := HS
   replace HS := ae (HS.out.below hb)
   replace HS := ae (HS.out.az Ar)
   replace HS := ae (HS.out.az wH)
   simp only [e9, e14]
   have a35 := HS.out.p 1 _ _ rfl
   have a36 := HS.out.p 0 _ _ rfl
   go_simp
   go_wp2_with (go_at_call 34; (with_reducible refine (kQ r1 (1 - c0) _ _ _ a35 a36 (aj Sr1.out (by omega)) (aj ak3.out (by omega))).mono ?_); rintro e w21 ⟨v21, rfl, ZU, aiE⟩; obtain ⟨z21, rfl⟩ := ZU.bn)
   exact hK.out _ _ (z21.val) (by simp only [aQ, aT, List.foldl_cons, List.foldl_nil, ag, e9, e14]) ⟨z21, rfl, ZU⟩ (fun h => absurd h (by decide)) aiE
  ·
   refine dI.of rfl (fun f w' hb hp K hK => ?_)
   simp only [aQ, aT, List.foldl_cons, List.foldl_nil, ag]
   obtain ⟨z17, e7, Y8⟩ : ∃ z17 : R3, f 38 = z17.val ∧ Fr true w' z17.val (r0 * (1 - c1)) := hp 7 (by decide)
   obtain ⟨z21, e15, uO⟩ : ∃ z21 : R3, f 46 = z21.val ∧ Fr true w' z21.val (r1 * (1 - c0)) := hp 15 (by decide)
   have pJ := HS
   replace HS := ae (HS.out.below hb)
   replace HS := ae (HS.out.az Y8)
   replace HS := ae (HS.out.az uO)
   simp only [e7, e15]
   have a37 := HS.out.p 1 _ _ rfl
   have a38 := HS.out.p 0 _ _ rfl
   go_simp
   go_wp2_with (go_at_call 46; (with_reducible refine (Gp (r0 * (1 - c1)) (r1 * (1 - c0)) _ _ _ a37 a38 (aj SU0.out (by omega)) (aj SU1.out (by omega)) HUU.out).mono ?_); rintro e w22 ⟨v22, rfl, ⟨jm, jo, rfl, EL, aeu⟩, EH⟩)
   exact hK.out _ _ (.agg #[.bool jm.b, .slice jm.a jm.n jm.c, .slice jm.d jm.m jm.e, .bool jo.b, .slice jo.a jo.n jo.c, .slice jo.d jo.m jo.e]) (by simp only [aQ, aT, List.foldl_cons, List.foldl_nil, ag, e7, e15]) ⟨jm, jo, rfl, EL, aeu⟩ (fun h => absurd h (by decide)) EH
  ·
   refine dI.of rfl (fun f w' hb hp K hK => ?_)
   simp only [aQ, aT, List.foldl_cons, List.foldl_nil, ag]
   have pJ := HS
   replace HS := ae (HS.out.below hb)
   go_simp
   exact hK.out _ _ (.pointer (some ⟨w'.heap.size, 0, none⟩)) (by simp only [aQ, aT, List.foldl_cons, List.foldl_nil, ag]) ⟨_, rfl, hb.size, aV _ _ _⟩ (fun _ => rfl) (gJ w' _)
  ·
   intro f WX hb hp hd
   obtain ⟨Ri, e1, Ew⟩ : ∃ Ri : R3, f 32 = Ri.val ∧ Fr true WX Ri.val r0 := hp 1 (by decide)
   obtain ⟨zn, e5, EC⟩ : ∃ zn : R3, f 36 = zn.val ∧ Fr true WX zn.val c1 := hp 5 (by decide)
   obtain ⟨yG, e6, wK⟩ : ∃ yG : R3, f 37 = yG.val ∧ Fr true WX yG.val (1 - c1) := hp 6 (by decide)
   obtain ⟨z17, e7, Y8⟩ : ∃ z17 : R3, f 38 = z17.val ∧ Fr true WX z17.val (r0 * (1 - c1)) := hp 7 (by decide)
   obtain ⟨Rj, e9, Ar⟩ : ∃ Rj : R3, f 40 = Rj.val ∧ Fr true WX Rj.val r1 := hp 9 (by decide)
   obtain ⟨zo, e13, sK⟩ : ∃ zo : R3, f 44 = zo.val ∧ Fr true WX zo.val c0 := hp 13 (by decide)
   obtain ⟨z20, e14, wH⟩ : ∃ z20 : R3, f 45 = z20.val ∧ Fr true WX z20.val (1 - c0) := hp 14 (by decide)
   obtain ⟨z21, e15, uO⟩ : ∃ z21 : R3, f 46 = z21.val ∧ Fr true WX z21.val (r1 * (1 - c0)) := hp 15 (by decide)
   obtain ⟨jm, jo, e16, Y5, Y6⟩ : ∃ jm jo : R3, f 47 = .agg #[.bool jm.b, .slice jm.a jm.n jm.c, .slice jm.d jm.m jm.e, .bool jo.b, .slice jo.a jo.n jo.c, .slice jo.d jo.m jo.e] ∧ Fr true WX jm.val (r0 * (1 - c1)) ∧ Fr true WX jo.val (r1 * (1 - c0)) := hp 16 (by decide)
   obtain ⟨jB, e17, g17, k17⟩ : ∃ jB : Nat, f 16 = .pointer (some ⟨jB, 0, none⟩) ∧ W4.drew.heap.size ≤ jB ∧ WX.heap[jB]? = some (.cells #[.bool false, .slice none 0 0, .slice none 0 0, .bool false, .slice none 0 0, .slice none 0 0] 43 (0, 0)) := hp 17 (by decide)
   replace hh := Sx.below hh hb
   have hlt := HS.out.lt
   replace HS := ae (HS.out.below hb)
   replace nI := ae (jy nI.out hb)
   have nJ := HG.out.row
   replace HG := ae (HG.out.below hb)
   replace HS := ae (HS.out.az Ew)
   replace HS := ae (HS.out.az EC)
   replace HS := ae (HS.out.az wK)
   replace HS := ae (HS.out.az Y8)
   replace HS := ae (HS.out.az Ar)
   replace HS := ae (HS.out.az sK)
   replace HS := ae (HS.out.az wH)
   replace HS := ae (HS.out.az uO)
   replace HS := ae (HS.out.az Y5)
   replace HS := ae (HS.out.az Y6)
   have MO : w.heap.size ≤ jB := Nat.le_trans BM.out g17
   have MQ : ∀ b, b ∈ ([(w3.heap.size, aY Ox Oy, 43), (Bs, #[.bool yv.b, .slice yv.a yv.n yv.c, .slice yv.d yv.m yv.e, .bool yl.b, .slice yl.a yl.n yl.c, .slice yl.d yl.m yl.e, .bool yk.b, .slice yk.a yk.n yk.c, .slice yk.d yk.m yk.e, .bool yw.b, .slice yw.a yw.n yw.c, .slice yw.d yw.m yw.e, .bool ym.b, .slice ym.a ym.n ym.c, .slice ym.d ym.m ym.e, .bool yn.b, .slice yn.a yn.n yn.c, .slice yn.d yn.m yn.e], 102), (Bc, #[.bool y0.b, .slice y0.a y0.n y0.c, .slice y0.d y0.m y0.e, .bool y1.b, .slice y1.a y1.n y1.c, .slice y1.d y1.m y1.e, .bool y2.b, .slice y2.a y2.n y2.c, .slice y2.d y2.m y2.e, .bool y3.b, .slice y3.a y3.n y3.c, .slice y3.d y3.m y3.e, .bool y4.b, .slice y4.a y4.n y4.c, .slice y4.d y4.m y4.e, .bool y5.b, .slice y5.a y5.n y5.c, .slice y5.d y5.m y5.e, .bool y6.b, .slice y6.a y6.n y6.c, .slice y6.d y6.m y6.e], 46), (Bl, #[.slice (some ⟨bk, off, none⟩) ls.length cap], 31), (Ba, xa.arr, 40), (Be, xe.arr, 40), (w.heap.size + 4, #[.slice sa sn sc], 31), (w.heap.size + 3, #[.int .i64 z], 3), (w.heap.size + 2, xe.arr, 40), (w.heap.size + 1, xa.arr, 40), (w.heap.size, #[.slice Ib es.length ct], 26)] : List Bx) → b.1 ≠ jB := by
    intro b hb
    simp only [List.mem_cons, List.not_mem_nil, or_false] at hb
    rcases hb with rfl | rfl | rfl | rfl | rfl | rfl | rfl | rfl | rfl | rfl | rfl
    · have := hlt _ (List.mem_iff_getElem?.2 ⟨0, rfl⟩); dsimp only at this ⊢; omega
    · have := hlt _ (List.mem_iff_getElem?.2 ⟨1, rfl⟩); dsimp only at this ⊢; omega
    · have := hlt _ (List.mem_iff_getElem?.2 ⟨2, rfl⟩); dsimp only at this ⊢; omega
    · have := hlt _ (List.mem_iff_getElem?.2 ⟨3, rfl⟩); dsimp only at this ⊢; omega
    · have := hlt _ (List.mem_iff_getElem?.2 ⟨4, rfl⟩); dsimp only at this ⊢; omega
    · have := hlt _ (List.mem_iff_getElem?.2 ⟨5, rfl⟩); dsimp only at this ⊢; omega
    · have := hlt _ (List.mem_iff_getElem?.2 ⟨6, rfl⟩); dsimp only at this ⊢; omega
    · have := hlt _ (List.mem_iff_getElem?.2 ⟨7, rfl⟩); dsimp only at this ⊢; omega
    · have := hlt _ (List.mem_iff_getElem?.2 ⟨8, rfl⟩); dsimp only at this ⊢; omega
    · have := hlt _ (List.mem_iff_getElem?.2 ⟨9, rfl⟩); dsimp only at this ⊢; omega
    · have := hlt _ (List.mem_iff_getElem?.2 ⟨10, rfl⟩); dsimp only at this ⊢; omega
   replace HS := ae (HS.out.ku k17 MO (by rfl) MQ)
   replace HG := ae (HG.out.box (B := jB) (T := 43) (cs := #[.bool false, .slice none 0 0, .slice none 0 0, .bool false, .slice none 0 0, .slice none 0 0]) (fun g hg hc => by obtain ⟨n, hn⟩ := List.mem_iff_getElem?.1 hg; have := ((nJ n g hn).lt hc).1; have := g17; omega))
   simp only [aQ, aT, List.foldl_cons, List.foldl_nil, ag, e1, e5, e6, e7, e9, e13, e14, e15, e16, e17]
   clear hp hd hb hlt e1 e5 e6 e7 e9 e13 e14 e15 e16 e17 nJ
   refine rdA (i := 18) rfl (fun K hK => ?_)
   have zC := (HS.out.at 0 _ _ _ rfl)
   have alz := af zC 0 (.bool false) rfl
   have alA := af zC 1 (.slice none 0 0) rfl
   have alB := af zC 2 (.slice none 0 0) rfl
   have alC := af zC 3 (.bool false) rfl
   have alD := af zC 4 (.slice none 0 0) rfl
   have alE := af zC 5 (.slice none 0 0) rfl
   have alF := ah zC 0
   have alG := ah zC 1
   have alH := ah zC 2
   have alI := ah zC 3
   have alJ := ah zC 4
   have alK := ah zC 5
   have ao8 := ai zC
   clear zC
   go_simp
   refine hK.out _ _ ((((HS.out).gp 0 dQ dQ jm jo rfl)).erase 0) (fun hh => ?_)
   clear hK K alz alA alB alC alD alE alF alG alH alI alJ alK ao8
   try simp only [ag]
   generalize MG : ((((((WX).setCell _ _).setCell _ _).setCell _ _).setCell _ _).setCell _ _).setCell _ _ = W39 at *
   replace nI := ae (wX (xW nI.out (HS.out.at 0 _ _ _ rfl) (by decide)) MG)
   replace HG := ae (((HG.out).gp (HS.out) 0 dQ dQ jm jo rfl).to MG (by (try simp only [ig, ik]); rfl))
   replace HS := ae (((HS.out).gp 0 dQ dQ jm jo rfl).to MG (by (try simp only [ig, ik]); rfl))
   clear MG
   refine wpAnyH_done (by kernel_rfl) ?_ _
   gi_wp2_with fail
   refine gm (S := (fun w' => Sx w w' [(jB, aY jm jo, 43), (w3.heap.size, aY Ox Oy, 43), (Bs, #[.bool yv.b, .slice yv.a yv.n yv.c, .slice yv.d yv.m yv.e, .bool yl.b, .slice yl.a yl.n yl.c, .slice yl.d yl.m yl.e, .bool yk.b, .slice yk.a yk.n yk.c, .slice yk.d yk.m yk.e, .bool yw.b, .slice yw.a yw.n yw.c, .slice yw.d yw.m yw.e, .bool ym.b, .slice ym.a ym.n ym.c, .slice ym.d ym.m ym.e, .bool yn.b, .slice yn.a yn.n yn.c, .slice yn.d yn.m yn.e], 102), (Bc, #[.bool y0.b, .slice y0.a y0.n y0.c, .slice y0.d y0.m y0.e, .bool y1.b, .slice y1.a y1.n y1.c, .slice y1.d y1.m y1.e, .bool y2.b, .slice y2.a y2.n y2.c, .slice y2.d y2.m y2.e, .bool y3.b, .slice y3.a y3.n y3.c, .slice y3.d y3.m y3.e, .bool y4.b, .slice y4.a y4.n y4.c, .slice y4.d y4.m y4.e, .bool y5.b, .slice y5.a y5.n y5.c, .slice y5.d y5.m y5.e, .bool y6.b, .slice y6.a y6.n y6.c, .slice y6.d y6.m y6.e], 46), (Bl, #[.slice (some ⟨bk, off, none⟩) ls.length cap], 31), (Ba, xa.arr, 40), (Be, xe.arr, 40), (w.heap.size + 4, #[.slice sa sn sc], 31), (w.heap.size + 3, #[.int .i64 z], 3), (w.heap.size + 2, xe.arr, 40), (w.heap.size + 1, xa.arr, 40), (w.heap.size, #[.slice Ib es.length ct], 26)] [])) (by kernel_rfl) (by kernel_rfl) (by exact fun _ _ h => h) ((HS.out.drew).bare) (fun hh => ?_)
   replace HS := ae HS.out.drew
   replace HG := ae (HG.out.below (Below.refl _ _).drew)
   replace nI := ae (jy nI.out (Below.refl _ _).drew)
   have BM := ae HS.out.bel.size
   refine dF (i := 1) (v := ?auR) rfl ?ap2 ?aui
   case ap2 => intro u aH; go_simp <;> with_reducible rfl
   try simp only [ag]
   refine dF (i := 2) (v := ?auS) rfl ?ap3 ?auj
   case ap3 => intro u aH; (try dsimp only at aH); have dh := (aH.at 3 _ _ _ rfl); have aaG := af dh 0 (.bool y0.b) rfl; have aaH := af dh 1 (.slice y0.a y0.n y0.c) rfl; have aaI := af dh 2 (.slice y0.d y0.m y0.e) rfl; have aaJ := af dh 3 (.bool y1.b) rfl; have aaK := af dh 4 (.slice y1.a y1.n y1.c) rfl; have aaL := af dh 5 (.slice y1.d y1.m y1.e) rfl; have aaM := af dh 6 (.bool y2.b) rfl; have aaN := af dh 7 (.slice y2.a y2.n y2.c) rfl; have aaO := af dh 8 (.slice y2.d y2.m y2.e) rfl; have aaP := af dh 9 (.bool y3.b) rfl; have QE := af dh 10 (.slice y3.a y3.n y3.c) rfl; have QF := af dh 11 (.slice y3.d y3.m y3.e) rfl; have QG := af dh 12 (.bool y4.b) rfl; have QH := af dh 13 (.slice y4.a y4.n y4.c) rfl; have QI := af dh 14 (.slice y4.d y4.m y4.e) rfl; have QJ := af dh 15 (.bool y5.b) rfl; have QK := af dh 16 (.slice y5.a y5.n y5.c) rfl; have QL := af dh 17 (.slice y5.d y5.m y5.e) rfl; have QM := af dh 18 (.bool y6.b) rfl; have QN := af dh 19 (.slice y6.a y6.n y6.c) rfl; have QO := af dh 20 (.slice y6.d y6.m y6.e) rfl; clear dh; clear aH; go_simp <;> with_reducible rfl
   try simp only [ag]
   refine dF (i := 3) (v := ?aow) rfl ?ZL ?aof
   case ZL => intro u aH; (try dsimp only at aH); obtain ⟨aq6, aq7, aq8, aq9, aq', aq_, _⟩ := dO (x := jm) (y := jo) (aH.at 0 _ _ _ rfl); clear aH; go_simp <;> with_reducible rfl
   try simp only [ag]
   refine dY [0, 4, 5, 6] [0, 4, 5, 6] [] [48, 52, 17, 18] #[true, true, true, true, true, true, true, false, false] 2 [(0, 48), (4, 52), (5, 17), (6, 18)] [(0, []), (4, [0]), (5, []), (6, [])] [5, 6] [(0, fun v w => ∃ z44 : R3, v = z44.val ∧ Fr true w z44.val 1), (4, fun v w => ∃ mg mr : R3, v = .agg #[.bool mg.b, .slice mg.a mg.n mg.c, .slice mg.d mg.m mg.e, .bool mr.b, .slice mr.a mr.n mr.c, .slice mr.d mr.m mr.e] ∧ Fr true w mg.val (jQ pa pb (r0 * (1 - c1)) (r1 * (1 - c0))) ∧ Fr true w mr.val (jP pa pb (r0 * (1 - c1)) (r1 * (1 - c0)))), (5, fun v w => ∃ jH : Nat, v = .pointer (some ⟨jH, 0, none⟩) ∧ W39.drew.heap.size ≤ jH ∧ w.heap[jH]? = some (.cells #[.bool false, .slice none 0 0, .slice none 0 0] 40 (0, 0))), (6, fun v w => ∃ kM : Nat, v = .pointer (some ⟨kM, 0, none⟩) ∧ W39.drew.heap.size ≤ kM ∧ w.heap[kM]? = some (.cells #[.bool false, .slice none 0 0, .slice none 0 0, .bool false, .slice none 0 0, .slice none 0 0] 43 (0, 0)))]
    rfl (by kernel_rfl) (by decide) rfl ⟨(fun v w w' hb ⟨z0, e, h0⟩ => ⟨z0, e, Fr.below h0 hb⟩), ⟨(fun v w w' hb ⟨z0, z1, e, h0, h1⟩ => ⟨z0, z1, e, Fr.below h0 hb, Fr.below h1 hb⟩), ⟨(fun v w w' hb ⟨B, e, g, k⟩ => ⟨B, e, g, ay k hb (ai k)⟩), ⟨(fun v w w' hb ⟨B, e, g, k⟩ => ⟨B, e, g, ay k hb (ai k)⟩), trivial⟩⟩⟩⟩ ⟨fun v w ⟨B, e, g, k⟩ => ⟨B, e, ai k⟩, ⟨fun v w ⟨B, e, g, k⟩ => ⟨B, e, ai k⟩, trivial⟩⟩ (fun w' hb => Sx.below hh hb) ⟨?_, ?_, ?_, ?_, trivial⟩ trivial (by decide) ?_
   ·
    refine dI.of rfl (fun f w' hb hp K hK => ?_)
    simp only [aQ, aT, List.foldl_cons, List.foldl_nil, ag]
    have pJ := HS
    replace HS := ae (HS.out.below hb)
    go_simp
    go_wp2_with (go_at_call 44; (with_reducible refine (one_any _).mono ?_); rintro e w44 ⟨v44, rfl, UQ, Zo⟩; obtain ⟨z44, rfl⟩ := UQ.bn)
    exact hK.out _ _ (z44.val) (by simp only [aQ, aT, List.foldl_cons, List.foldl_nil, ag]) ⟨z44, rfl, UQ⟩ (fun h => absurd h (by decide)) Zo
   ·
    refine dI.of rfl (fun f w' hb hp K hK => ?_)
    simp only [aQ, aT, List.foldl_cons, List.foldl_nil, ag]
    have pJ := HS
    replace HS := ae (HS.out.below hb)
    have a46 := HS.out.p 23 _ _ rfl
    have a47 := HS.out.p 22 _ _ rfl
    have a48 := HS.out.p 1 _ _ rfl
    have a49 := HS.out.p 0 _ _ rfl
    go_simp
    go_wp2_with (go_at_call 49; (with_reducible refine (AU pa pb (r0 * (1 - c1)) (r1 * (1 - c0)) _ _ _ (gB a46 a47) (gB a48 a49) (aj Spa.out (by omega)) (aj Spb.out (by omega)) (aj SU0.out (by omega)) (aj SU1.out (by omega))).mono ?_); rintro e w45 ⟨v45, rfl, ⟨mg, mr, rfl, aqH, aqN⟩, apJ⟩)
    exact hK.out _ _ (.agg #[.bool mg.b, .slice mg.a mg.n mg.c, .slice mg.d mg.m mg.e, .bool mr.b, .slice mr.a mr.n mr.c, .slice mr.d mr.m mr.e]) (by simp only [aQ, aT, List.foldl_cons, List.foldl_nil, ag]) ⟨mg, mr, rfl, aqH, aqN⟩ (fun h => absurd h (by decide)) apJ
   ·
    refine dI.of rfl (fun f w' hb hp K hK => ?_)
    simp only [aQ, aT, List.foldl_cons, List.foldl_nil, ag]
    have pJ := HS
    replace HS := ae (HS.out.below hb)
    go_simp
    exact hK.out _ _ (.pointer (some ⟨w'.heap.size, 0, none⟩)) (by simp only [aQ, aT, List.foldl_cons, List.foldl_nil, ag]) ⟨_, rfl, hb.size, aV _ _ _⟩ (fun _ => rfl) (gJ w' _)
   ·
    refine dI.of rfl (fun f w' hb hp K hK => ?_)
    simp only [aQ, aT, List.foldl_cons, List.foldl_nil, ag]
    have pJ := HS
    replace HS := ae (HS.out.below hb)
    go_simp
    exact hK.out _ _ (.pointer (some ⟨w'.heap.size, 0, none⟩)) (by simp only [aQ, aT, List.foldl_cons, List.foldl_nil, ag]) ⟨_, rfl, hb.size, aV _ _ _⟩ (fun _ => rfl) (gJ w' _)
   ·
    intro f Vx hb hp hd
    obtain ⟨z44, e0, apC⟩ : ∃ z44 : R3, f 48 = z44.val ∧ Fr true Vx z44.val 1 := hp 0 (by decide)
    obtain ⟨mg, mr, e4, Ez, apD⟩ : ∃ mg mr : R3, f 52 = .agg #[.bool mg.b, .slice mg.a mg.n mg.c, .slice mg.d mg.m mg.e, .bool mr.b, .slice mr.a mr.n mr.c, .slice mr.d mr.m mr.e] ∧ Fr true Vx mg.val (jQ pa pb (r0 * (1 - c1)) (r1 * (1 - c0))) ∧ Fr true Vx mr.val (jP pa pb (r0 * (1 - c1)) (r1 * (1 - c0))) := hp 4 (by decide)
    obtain ⟨jH, e5, g5, k5⟩ : ∃ jH : Nat, f 17 = .pointer (some ⟨jH, 0, none⟩) ∧ W39.drew.heap.size ≤ jH ∧ Vx.heap[jH]? = some (.cells #[.bool false, .slice none 0 0, .slice none 0 0] 40 (0, 0)) := hp 5 (by decide)
    obtain ⟨kM, e6, g6, k6⟩ : ∃ kM : Nat, f 18 = .pointer (some ⟨kM, 0, none⟩) ∧ W39.drew.heap.size ≤ kM ∧ Vx.heap[kM]? = some (.cells #[.bool false, .slice none 0 0, .slice none 0 0, .bool false, .slice none 0 0, .slice none 0 0] 43 (0, 0)) := hp 6 (by decide)
    have amj : jH ≠ kM := fun h => hd 5 6 (by decide) (by decide) (by decide) (by decide) (by decide) (by show f 17 = f 18; rw [e5, e6, h])
    replace hh := Sx.below hh hb
    have hlt := HS.out.lt
    replace HS := ae (HS.out.below hb)
    replace nI := ae (jy nI.out hb)
    have nJ := HG.out.row
    replace HG := ae (HG.out.below hb)
    replace HS := ae (HS.out.az apC)
    replace HS := ae (HS.out.az Ez)
    replace HS := ae (HS.out.az apD)
    have apV : w.heap.size ≤ jH := Nat.le_trans BM.out g5
    have hne5 : ∀ b, b ∈ ([(jB, aY jm jo, 43), (w3.heap.size, aY Ox Oy, 43), (Bs, #[.bool yv.b, .slice yv.a yv.n yv.c, .slice yv.d yv.m yv.e, .bool yl.b, .slice yl.a yl.n yl.c, .slice yl.d yl.m yl.e, .bool yk.b, .slice yk.a yk.n yk.c, .slice yk.d yk.m yk.e, .bool yw.b, .slice yw.a yw.n yw.c, .slice yw.d yw.m yw.e, .bool ym.b, .slice ym.a ym.n ym.c, .slice ym.d ym.m ym.e, .bool yn.b, .slice yn.a yn.n yn.c, .slice yn.d yn.m yn.e], 102), (Bc, #[.bool y0.b, .slice y0.a y0.n y0.c, .slice y0.d y0.m y0.e, .bool y1.b, .slice y1.a y1.n y1.c, .slice y1.d y1.m y1.e, .bool y2.b, .slice y2.a y2.n y2.c, .slice y2.d y2.m y2.e, .bool y3.b, .slice y3.a y3.n y3.c, .slice y3.d y3.m y3.e, .bool y4.b, .slice y4.a y4.n y4.c, .slice y4.d y4.m y4.e, .bool y5.b, .slice y5.a y5.n y5.c, .slice y5.d y5.m y5.e, .bool y6.b, .slice y6.a y6.n y6.c, .slice y6.d y6.m y6.e], 46), (Bl, #[.slice (some ⟨bk, off, none⟩) ls.length cap], 31), (Ba, xa.arr, 40), (Be, xe.arr, 40), (w.heap.size + 4, #[.slice sa sn sc], 31), (w.heap.size + 3, #[.int .i64 z], 3), (w.heap.size + 2, xe.arr, 40), (w.heap.size + 1, xa.arr, 40), (w.heap.size, #[.slice Ib es.length ct], 26)] : List Bx) → b.1 ≠ jH := by
     intro b hb
     simp only [List.mem_cons, List.not_mem_nil, or_false] at hb
     rcases hb with rfl | rfl | rfl | rfl | rfl | rfl | rfl | rfl | rfl | rfl | rfl | rfl
     · have := hlt _ (List.mem_iff_getElem?.2 ⟨0, rfl⟩); dsimp only at this ⊢; omega
     · have := hlt _ (List.mem_iff_getElem?.2 ⟨1, rfl⟩); dsimp only at this ⊢; omega
     · have := hlt _ (List.mem_iff_getElem?.2 ⟨2, rfl⟩); dsimp only at this ⊢; omega
     · have := hlt _ (List.mem_iff_getElem?.2 ⟨3, rfl⟩); dsimp only at this ⊢; omega
     · have := hlt _ (List.mem_iff_getElem?.2 ⟨4, rfl⟩); dsimp only at this ⊢; omega
     · have := hlt _ (List.mem_iff_getElem?.2 ⟨5, rfl⟩); dsimp only at this ⊢; omega
     · have := hlt _ (List.mem_iff_getElem?.2 ⟨6, rfl⟩); dsimp only at this ⊢; omega
     · have := hlt _ (List.mem_iff_getElem?.2 ⟨7, rfl⟩); dsimp only at this ⊢; omega
     · have := hlt _ (List.mem_iff_getElem?.2 ⟨8, rfl⟩); dsimp only at this ⊢; omega
     · have := hlt _ (List.mem_iff_getElem?.2 ⟨9, rfl⟩); dsimp only at this ⊢; omega
     · have := hlt _ (List.mem_iff_getElem?.2 ⟨10, rfl⟩); dsimp only at this ⊢; omega
     · have := hlt _ (List.mem_iff_getElem?.2 ⟨11, rfl⟩); dsimp only at this ⊢; omega
    replace HS := ae (HS.out.ku k5 apV (by rfl) hne5)
    replace HG := ae (HG.out.box (B := jH) (T := 40) (cs := #[.bool false, .slice none 0 0, .slice none 0 0]) (fun g hg hc => by obtain ⟨n, hn⟩ := List.mem_iff_getElem?.1 hg; have := ((nJ n g hn).lt hc).1; have := g5; omega))
    have apW : w.heap.size ≤ kM := Nat.le_trans BM.out g6
    have aqD : ∀ b, b ∈ ([(jH, #[.bool false, .slice none 0 0, .slice none 0 0], 40), (jB, aY jm jo, 43), (w3.heap.size, aY Ox Oy, 43), (Bs, #[.bool yv.b, .slice yv.a yv.n yv.c, .slice yv.d yv.m yv.e, .bool yl.b, .slice yl.a yl.n yl.c, .slice yl.d yl.m yl.e, .bool yk.b, .slice yk.a yk.n yk.c, .slice yk.d yk.m yk.e, .bool yw.b, .slice yw.a yw.n yw.c, .slice yw.d yw.m yw.e, .bool ym.b, .slice ym.a ym.n ym.c, .slice ym.d ym.m ym.e, .bool yn.b, .slice yn.a yn.n yn.c, .slice yn.d yn.m yn.e], 102), (Bc, #[.bool y0.b, .slice y0.a y0.n y0.c, .slice y0.d y0.m y0.e, .bool y1.b, .slice y1.a y1.n y1.c, .slice y1.d y1.m y1.e, .bool y2.b, .slice y2.a y2.n y2.c, .slice y2.d y2.m y2.e, .bool y3.b, .slice y3.a y3.n y3.c, .slice y3.d y3.m y3.e, .bool y4.b, .slice y4.a y4.n y4.c, .slice y4.d y4.m y4.e, .bool y5.b, .slice y5.a y5.n y5.c, .slice y5.d y5.m y5.e, .bool y6.b, .slice y6.a y6.n y6.c, .slice y6.d y6.m y6.e], 46), (Bl, #[.slice (some ⟨bk, off, none⟩) ls.length cap], 31), (Ba, xa.arr, 40), (Be, xe.arr, 40), (w.heap.size + 4, #[.slice sa sn sc], 31), (w.heap.size + 3, #[.int .i64 z], 3), (w.heap.size + 2, xe.arr, 40), (w.heap.size + 1, xa.arr, 40), (w.heap.size, #[.slice Ib es.length ct], 26)] : List Bx) → b.1 ≠ kM := by
     intro b hb
     simp only [List.mem_cons, List.not_mem_nil, or_false] at hb
     rcases hb with rfl | rfl | rfl | rfl | rfl | rfl | rfl | rfl | rfl | rfl | rfl | rfl | rfl
     · exact amj
     · have := hlt _ (List.mem_iff_getElem?.2 ⟨0, rfl⟩); dsimp only at this ⊢; omega
     · have := hlt _ (List.mem_iff_getElem?.2 ⟨1, rfl⟩); dsimp only at this ⊢; omega
     · have := hlt _ (List.mem_iff_getElem?.2 ⟨2, rfl⟩); dsimp only at this ⊢; omega
     · have := hlt _ (List.mem_iff_getElem?.2 ⟨3, rfl⟩); dsimp only at this ⊢; omega
     · have := hlt _ (List.mem_iff_getElem?.2 ⟨4, rfl⟩); dsimp only at this ⊢; omega
     · have := hlt _ (List.mem_iff_getElem?.2 ⟨5, rfl⟩); dsimp only at this ⊢; omega
     · have := hlt _ (List.mem_iff_getElem?.2 ⟨6, rfl⟩); dsimp only at this ⊢; omega
     · have := hlt _ (List.mem_iff_getElem?.2 ⟨7, rfl⟩); dsimp only at this ⊢; omega
     · have := hlt _ (List.mem_iff_getElem?.2 ⟨8, rfl⟩); dsimp only at this ⊢; omega
     · have := hlt _ (List.mem_iff_getElem?.2 ⟨9, rfl⟩); dsimp only at this ⊢; omega
     · have := hlt _ (List.mem_iff_getElem?.2 ⟨10, rfl⟩); dsimp only at this ⊢; omega
     · have := hlt _ (List.mem_iff_getElem?.2 ⟨11, rfl⟩); dsimp only at this ⊢; omega
    replace HS := ae (HS.out.ku k6 apW (by rfl) aqD)
    replace HG := ae (HG.out.box (B := kM) (T := 43) (cs := #[.bool false, .slice none 0 0, .slice none 0 0, .bool false, .slice none 0 0, .slice none 0 0]) (fun g hg hc => by obtain ⟨n, hn⟩ := List.mem_iff_getElem?.1 hg; have := ((nJ n g hn).lt hc).1; have := g6; omega))
    simp only [aQ, aT, List.foldl_cons, List.foldl_nil, ag, e0, e4, e5, e6]
    clear hp hd hb hlt e0 e4 e5 e6 nJ
    refine rdA (i := 7) rfl (fun K hK => ?_)
    have Ll := (HS.out.at 1 _ _ _ rfl)
    have Le := af Ll 0 (.bool false) rfl
    have Lh := af Ll 1 (.slice none 0 0) rfl
    have Lj := af Ll 2 (.slice none 0 0) rfl
    have Lm := ah Ll 0
    have Lp := ah Ll 1
    have Lr := ah Ll 2
    have X9 := ai Ll
    clear Ll
    go_simp
    refine hK.out _ _ ((((((HS.out).oz 1 dQ z44 rfl)).erase 1)).erase 0) (fun hh => ?_)
    clear hK K Le Lh Lj Lm Lp Lr X9
    try simp only [ag]
    generalize aec : (((Vx).setCell _ _).setCell _ _).setCell _ _ = W50 at *
    replace nI := ae (wX (C_ nI.out (HS.out.at 1 _ _ _ rfl) (by decide)) aec)
    replace HG := ae (((HG.out).oz (HS.out) 1 dQ z44 rfl).to aec (by (try simp only [ig, ik]); rfl))
    replace HS := ae (((HS.out).oz 1 dQ z44 rfl).to aec (by (try simp only [ig, ik]); rfl))
    clear aec
    refine rdA (i := 8) rfl (fun K hK => ?_)
    have zD := (HS.out.at 0 _ _ _ rfl)
    have DC := af zD 0 (.bool false) rfl
    have DF := af zD 1 (.slice none 0 0) rfl
    have DI := af zD 2 (.slice none 0 0) rfl
    have DJ := af zD 3 (.bool false) rfl
    have DK := af zD 4 (.slice none 0 0) rfl
    have DL := af zD 5 (.slice none 0 0) rfl
    have Ls := ah zD 0
    have Lt := ah zD 1
    have Lu := ah zD 2
    have LC := ah zD 3
    have LD := ah zD 4
    have LG := ah zD 5
    have X_ := ai zD
    clear zD
    go_simp
    refine hK.out _ _ ((((((HS.out).gp 0 dQ dQ mg mr rfl)).erase 1)).erase 0) (fun hh => ?_)
    clear hK K DC DF DI DJ DK DL Ls Lt Lu LC LD LG X_
    try simp only [ag]
    generalize aed : ((((((W50).setCell _ _).setCell _ _).setCell _ _).setCell _ _).setCell _ _).setCell _ _ = W51 at *
    replace nI := ae (wX (xW nI.out (HS.out.at 0 _ _ _ rfl) (by decide)) aed)
    replace HG := ae (((HG.out).gp (HS.out) 0 dQ dQ mg mr rfl).to aed (by (try simp only [ig, ik]); rfl))
    replace HS := ae (((HS.out).gp 0 dQ dQ mg mr rfl).to aed (by (try simp only [ig, ik]); rfl))
    clear aed
    refine wpAnyH_done (by kernel_rfl) ?_ _
    gi_wp2_with (first | (refine dD rfl 102 (.tmp 13) rfl Bs 0 rfl [.bool yv.b, .slice yv.a yv.n yv.c, .slice yv.d yv.m yv.e, .bool yl.b, .slice yl.a yl.n yl.c, .slice yl.d yl.m yl.e, .bool yk.b, .slice yk.a yk.n yk.c, .slice yk.d yk.m yk.e, .bool yw.b, .slice yw.a yw.n yw.c, .slice yw.d yw.m yw.e, .bool ym.b, .slice ym.a ym.n ym.c, .slice ym.d ym.m ym.e, .bool yn.b, .slice yn.a yn.n yn.c, .slice yn.d yn.m yn.e] _ (dK (HS.out.at 4 _ _ _ rfl)) Tryz.underlying102 rfl (by kernel_rfl) ?_) | (refine dD rfl 102 (.tmp 13) rfl Bs 0 rfl [.bool yv.b, .slice yv.a yv.n yv.c, .slice yv.d yv.m yv.e, .bool yl.b, .slice yl.a yl.n yl.c, .slice yl.d yl.m yl.e, .bool yk.b, .slice yk.a yk.n yk.c, .slice yk.d yk.m yk.e, .bool yw.b, .slice yw.a yw.n yw.c, .slice yw.d yw.m yw.e, .bool ym.b, .slice ym.a ym.n ym.c, .slice ym.d ym.m ym.e, .bool yn.b, .slice yn.a yn.n yn.c, .slice yn.d yn.m yn.e] _ (fO (HS.out.at 4 _ _ _ rfl)) Tryz.underlying102 rfl (by kernel_rfl) ?_) | (refine dD rfl 102 (.tmp 13) rfl Bs 0 rfl [.bool yv.b, .slice yv.a yv.n yv.c, .slice yv.d yv.m yv.e, .bool yl.b, .slice yl.a yl.n yl.c, .slice yl.d yl.m yl.e, .bool yk.b, .slice yk.a yk.n yk.c, .slice yk.d yk.m yk.e, .bool yw.b, .slice yw.a yw.n yw.c, .slice yw.d yw.m yw.e, .bool ym.b, .slice ym.a ym.n ym.c, .slice ym.d ym.m ym.e, .bool yn.b, .slice yn.a yn.n yn.c, .slice yn.d yn.m yn.e] _ (f_ (HS.out.at 4 _ _ _ rfl)) Tryz.underlying102 rfl (by kernel_rfl) ?_))
    have Xa := ae (ajD Svv.out Suu.out)
    have TW := ae (aci (u := (jQ pa pb (r0 * (1 - c1)) (r1 * (1 - c0)))) (l := (jQ l0 l1 vv vv)) (m := (jQ m0 m1 uu uu)) (aj (AP Spa.out Spb.out SU0.out SU1.out (Nat.le_refl _)) (by omega)) (AP Sl0.out Sl1.out Svv.out Svv.out (by omega)) (AP Sm0.out Sm1.out Suu.out Suu.out (by omega)))
    have HH3 := ae (aci (u := (jP pa pb (r0 * (1 - c1)) (r1 * (1 - c0)))) (l := (jP l0 l1 vv vv)) (m := (jP m0 m1 uu uu)) (aj (AO Spa.out Spb.out SU0.out SU1.out (Nat.le_refl _)) (by omega)) (AO Sl0.out Sl1.out Svv.out Svv.out (by omega)) (AO Sm0.out Sm1.out Suu.out Suu.out (by omega)))
    gi_wp2_with fail
    gi_loopw [54] (fun u54 wr => ∃ (j : Nat) (n0 n1 n2 : R3), j ≤ 2 ∧ u54 = .int .i64 j ∧ Hid (Sx w wr [(kM, aY n1 n2, 43), (jH, n0.arr, 40), (jB, aY jm jo, 43), (w3.heap.size, aY Ox Oy, 43), (Bs, #[.bool yv.b, .slice yv.a yv.n yv.c, .slice yv.d yv.m yv.e, .bool yl.b, .slice yl.a yl.n yl.c, .slice yl.d yl.m yl.e, .bool yk.b, .slice yk.a yk.n yk.c, .slice yk.d yk.m yk.e, .bool yw.b, .slice yw.a yw.n yw.c, .slice yw.d yw.m yw.e, .bool ym.b, .slice ym.a ym.n ym.c, .slice ym.d ym.m ym.e, .bool yn.b, .slice yn.a yn.n yn.c, .slice yn.d yn.m yn.e], 102), (Bc, #[.bool y0.b, .slice y0.a y0.n y0.c, .slice y0.d y0.m y0.e, .bool y1.b, .slice y1.a y1.n y1.c, .slice y1.d y1.m y1.e, .bool y2.b, .slice y2.a y2.n y2.c, .slice y2.d y2.m y2.e, .bool y3.b, .slice y3.a y3.n y3.c, .slice y3.d y3.m y3.e, .bool y4.b, .slice y4.a y4.n y4.c, .slice y4.d y4.m y4.e, .bool y5.b, .slice y5.a y5.n y5.c, .slice y5.d y5.m y5.e, .bool y6.b, .slice y6.a y6.n y6.c, .slice y6.d y6.m y6.e], 46), (Bl, #[.slice (some ⟨bk, off, none⟩) ls.length cap], 31), (Ba, xa.arr, 40), (Be, xe.arr, 40), (w.heap.size + 4, #[.slice sa sn sc], 31), (w.heap.size + 3, #[.int .i64 z], 3), (w.heap.size + 2, xe.arr, 40), (w.heap.size + 1, xa.arr, 40), (w.heap.size, #[.slice Ib es.length ct], 26)] [(true, n2.val, (zi (jP pa pb (r0 * (1 - c1)) (r1 * (1 - c0))) (jP l0 l1 vv vv) (jP m0 m1 uu uu) j)), (true, n1.val, (zi (jQ pa pb (r0 * (1 - c1)) (r1 * (1 - c0))) (jQ l0 l1 vv vv) (jQ m0 m1 uu uu) j)), (true, n0.val, (nP vv uu j)), (true, jo.val, (r1 * (1 - c0))), (true, jm.val, (r0 * (1 - c1))), (true, z21.val, (r1 * (1 - c0))), (true, z20.val, (1 - c0)), (true, zo.val, c0), (true, Rj.val, r1), (true, z17.val, (r0 * (1 - c1))), (true, yG.val, (1 - c1)), (true, zn.val, c1), (true, Ri.val, r0), (true, Oy.val, r1), (true, Ox.val, r0), (true, yn.val, m1), (true, ym.val, m0), (true, yw.val, uu), (true, yk.val, l1), (true, yl.val, l0), (true, yv.val, vv), (true, y6.val, c1), (true, y5.val, c0), (true, y4.val, t1), (true, y3.val, t0), (true, y2.val, pb), (true, y1.val, pa), (true, y0.val, p)]) ∧ Hid (jF w wr [(kM, aY n1 n2, 43), (jH, n0.arr, 40), (jB, aY jm jo, 43), (w3.heap.size, aY Ox Oy, 43), (Bs, #[.bool yv.b, .slice yv.a yv.n yv.c, .slice yv.d yv.m yv.e, .bool yl.b, .slice yl.a yl.n yl.c, .slice yl.d yl.m yl.e, .bool yk.b, .slice yk.a yk.n yk.c, .slice yk.d yk.m yk.e, .bool yw.b, .slice yw.a yw.n yw.c, .slice yw.d yw.m yw.e, .bool ym.b, .slice ym.a ym.n ym.c, .slice ym.d ym.m ym.e, .bool yn.b, .slice yn.a yn.n yn.c, .slice yn.d yn.m yn.e], 102), (Bc, #[.bool y0.b, .slice y0.a y0.n y0.c, .slice y0.d y0.m y0.e, .bool y1.b, .slice y1.a y1.n y1.c, .slice y1.d y1.m y1.e, .bool y2.b, .slice y2.a y2.n y2.c, .slice y2.d y2.m y2.e, .bool y3.b, .slice y3.a y3.n y3.c, .slice y3.d y3.m y3.e, .bool y4.b, .slice y4.a y4.n y4.c, .slice y4.d y4.m y4.e, .bool y5.b, .slice y5.a y5.n y5.c, .slice y5.d y5.m y5.e, .bool y6.b, .slice y6.a y6.n y6.c, .slice y6.d y6.m y6.e], 46), (Bl, #[.slice (some ⟨bk, off, none⟩) ls.length cap], 31), (Ba, xa.arr, 40), (Be, xe.arr, 40), (w.heap.size + 4, #[.slice sa sn sc], 31), (w.heap.size + 3, #[.int .i64 z], 3), (w.heap.size + 2, xe.arr, 40), (w.heap.size + 1, xa.arr, 40), (w.heap.size, #[.slice Ib es.length ct], 26)] [⟨46, true, 7, (.slice sa sn sc), xs, qs0⟩]) ∧ Hid (KT 101 W wr))
     (fun u _ => 2 - (intOf u).toNat)
    case atStart => exact ⟨0, z44, mg, mr, Nat.zero_le _, rfl, ae (((((((((((((((((((((((((((((HS.out.bare).az (HS.out.p 27 _ _ rfl)).az (HS.out.p 26 _ _ rfl)).az (HS.out.p 25 _ _ rfl)).az (HS.out.p 24 _ _ rfl)).az (HS.out.p 23 _ _ rfl)).az (HS.out.p 22 _ _ rfl)).az (HS.out.p 21 _ _ rfl)).az (HS.out.p 20 _ _ rfl)).az (HS.out.p 19 _ _ rfl)).az (HS.out.p 18 _ _ rfl)).az (HS.out.p 17 _ _ rfl)).az (HS.out.p 16 _ _ rfl)).az (HS.out.p 15 _ _ rfl)).az (HS.out.p 14 _ _ rfl)).az (HS.out.p 13 _ _ rfl)).az (HS.out.p 12 _ _ rfl)).az (HS.out.p 11 _ _ rfl)).az (HS.out.p 10 _ _ rfl)).az (HS.out.p 9 _ _ rfl)).az (HS.out.p 8 _ _ rfl)).az (HS.out.p 7 _ _ rfl)).az (HS.out.p 6 _ _ rfl)).az (HS.out.p 5 _ _ rfl)).az (HS.out.p 4 _ _ rfl)).az (HS.out.p 3 _ _ rfl)).az (HS.out.p 2 _ _ rfl)).az (HS.out.p 1 _ _ rfl)).az (HS.out.p 0 _ _ rfl)), HG, nI⟩
    case round =>
     obtain ⟨Ou, anx⟩ : ∃ z, z = wr := ⟨_, rfl⟩
     subst anx
     clear HS HG nI
     obtain ⟨j, n0, n1, n2, hi, rfl, HS, HG, nI⟩ := hrel
     by_cases hlt : j < 2
     ·
      have hlt' : (j : Int) < 2 := by omega
      have hge' : (0 : Int) ≤ j := by omega
      have gq := ae hlt
      have hj2 : j = 0 ∨ j = 1 := by omega
      obtain ⟨P0, P1, P2, pq, lq, hq, hix, hP0, hP1, hP2, e0, e1, e2, z0, z1, z2⟩ : ∃ (P0 P1 P2 : R3) (pq lq hq : Rat), (∀ w, (Instr.index 102 (.agg #[.bool yv.b, .slice yv.a yv.n yv.c, .slice yv.d yv.m yv.e, .bool yl.b, .slice yl.a yl.n yl.c, .slice yl.d yl.m yl.e, .bool yk.b, .slice yk.a yk.n yk.c, .slice yk.d yk.m yk.e, .bool yw.b, .slice yw.a yw.n yw.c, .slice yw.d yw.m yw.e, .bool ym.b, .slice ym.a ym.n ym.c, .slice ym.d ym.m ym.e, .bool yn.b, .slice yn.a yn.n yn.c, .slice yn.d yn.m yn.e]) (.int .i64 (j : Int))).run Tryz.prog w = .ok (.agg #[.bool P0.b, .slice P0.a P0.n P0.c, .slice P0.d P0.m P0.e, .bool P1.b, .slice P1.a P1.n P1.c, .slice P1.d P1.m P1.e, .bool P2.b, .slice P2.a P2.n P2.c, .slice P2.d P2.m P2.e]) w) ∧ aA Ou P0.val pq ∧ aA Ou P1.val lq ∧ aA Ou P2.val hq ∧ (nP vv uu (j + 1)) = (nP vv uu j) - pq ∧ (zi (jQ pa pb (r0 * (1 - c1)) (r1 * (1 - c0))) (jQ l0 l1 vv vv) (jQ m0 m1 uu uu) (j + 1)) = (zi (jQ pa pb (r0 * (1 - c1)) (r1 * (1 - c0))) (jQ l0 l1 vv vv) (jQ m0 m1 uu uu) j) + jQ lq hq pq pq ∧ (zi (jP pa pb (r0 * (1 - c1)) (r1 * (1 - c0))) (jP l0 l1 vv vv) (jP m0 m1 uu uu) (j + 1)) = (zi (jP pa pb (r0 * (1 - c1)) (r1 * (1 - c0))) (jP l0 l1 vv vv) (jP m0 m1 uu uu) j) + jP lq hq pq pq ∧ bQ pq 1000 ∧ bQ lq 1000 ∧ bQ hq 1000 := by
       rcases hj2 with rfl | rfl
       · exact ⟨yv, yl, yk, vv, l0, l1, fun w => yZ yv yl yk yw ym yn w, (HS.out.p 20 _ _ rfl), (HS.out.p 19 _ _ rfl), (HS.out.p 18 _ _ rfl), rfl, rfl, rfl, Svv.out, Sl0.out, Sl1.out⟩
       · exact ⟨yw, ym, yn, uu, m0, m1, fun w => y8 yv yl yk yw ym yn w, (HS.out.p 17 _ _ rfl), (HS.out.p 16 _ _ rfl), (HS.out.p 15 _ _ rfl), rfl, rfl, rfl, Suu.out, Sm0.out, Sm1.out⟩
      have HIX := ae hix
      have EQ0 := ae e0
      have EQ1 := ae e1
      have EQ2 := ae e2
      have Spq := ae z0
      have Slq := ae z1
      have Shq := ae z2
      replace HS := ae (((HS.out.az hP0).az hP1).az hP2)
      clear hix hP0 hP1 hP2 e0 e1 e2 z0 z1 z2 hj2 hlt
      have aqY := HIX.out
      obtain ⟨Le, Lh, Lj, Lm, Lp, Lr⟩ := eu (x := n0) (HS.out.at 1 _ _ _ rfl)
      have X9 := ai (HS.out.at 1 _ _ _ rfl)
      gi_wp2_with (first | (refine cO rfl 101 (.tmp 20) (.tmp 56) rfl Ou.heap.size rfl #[.bool P0.b, .slice P0.a P0.n P0.c, .slice P0.d P0.m P0.e, .bool P1.b, .slice P1.a P1.n P1.c, .slice P1.d P1.m P1.e, .bool P2.b, .slice P2.a P2.n P2.c, .slice P2.d P2.m P2.e] #[.bool false, .slice none 0 0, .slice none 0 0, .bool false, .slice none 0 0, .slice none 0 0, .bool false, .slice none 0 0, .slice none 0 0] _ rfl rfl (by simp) (by kernel_rfl) (by simp [Value.oneCell']) ?_))
      clear aqY Le Lh Lj Lm Lp Lr X9
      generalize aee : (Ou).alloc (.cells _ _) = W54 at *
      replace nI := ae (wX (FV nI.out _) aee)
      replace HG := ae (((HG.out).alloc (B := Ou.heap.size) rfl).to aee (by (try simp only [ig, ik]); rfl))
      replace HS := ae (((HS.out).alloc (B := Ou.heap.size) rfl (by rfl)).to aee (by (try simp only [ig, ik]); rfl))
      clear aee
      refine ⟨trivial, ?_⟩
      refine (YG (zk (nP vv uu j) pq _ _ _ (HS.out.p 5 _ _ rfl) (HS.out.p 2 _ _ rfl) (aj (Xa.out j) (by omega)) (aj Spq.out (by omega)))).mono ?_
      rintro e WW ⟨v55, rfl, UT, Au⟩
      obtain ⟨z55, rfl⟩ := UT.bn
      replace HS := ae (HS.out.below Au)
      replace HG := ae (HG.out.below Au)
      replace nI := ae (jy nI.out Au)
      clear Au
      replace HS := ae (HS.out.az UT)
      clear UT
      obtain ⟨Le, Lh, Lj, Lm, Lp, Lr⟩ := eu (x := n0) (HS.out.at 2 _ _ _ rfl)
      have X9 := ai (HS.out.at 2 _ _ _ rfl)
      gi_wp2_with fail
      clear Le Lh Lj Lm Lp Lr X9
      generalize ED : (((WW).setCell _ _).setCell _ _).setCell _ _ = W56 at *
      replace nI := ae (wX (C_ nI.out (HS.out.at 2 _ _ _ rfl) (by decide)) ED)
      replace HG := ae (((HG.out).oz (HS.out) 2 n0 z55 rfl).to ED (by (try simp only [ig, ik]); rfl))
      replace HS := ae (((HS.out).oz 2 n0 z55 rfl).to ED (by (try simp only [ig, ik]); rfl))
      clear ED
      refine gm (S := (fun w' => Sx w w' [(Ou.heap.size, #[.bool P0.b, .slice P0.a P0.n P0.c, .slice P0.d P0.m P0.e, .bool P1.b, .slice P1.a P1.n P1.c, .slice P1.d P1.m P1.e, .bool P2.b, .slice P2.a P2.n P2.c, .slice P2.d P2.m P2.e], 101), (jH, z55.arr, 40), (jB, aY jm jo, 43), (w3.heap.size, aY Ox Oy, 43), (Bs, #[.bool yv.b, .slice yv.a yv.n yv.c, .slice yv.d yv.m yv.e, .bool yl.b, .slice yl.a yl.n yl.c, .slice yl.d yl.m yl.e, .bool yk.b, .slice yk.a yk.n yk.c, .slice yk.d yk.m yk.e, .bool yw.b, .slice yw.a yw.n yw.c, .slice yw.d yw.m yw.e, .bool ym.b, .slice ym.a ym.n ym.c, .slice ym.d ym.m ym.e, .bool yn.b, .slice yn.a yn.n yn.c, .slice yn.d yn.m yn.e], 102), (Bc, #[.bool y0.b, .slice y0.a y0.n y0.c, .slice y0.d y0.m y0.e, .bool y1.b, .slice y1.a y1.n y1.c, .slice y1.d y1.m y1.e, .bool y2.b, .slice y2.a y2.n y2.c, .slice y2.d y2.m y2.e, .bool y3.b, .slice y3.a y3.n y3.c, .slice y3.d y3.m y3.e, .bool y4.b, .slice y4.a y4.n y4.c, .slice y4.d y4.m y4.e, .bool y5.b, .slice y5.a y5.n y5.c, .slice y5.d y5.m y5.e, .bool y6.b, .slice y6.a y6.n y6.c, .slice y6.d y6.m y6.e], 46), (Bl, #[.slice (some ⟨bk, off, none⟩) ls.length cap], 31), (Ba, xa.arr, 40), (Be, xe.arr, 40), (w.heap.size + 4, #[.slice sa sn sc], 31), (w.heap.size + 3, #[.int .i64 z], 3), (w.heap.size + 2, xe.arr, 40), (w.heap.size + 1, xa.arr, 40), (w.heap.size, #[.slice Ib es.length ct], 26)] [])) (by kernel_rfl) (by kernel_rfl) (by exact fun _ _ h => h) ((HS.out.drew).erase 1) (fun hh => ?_)
      replace HS := ae HS.out.drew
      replace HG := ae (HG.out.below (Below.refl _ _).drew)
      replace nI := ae (jy nI.out (Below.refl _ _).drew)
      have BM := ae HS.out.bel.size
      refine dF (i := 1) (v := ?auX) rfl ?ap8 ?auo
      case ap8 => intro u aH; go_simp <;> with_reducible rfl
      try simp only [ag]
      refine dF (i := 2) (v := ?auY) rfl ?ap9 ?aup
      case ap9 => intro u aH; (try dsimp only at aH); have lJ := (aH.at 0 _ _ _ rfl); have ajQ := af lJ 0 (.bool P0.b) rfl; have ajR := af lJ 1 (.slice P0.a P0.n P0.c) rfl; have ajS := af lJ 2 (.slice P0.d P0.m P0.e) rfl; have ajT := af lJ 3 (.bool P1.b) rfl; have ajU := af lJ 4 (.slice P1.a P1.n P1.c) rfl; have ajV := af lJ 5 (.slice P1.d P1.m P1.e) rfl; have ajW := af lJ 6 (.bool P2.b) rfl; have ajX := af lJ 7 (.slice P2.a P2.n P2.c) rfl; have ajY := af lJ 8 (.slice P2.d P2.m P2.e) rfl; clear lJ; clear aH; go_simp <;> with_reducible rfl
      try simp only [ag]
      refine dF (i := 3) (v := ?auZ) rfl ?ap' ?auq
      case ap' => intro u aH; go_simp <;> with_reducible rfl
      try simp only [ag]
      refine dF (i := 4) (v := ?asl) rfl ?aje ?arI
      case aje => intro u aH; (try dsimp only at aH); have lJ := (aH.at 0 _ _ _ rfl); have ajQ := af lJ 0 (.bool P0.b) rfl; have ajR := af lJ 1 (.slice P0.a P0.n P0.c) rfl; have ajS := af lJ 2 (.slice P0.d P0.m P0.e) rfl; have ajT := af lJ 3 (.bool P1.b) rfl; have ajU := af lJ 4 (.slice P1.a P1.n P1.c) rfl; have ajV := af lJ 5 (.slice P1.d P1.m P1.e) rfl; have ajW := af lJ 6 (.bool P2.b) rfl; have ajX := af lJ 7 (.slice P2.a P2.n P2.c) rfl; have ajY := af lJ 8 (.slice P2.d P2.m P2.e) rfl; clear lJ; clear aH; go_simp <;> with_reducible rfl
      try simp only [ag]
      refine dY [0, 5, 6, 7] [0, 5, 6, 7] [] [61, 66, 67, 68] #[true, true, true, true, true, true, true, true, false] 1 [(0, 61), (5, 66), (6, 67), (7, 68)] [(0, []), (5, []), (6, [5]), (7, [0, 6])] [] [(0, fun v w => v = .agg #[.bool n1.b, .slice n1.a n1.n n1.c, .slice n1.d n1.m n1.e, .bool n2.b, .slice n2.a n2.n n2.c, .slice n2.d n2.m n2.e]), (5, fun v w => v = .agg #[.bool P0.b, .slice P0.a P0.n P0.c, .slice P0.d P0.m P0.e, .bool P0.b, .slice P0.a P0.n P0.c, .slice P0.d P0.m P0.e]), (6, fun v w => ∃ kE kF : R3, v = .agg #[.bool kE.b, .slice kE.a kE.n kE.c, .slice kE.d kE.m kE.e, .bool kF.b, .slice kF.a kF.n kF.c, .slice kF.d kF.m kF.e] ∧ Fr true w kE.val (jQ lq hq pq pq) ∧ Fr true w kF.val (jP lq hq pq pq)), (7, fun v w => ∃ mD mF : R3, v = .agg #[.bool mD.b, .slice mD.a mD.n mD.c, .slice mD.d mD.m mD.e, .bool mF.b, .slice mF.a mF.n mF.c, .slice mF.d mF.m mF.e] ∧ Fr true w mD.val ((zi (jQ pa pb (r0 * (1 - c1)) (r1 * (1 - c0))) (jQ l0 l1 vv vv) (jQ m0 m1 uu uu) j) + (jQ lq hq pq pq)) ∧ Fr true w mF.val ((zi (jP pa pb (r0 * (1 - c1)) (r1 * (1 - c0))) (jP l0 l1 vv vv) (jP m0 m1 uu uu) j) + (jP lq hq pq pq)))]
       rfl (by kernel_rfl) (by decide) rfl ⟨(fun v w w' hb e => e), ⟨(fun v w w' hb e => e), ⟨(fun v w w' hb ⟨z0, z1, e, h0, h1⟩ => ⟨z0, z1, e, Fr.below h0 hb, Fr.below h1 hb⟩), ⟨(fun v w w' hb ⟨z0, z1, e, h0, h1⟩ => ⟨z0, z1, e, Fr.below h0 hb, Fr.below h1 hb⟩), trivial⟩⟩⟩⟩ trivial (fun w' hb => Sx.below hh hb) ⟨?_, ?_, ?_, ?_, trivial⟩ trivial (by decide) ?_
      ·
       refine dI.of rfl (fun f w' hb hp K hK => ?_)
       simp only [aQ, aT, List.foldl_cons, List.foldl_nil, ag]
       have pJ := HS
       replace HS := ae (HS.out.below hb)
       obtain ⟨DC, DF, DI, DJ, DK, DL, _⟩ := dO (x := n1) (y := n2) (HS.out.at 1 _ _ _ rfl)
       go_simp
       exact hK.out _ _ (.agg #[.bool n1.b, .slice n1.a n1.n n1.c, .slice n1.d n1.m n1.e, .bool n2.b, .slice n2.a n2.n n2.c, .slice n2.d n2.m n2.e]) (by simp only [aQ, aT, List.foldl_cons, List.foldl_nil, ag]) rfl (fun h => absurd h (by decide)) (Below.refl _ _)
      ·
       refine dI.of rfl (fun f w' hb hp K hK => ?_)
       simp only [aQ, aT, List.foldl_cons, List.foldl_nil, ag]
       have pJ := HS
       replace HS := ae (HS.out.below hb)
       go_simp
       go_wp2_with (go_at_call 8; (with_reducible refine (x8 P0 _).mono ?_); rintro e w62 ⟨rfl, apK⟩)
       exact hK.out _ _ (.agg #[.bool P0.b, .slice P0.a P0.n P0.c, .slice P0.d P0.m P0.e, .bool P0.b, .slice P0.a P0.n P0.c, .slice P0.d P0.m P0.e]) (by simp only [aQ, aT, List.foldl_cons, List.foldl_nil, ag]) rfl (fun h => absurd h (by decide)) apK
      ·
       refine dI.of rfl (fun f w' hb hp K hK => ?_)
       simp only [aQ, aT, List.foldl_cons, List.foldl_nil, ag]
       obtain e5 : f 66 = .agg #[.bool P0.b, .slice P0.a P0.n P0.c, .slice P0.d P0.m P0.e, .bool P0.b, .slice P0.a P0.n P0.c, .slice P0.d P0.m P0.e] := hp 5 (by decide)
       have pJ := HS
       replace HS := ae (HS.out.below hb)
       simp only [e5]
       have a65 := HS.out.p 2 _ _ rfl
       have a66 := HS.out.p 1 _ _ rfl
       have a67 := HS.out.p 3 _ _ rfl
       go_simp
       go_wp2_with (go_at_call 49; (with_reducible refine (AU lq hq pq pq _ _ _ (gB a65 a66) (gB a67 a67) (aj Slq.out (by omega)) (aj Shq.out (by omega)) (aj Spq.out (by omega)) (aj Spq.out (by omega))).mono ?_); rintro e w63 ⟨v63, rfl, ⟨kE, kF, rfl, aes, aqO⟩, apL⟩)
       exact hK.out _ _ (.agg #[.bool kE.b, .slice kE.a kE.n kE.c, .slice kE.d kE.m kE.e, .bool kF.b, .slice kF.a kF.n kF.c, .slice kF.d kF.m kF.e]) (by simp only [aQ, aT, List.foldl_cons, List.foldl_nil, ag, e5]) ⟨kE, kF, rfl, aes, aqO⟩ (fun h => absurd h (by decide)) apL
      ·
       refine dI.of rfl (fun f w' hb hp K hK => ?_)
       simp only [aQ, aT, List.foldl_cons, List.foldl_nil, ag]
       obtain e0 : f 61 = .agg #[.bool n1.b, .slice n1.a n1.n n1.c, .slice n1.d n1.m n1.e, .bool n2.b, .slice n2.a n2.n n2.c, .slice n2.d n2.m n2.e] := hp 0 (by decide)
       obtain ⟨kE, kF, e6, wK, Jt⟩ : ∃ kE kF : R3, f 67 = .agg #[.bool kE.b, .slice kE.a kE.n kE.c, .slice kE.d kE.m kE.e, .bool kF.b, .slice kF.a kF.n kF.c, .slice kF.d kF.m kF.e] ∧ Fr true w' kE.val (jQ lq hq pq pq) ∧ Fr true w' kF.val (jP lq hq pq pq) := hp 6 (by decide)
       have pJ := HS
       replace HS := ae (HS.out.below hb)
       replace HS := ae (HS.out.az wK)
       replace HS := ae (HS.out.az Jt)
       simp only [e0, e6]
       have a68 := HS.out.p 7 _ _ rfl
       have a69 := HS.out.p 6 _ _ rfl
       have a70 := HS.out.p 1 _ _ rfl
       have a71 := HS.out.p 0 _ _ rfl
       go_simp
       go_wp2_with (go_at_call 50; (with_reducible refine (NS (zi (jQ pa pb (r0 * (1 - c1)) (r1 * (1 - c0))) (jQ l0 l1 vv vv) (jQ m0 m1 uu uu) j) (zi (jP pa pb (r0 * (1 - c1)) (r1 * (1 - c0))) (jP l0 l1 vv vv) (jP m0 m1 uu uu) j) (jQ lq hq pq pq) (jP lq hq pq pq) _ _ _ (gB a68 a69) (gB a70 a71) (aj (TW.out j) (by omega)) (aj (HH3.out j) (by omega)) (aj (AP Slq.out Shq.out Spq.out Spq.out (Nat.le_refl _)) (by omega)) (aj (AO Slq.out Shq.out Spq.out Spq.out (Nat.le_refl _)) (by omega))).mono ?_); rintro e w64 ⟨v64, rfl, ⟨mD, mF, rfl, hv64, hw64⟩, hb64⟩)
       exact hK.out _ _ (.agg #[.bool mD.b, .slice mD.a mD.n mD.c, .slice mD.d mD.m mD.e, .bool mF.b, .slice mF.a mF.n mF.c, .slice mF.d mF.m mF.e]) (by simp only [aQ, aT, List.foldl_cons, List.foldl_nil, ag, e0, e6]) ⟨mD, mF, rfl, hv64, hw64⟩ (fun h => absurd h (by decide)) hb64
      ·
       intro f acy hb hp hd
       obtain e0 : f 61 = .agg #[.bool n1.b, .slice n1.a n1.n n1.c, .slice n1.d n1.m n1.e, .bool n2.b, .slice n2.a n2.n n2.c, .slice n2.d n2.m n2.e] := hp 0 (by decide)
       obtain e5 : f 66 = .agg #[.bool P0.b, .slice P0.a P0.n P0.c, .slice P0.d P0.m P0.e, .bool P0.b, .slice P0.a P0.n P0.c, .slice P0.d P0.m P0.e] := hp 5 (by decide)
       obtain ⟨kE, kF, e6, wK, Jt⟩ : ∃ kE kF : R3, f 67 = .agg #[.bool kE.b, .slice kE.a kE.n kE.c, .slice kE.d kE.m kE.e, .bool kF.b, .slice kF.a kF.n kF.c, .slice kF.d kF.m kF.e] ∧ Fr true acy kE.val (jQ lq hq pq pq) ∧ Fr true acy kF.val (jP lq hq pq pq) := hp 6 (by decide)
       obtain ⟨mD, mF, e7, Y8, apE⟩ : ∃ mD mF : R3, f 68 = .agg #[.bool mD.b, .slice mD.a mD.n mD.c, .slice mD.d mD.m mD.e, .bool mF.b, .slice mF.a mF.n mF.c, .slice mF.d mF.m mF.e] ∧ Fr true acy mD.val ((zi (jQ pa pb (r0 * (1 - c1)) (r1 * (1 - c0))) (jQ l0 l1 vv vv) (jQ m0 m1 uu uu) j) + (jQ lq hq pq pq)) ∧ Fr true acy mF.val ((zi (jP pa pb (r0 * (1 - c1)) (r1 * (1 - c0))) (jP l0 l1 vv vv) (jP m0 m1 uu uu) j) + (jP lq hq pq pq)) := hp 7 (by decide)
       replace hh := Sx.below hh hb
       have hlt := HS.out.lt
       replace HS := ae (HS.out.below hb)
       replace nI := ae (jy nI.out hb)
       have nJ := HG.out.row
       replace HG := ae (HG.out.below hb)
       replace HS := ae (HS.out.az wK)
       replace HS := ae (HS.out.az Jt)
       replace HS := ae (HS.out.az Y8)
       replace HS := ae (HS.out.az apE)
       simp only [aQ, aT, List.foldl_cons, List.foldl_nil, ag, e0, e5, e6, e7]
       clear hp hd hb hlt e0 e5 e6 e7 nJ
       refine rdA (i := 8) rfl (fun K hK => ?_)
       obtain ⟨DC, DF, DI, DJ, DK, DL, Ls, Lt, Lu, LC, LD, LG⟩ := dO (x := n1) (y := n2) (HS.out.at 1 _ _ _ rfl)
       have X_ := ai (HS.out.at 1 _ _ _ rfl)
       go_simp
       refine hK.out _ _ ((((HS.out).gp 1 n1 n2 mD mF rfl)).erase 1) (fun hh => ?_)
       clear hK K DC DF DI DJ DK DL Ls Lt Lu LC LD LG X_
       try simp only [ag]
       generalize MI : ((((((acy).setCell _ _).setCell _ _).setCell _ _).setCell _ _).setCell _ _).setCell _ _ = W72 at *
       replace nI := ae (wX (xW nI.out (HS.out.at 1 _ _ _ rfl) (by decide)) MI)
       replace HG := ae (((HG.out).gp (HS.out) 1 n1 n2 mD mF rfl).to MI (by (try simp only [ig, ik]); rfl))
       replace HS := ae (((HS.out).gp 1 n1 n2 mD mF rfl).to MI (by (try simp only [ig, ik]); rfl))
       clear MI
       refine wpAnyH_done (by kernel_rfl) ?_ _
       gi_wp2_with fail
       exact ⟨⟨j + 1, z55, mD, mF, by have := gq.out; omega, by go_num, ae ((((((((((((((((((((((((((((((HS.out).erase 0).az (HS.out.p 35 _ _ rfl)).az (HS.out.p 34 _ _ rfl)).az (HS.out.p 33 _ _ rfl)).az (HS.out.p 32 _ _ rfl)).az (HS.out.p 31 _ _ rfl)).az (HS.out.p 30 _ _ rfl)).az (HS.out.p 29 _ _ rfl)).az (HS.out.p 28 _ _ rfl)).az (HS.out.p 27 _ _ rfl)).az (HS.out.p 26 _ _ rfl)).az (HS.out.p 25 _ _ rfl)).az (HS.out.p 24 _ _ rfl)).az (HS.out.p 23 _ _ rfl)).az (HS.out.p 22 _ _ rfl)).az (HS.out.p 21 _ _ rfl)).az (HS.out.p 20 _ _ rfl)).az (HS.out.p 19 _ _ rfl)).az (HS.out.p 18 _ _ rfl)).az (HS.out.p 17 _ _ rfl)).az (HS.out.p 16 _ _ rfl)).az (HS.out.p 15 _ _ rfl)).az (HS.out.p 14 _ _ rfl)).az (HS.out.p 13 _ _ rfl)).az (HS.out.p 12 _ _ rfl)).az (HS.out.p 11 _ _ rfl)).az (by rw [EQ0.out]; exact (HS.out.p 4 _ _ rfl))).az (by rw [EQ1.out]; exact (HS.out.p 1 _ _ rfl))).az (by rw [EQ2.out]; exact (HS.out.p 0 _ _ rfl))), ae (HG.out.mono (fun b hb => ⟨b, by simp only [List.mem_cons] at hb ⊢; first | exact hb | (repeat (first | exact hb | right)), rfl⟩)), nI⟩, bU gq.out⟩
     ·
      obtain rfl : j = 2 := by omega
      rw [show ((2 : Nat) : Int) = (2 : Int) from rfl]
      gi_wp2_with fail
      refine gm (S := (fun w' => Sx w w' [(jH, n0.arr, 40), (jB, aY jm jo, 43), (w3.heap.size, aY Ox Oy, 43), (Bs, #[.bool yv.b, .slice yv.a yv.n yv.c, .slice yv.d yv.m yv.e, .bool yl.b, .slice yl.a yl.n yl.c, .slice yl.d yl.m yl.e, .bool yk.b, .slice yk.a yk.n yk.c, .slice yk.d yk.m yk.e, .bool yw.b, .slice yw.a yw.n yw.c, .slice yw.d yw.m yw.e, .bool ym.b, .slice ym.a ym.n ym.c, .slice ym.d ym.m ym.e, .bool yn.b, .slice yn.a yn.n yn.c, .slice yn.d yn.m yn.e], 102), (Bc, #[.bool y0.b, .slice y0.a y0.n y0.c, .slice y0.d y0.m y0.e, .bool y1.b, .slice y1.a y1.n y1.c, .slice y1.d y1.m y1.e, .bool y2.b, .slice y2.a y2.n y2.c, .slice y2.d y2.m y2.e, .bool y3.b, .slice y3.a y3.n y3.c, .slice y3.d y3.m y3.e, .bool y4.b, .slice y4.a y4.n y4.c, .slice y4.d y4.m y4.e, .bool y5.b, .slice y5.a y5.n y5.c, .slice y5.d y5.m y5.e, .bool y6.b, .slice y6.a y6.n y6.c, .slice y6.d y6.m y6.e], 46), (Bl, #[.slice (some ⟨bk, off, none⟩) ls.length cap], 31), (Ba, xa.arr, 40), (Be, xe.arr, 40), (w.heap.size + 4, #[.slice sa sn sc], 31), (w.heap.size + 3, #[.int .i64 z], 3), (w.heap.size + 2, xe.arr, 40), (w.heap.size + 1, xa.arr, 40), (w.heap.size, #[.slice Ib es.length ct], 26)] [])) (by kernel_rfl) (by kernel_rfl) (by exact fun _ _ h => h) ((HS.out.drew).erase 0) (fun hh => ?_)
      replace HS := ae HS.out.drew
      replace HG := ae (HG.out.below (Below.refl _ _).drew)
      replace nI := ae (jy nI.out (Below.refl _ _).drew)
      have BM := ae HS.out.bel.size
      refine dF (i := 1) (v := ?au3) rfl ?aqc ?auu
      case aqc => intro u aH; go_simp <;> with_reducible rfl
      try simp only [ag]
      refine dF (i := 2) (v := ?au4) rfl ?aqd ?auv
      case aqd => intro u aH; (try dsimp only at aH); have dh := (aH.at 4 _ _ _ rfl); have aaG := af dh 0 (.bool y0.b) rfl; have aaH := af dh 1 (.slice y0.a y0.n y0.c) rfl; have aaI := af dh 2 (.slice y0.d y0.m y0.e) rfl; have aaJ := af dh 3 (.bool y1.b) rfl; have aaK := af dh 4 (.slice y1.a y1.n y1.c) rfl; have aaL := af dh 5 (.slice y1.d y1.m y1.e) rfl; have aaM := af dh 6 (.bool y2.b) rfl; have aaN := af dh 7 (.slice y2.a y2.n y2.c) rfl; have aaO := af dh 8 (.slice y2.d y2.m y2.e) rfl; have aaP := af dh 9 (.bool y3.b) rfl; have QE := af dh 10 (.slice y3.a y3.n y3.c) rfl; have QF := af dh 11 (.slice y3.d y3.m y3.e) rfl; have QG := af dh 12 (.bool y4.b) rfl; have QH := af dh 13 (.slice y4.a y4.n y4.c) rfl; have QI := af dh 14 (.slice y4.d y4.m y4.e) rfl; have QJ := af dh 15 (.bool y5.b) rfl; have QK := af dh 16 (.slice y5.a y5.n y5.c) rfl; have QL := af dh 17 (.slice y5.d y5.m y5.e) rfl; have QM := af dh 18 (.bool y6.b) rfl; have QN := af dh 19 (.slice y6.a y6.n y6.c) rfl; have QO := af dh 20 (.slice y6.d y6.m y6.e) rfl; clear dh; clear aH; go_simp <;> with_reducible rfl
      try simp only [ag]
      refine dF (i := 3) (v := ?au5) rfl ?aqe ?auw
      case aqe => intro u aH; (try dsimp only at aH); obtain ⟨ara, arb, arc, _⟩ := eu (x := n0) (aH.at 0 _ _ _ rfl); clear aH; go_simp <;> with_reducible rfl
      try simp only [ag]
      refine dY [0, 4, 5, 6] [0, 4, 5, 6] [] [70, 74, 75, 76] #[true, true, true, true, true, true, true, false] 1 [(0, 70), (4, 74), (5, 75), (6, 76)] [(0, []), (4, []), (5, [4]), (6, [0, 5])] [] [(0, fun v w => v = .agg #[.bool n1.b, .slice n1.a n1.n n1.c, .slice n1.d n1.m n1.e, .bool n2.b, .slice n2.a n2.n n2.c, .slice n2.d n2.m n2.e]), (4, fun v w => v = .agg #[.bool n0.b, .slice n0.a n0.n n0.c, .slice n0.d n0.m n0.e, .bool n0.b, .slice n0.a n0.n n0.c, .slice n0.d n0.m n0.e]), (5, fun v w => ∃ jX jY : R3, v = .agg #[.bool jX.b, .slice jX.a jX.n jX.c, .slice jX.d jX.m jX.e, .bool jY.b, .slice jY.a jY.n jY.c, .slice jY.d jY.m jY.e] ∧ Fr true w jX.val (jQ t0 t1 (nP vv uu 2) (nP vv uu 2)) ∧ Fr true w jY.val (jP t0 t1 (nP vv uu 2) (nP vv uu 2))), (6, fun v w => ∃ kY kZ : R3, v = .agg #[.bool kY.b, .slice kY.a kY.n kY.c, .slice kY.d kY.m kY.e, .bool kZ.b, .slice kZ.a kZ.n kZ.c, .slice kZ.d kZ.m kZ.e] ∧ Fr true w kY.val ((zi (jQ pa pb (r0 * (1 - c1)) (r1 * (1 - c0))) (jQ l0 l1 vv vv) (jQ m0 m1 uu uu) 2) + (jQ t0 t1 (nP vv uu 2) (nP vv uu 2))) ∧ Fr true w kZ.val ((zi (jP pa pb (r0 * (1 - c1)) (r1 * (1 - c0))) (jP l0 l1 vv vv) (jP m0 m1 uu uu) 2) + (jP t0 t1 (nP vv uu 2) (nP vv uu 2))))]
       rfl (by kernel_rfl) (by decide) rfl ⟨(fun v w w' hb e => e), ⟨(fun v w w' hb e => e), ⟨(fun v w w' hb ⟨z0, z1, e, h0, h1⟩ => ⟨z0, z1, e, Fr.below h0 hb, Fr.below h1 hb⟩), ⟨(fun v w w' hb ⟨z0, z1, e, h0, h1⟩ => ⟨z0, z1, e, Fr.below h0 hb, Fr.below h1 hb⟩), trivial⟩⟩⟩⟩ trivial (fun w' hb => Sx.below hh hb) ⟨?_, ?_, ?_, ?_, trivial⟩ trivial (by decide) ?_
      ·
       refine dI.of rfl (fun f w' hb hp K hK => ?_)
       simp only [aQ, aT, List.foldl_cons, List.foldl_nil, ag]
       have pJ := HS
       replace HS := ae (HS.out.below hb)
       obtain ⟨DC, DF, DI, DJ, DK, DL, _⟩ := dO (x := n1) (y := n2) (HS.out.at 0 _ _ _ rfl)
       go_simp
       exact hK.out _ _ (.agg #[.bool n1.b, .slice n1.a n1.n n1.c, .slice n1.d n1.m n1.e, .bool n2.b, .slice n2.a n2.n n2.c, .slice n2.d n2.m n2.e]) (by simp only [aQ, aT, List.foldl_cons, List.foldl_nil, ag]) rfl (fun h => absurd h (by decide)) (Below.refl _ _)
      ·
       refine dI.of rfl (fun f w' hb hp K hK => ?_)
       simp only [aQ, aT, List.foldl_cons, List.foldl_nil, ag]
       have pJ := HS
       replace HS := ae (HS.out.below hb)
       go_simp
       go_wp2_with (go_at_call 8; (with_reducible refine (x8 n0 _).mono ?_); rintro e w77 ⟨rfl, apM⟩)
       exact hK.out _ _ (.agg #[.bool n0.b, .slice n0.a n0.n n0.c, .slice n0.d n0.m n0.e, .bool n0.b, .slice n0.a n0.n n0.c, .slice n0.d n0.m n0.e]) (by simp only [aQ, aT, List.foldl_cons, List.foldl_nil, ag]) rfl (fun h => absurd h (by decide)) apM
      ·
       refine dI.of rfl (fun f w' hb hp K hK => ?_)
       simp only [aQ, aT, List.foldl_cons, List.foldl_nil, ag]
       obtain e4 : f 74 = .agg #[.bool n0.b, .slice n0.a n0.n n0.c, .slice n0.d n0.m n0.e, .bool n0.b, .slice n0.a n0.n n0.c, .slice n0.d n0.m n0.e] := hp 4 (by decide)
       have pJ := HS
       replace HS := ae (HS.out.below hb)
       simp only [e4]
       have a80 := HS.out.p 24 _ _ rfl
       have a81 := HS.out.p 23 _ _ rfl
       have a82 := HS.out.p 2 _ _ rfl
       go_simp
       go_wp2_with (go_at_call 49; (with_reducible refine (AU t0 t1 (nP vv uu 2) (nP vv uu 2) _ _ _ (gB a80 a81) (gB a82 a82) (aj St0.out (by omega)) (aj St1.out (by omega)) (aj (Xa.out 2) (by omega)) (aj (Xa.out 2) (by omega))).mono ?_); rintro e w78 ⟨v78, rfl, ⟨jX, jY, rfl, aqI, aqP⟩, apN⟩)
       exact hK.out _ _ (.agg #[.bool jX.b, .slice jX.a jX.n jX.c, .slice jX.d jX.m jX.e, .bool jY.b, .slice jY.a jY.n jY.c, .slice jY.d jY.m jY.e]) (by simp only [aQ, aT, List.foldl_cons, List.foldl_nil, ag, e4]) ⟨jX, jY, rfl, aqI, aqP⟩ (fun h => absurd h (by decide)) apN
      ·
       refine dI.of rfl (fun f w' hb hp K hK => ?_)
       simp only [aQ, aT, List.foldl_cons, List.foldl_nil, ag]
       obtain e0 : f 70 = .agg #[.bool n1.b, .slice n1.a n1.n n1.c, .slice n1.d n1.m n1.e, .bool n2.b, .slice n2.a n2.n n2.c, .slice n2.d n2.m n2.e] := hp 0 (by decide)
       obtain ⟨jX, jY, e5, EC, PE⟩ : ∃ jX jY : R3, f 75 = .agg #[.bool jX.b, .slice jX.a jX.n jX.c, .slice jX.d jX.m jX.e, .bool jY.b, .slice jY.a jY.n jY.c, .slice jY.d jY.m jY.e] ∧ Fr true w' jX.val (jQ t0 t1 (nP vv uu 2) (nP vv uu 2)) ∧ Fr true w' jY.val (jP t0 t1 (nP vv uu 2) (nP vv uu 2)) := hp 5 (by decide)
       have pJ := HS
       replace HS := ae (HS.out.below hb)
       replace HS := ae (HS.out.az EC)
       replace HS := ae (HS.out.az PE)
       simp only [e0, e5]
       have a83 := HS.out.p 3 _ _ rfl
       have a84 := HS.out.p 2 _ _ rfl
       have a85 := HS.out.p 1 _ _ rfl
       have a86 := HS.out.p 0 _ _ rfl
       go_simp
       go_wp2_with (go_at_call 50; (with_reducible refine (NS (zi (jQ pa pb (r0 * (1 - c1)) (r1 * (1 - c0))) (jQ l0 l1 vv vv) (jQ m0 m1 uu uu) 2) (zi (jP pa pb (r0 * (1 - c1)) (r1 * (1 - c0))) (jP l0 l1 vv vv) (jP m0 m1 uu uu) 2) (jQ t0 t1 (nP vv uu 2) (nP vv uu 2)) (jP t0 t1 (nP vv uu 2) (nP vv uu 2)) _ _ _ (gB a83 a84) (gB a85 a86) (aj (TW.out 2) (by omega)) (aj (HH3.out 2) (by omega)) (aj (AP St0.out St1.out (Xa.out 2) (Xa.out 2) (Nat.le_refl _)) (by omega)) (aj (AO St0.out St1.out (Xa.out 2) (Xa.out 2) (Nat.le_refl _)) (by omega))).mono ?_); rintro e w79 ⟨v79, rfl, ⟨kY, kZ, rfl, aqJ, aqQ⟩, apO⟩)
       exact hK.out _ _ (.agg #[.bool kY.b, .slice kY.a kY.n kY.c, .slice kY.d kY.m kY.e, .bool kZ.b, .slice kZ.a kZ.n kZ.c, .slice kZ.d kZ.m kZ.e]) (by simp only [aQ, aT, List.foldl_cons, List.foldl_nil, ag, e0, e5]) ⟨kY, kZ, rfl, aqJ, aqQ⟩ (fun h => absurd h (by decide)) apO
      ·
       intro f acz hb hp hd
       obtain e0 : f 70 = .agg #[.bool n1.b, .slice n1.a n1.n n1.c, .slice n1.d n1.m n1.e, .bool n2.b, .slice n2.a n2.n n2.c, .slice n2.d n2.m n2.e] := hp 0 (by decide)
       obtain e4 : f 74 = .agg #[.bool n0.b, .slice n0.a n0.n n0.c, .slice n0.d n0.m n0.e, .bool n0.b, .slice n0.a n0.n n0.c, .slice n0.d n0.m n0.e] := hp 4 (by decide)
       obtain ⟨jX, jY, e5, EC, PE⟩ : ∃ jX jY : R3, f 75 = .agg #[.bool jX.b, .slice jX.a jX.n jX.c, .slice jX.d jX.m jX.e, .bool jY.b, .slice jY.a jY.n jY.c, .slice jY.d jY.m jY.e] ∧ Fr true acz jX.val (jQ t0 t1 (nP vv uu 2) (nP vv uu 2)) ∧ Fr true acz jY.val (jP t0 t1 (nP vv uu 2) (nP vv uu 2)) := hp 5 (by decide)
       obtain ⟨kY, kZ, e6, wK, Jt⟩ : ∃ kY kZ : R3, f 76 = .agg #[.bool kY.b, .slice kY.a kY.n kY.c, .slice kY.d kY.m kY.e, .bool kZ.b, .slice kZ.a kZ.n kZ.c, .slice kZ.d kZ.m kZ.e] ∧ Fr true acz kY.val ((zi (jQ pa pb (r0 * (1 - c1)) (r1 * (1 - c0))) (jQ l0 l1 vv vv) (jQ m0 m1 uu uu) 2) + (jQ t0 t1 (nP vv uu 2) (nP vv uu 2))) ∧ Fr true acz kZ.val ((zi (jP pa pb (r0 * (1 - c1)) (r1 * (1 - c0))) (jP l0 l1 vv vv) (jP m0 m1 uu uu) 2) + (jP t0 t1 (nP vv uu 2) (nP vv uu 2))) := hp 6 (by decide)
       replace hh := Sx.below hh hb
       have hlt := HS.out.lt
       replace HS := ae (HS.out.below hb)
       replace nI := ae (jy nI.out hb)
       have nJ := HG.out.row
       replace HG := ae (HG.out.below hb)
       replace HS := ae (HS.out.az EC)
       replace HS := ae (HS.out.az PE)
       replace HS := ae (HS.out.az wK)
       replace HS := ae (HS.out.az Jt)
       simp only [aQ, aT, List.foldl_cons, List.foldl_nil, ag, e0, e4, e5, e6]
       clear hp hd hb hlt e0 e4 e5 e6 nJ
       refine rdA (i := 7) rfl (fun K hK => ?_)
       obtain ⟨DC, DF, DI, DJ, DK, DL, Ls, Lt, Lu, LC, LD, LG⟩ := dO (x := n1) (y := n2) (HS.out.at 0 _ _ _ rfl)
       have X_ := ai (HS.out.at 0 _ _ _ rfl)
       go_simp
       refine hK.out _ _ ((((HS.out).gp 0 n1 n2 kY kZ rfl)).erase 0) (fun hh => ?_)
       clear hK K DC DF DI DJ DK DL Ls Lt Lu LC LD LG X_
       try simp only [ag]
       generalize aef : ((((((acz).setCell _ _).setCell _ _).setCell _ _).setCell _ _).setCell _ _).setCell _ _ = W87 at *
       replace nI := ae (wX (xW nI.out (HS.out.at 0 _ _ _ rfl) (by decide)) aef)
       replace HG := ae (((HG.out).gp (HS.out) 0 n1 n2 kY kZ rfl).to aef (by (try simp only [ig, ik]); rfl))
       replace HS := ae (((HS.out).gp 0 n1 n2 kY kZ rfl).to aef (by (try simp only [ig, ik]); rfl))
       clear aef
       refine wpAnyH_done (by kernel_rfl) ?_ _
       gi_wp2_with fail
       refine gm (S := (fun w' => Sx w w' [(kM, aY kY kZ, 43), (jH, n0.arr, 40), (jB, aY jm jo, 43), (w3.heap.size, aY Ox Oy, 43), (Bs, #[.bool yv.b, .slice yv.a yv.n yv.c, .slice yv.d yv.m yv.e, .bool yl.b, .slice yl.a yl.n yl.c, .slice yl.d yl.m yl.e, .bool yk.b, .slice yk.a yk.n yk.c, .slice yk.d yk.m yk.e, .bool yw.b, .slice yw.a yw.n yw.c, .slice yw.d yw.m yw.e, .bool ym.b, .slice ym.a ym.n ym.c, .slice ym.d ym.m ym.e, .bool yn.b, .slice yn.a yn.n yn.c, .slice yn.d yn.m yn.e], 102), (Bl, #[.slice (some ⟨bk, off, none⟩) ls.length cap], 31), (Ba, xa.arr, 40), (Be, xe.arr, 40), (w.heap.size + 4, #[.slice sa sn sc], 31), (w.heap.size + 3, #[.int .i64 z], 3), (w.heap.size + 2, xe.arr, 40), (w.heap.size + 1, xa.arr, 40), (w.heap.size, #[.slice Ib es.length ct], 26)] [])) (by kernel_rfl) (by kernel_rfl) (by exact fun _ _ h => h) ((HS.out.drew).erase 5) (fun hh => ?_)
       replace HS := ae HS.out.drew
       replace HG := ae (HG.out.below (Below.refl _ _).drew)
       replace nI := ae (jy nI.out (Below.refl _ _).drew)
       have BM := ae HS.out.bel.size
       refine dF (i := 0) (v := ?au_) rfl ?aqk ?auD
       case aqk => intro u aH; go_simp <;> with_reducible rfl
       try simp only [ag]
       refine dF (i := 2) (v := ?ava) rfl ?aql ?auE
       case aql => intro u aH; (try dsimp only at aH); obtain ⟨aaw, aax, aay, aaz, aaA, aaB, _⟩ := dO (x := Ox) (y := Oy) (aH.at 3 _ _ _ rfl); clear aH; go_simp <;> with_reducible rfl
       try simp only [ag]
       refine dF (i := 3) (v := ?asw) rfl ?ajn ?arR
       case ajn => intro u aH; (try dsimp only at aH); have zU := (aH.at 9 _ _ _ rfl); have agD := af zU 0 (.int .i64 z) rfl; clear zU; clear aH; go_simp <;> with_reducible rfl
       try simp only [ag]
       refine dF (i := 5) (v := ?asx) rfl ?ajo ?arS
       case ajo => intro u aH; (try dsimp only at aH); obtain ⟨ard, arf, arh, ari, arj, ark, _⟩ := dO (x := kY) (y := kZ) (aH.at 0 _ _ _ rfl); clear aH; go_simp <;> with_reducible rfl
       try simp only [ag]
       refine dF (i := 6) (v := ?asy) rfl ?ajp ?arT
       case ajp => intro u aH; (try dsimp only at aH); have zU := (aH.at 9 _ _ _ rfl); have agD := af zU 0 (.int .i64 z) rfl; clear zU; clear aH; go_simp <;> with_reducible rfl
       try simp only [ag]
       refine rdA (i := 1) rfl (fun K hK => ?_)
       have eQ := (HS.out.at 5 _ _ _ rfl)
       have OQ := af eQ 0 (.bool y0.b) rfl
       have OT := af eQ 1 (.slice y0.a y0.n y0.c) rfl
       have OU := af eQ 2 (.slice y0.d y0.m y0.e) rfl
       have OV := af eQ 3 (.bool y1.b) rfl
       have OW := af eQ 4 (.slice y1.a y1.n y1.c) rfl
       have OX := af eQ 5 (.slice y1.d y1.m y1.e) rfl
       have OY := af eQ 6 (.bool y2.b) rfl
       have OZ := af eQ 7 (.slice y2.a y2.n y2.c) rfl
       have O0 := af eQ 8 (.slice y2.d y2.m y2.e) rfl
       have O1 := af eQ 9 (.bool y3.b) rfl
       have DR := af eQ 10 (.slice y3.a y3.n y3.c) rfl
       have DT := af eQ 11 (.slice y3.d y3.m y3.e) rfl
       have DU := af eQ 12 (.bool y4.b) rfl
       have DV := af eQ 13 (.slice y4.a y4.n y4.c) rfl
       have DW := af eQ 14 (.slice y4.d y4.m y4.e) rfl
       have DX := af eQ 15 (.bool y5.b) rfl
       have DY := af eQ 16 (.slice y5.a y5.n y5.c) rfl
       have DZ := af eQ 17 (.slice y5.d y5.m y5.e) rfl
       have D7 := af eQ 18 (.bool y6.b) rfl
       have D8 := af eQ 19 (.slice y6.a y6.n y6.c) rfl
       have D9 := af eQ 20 (.slice y6.d y6.m y6.e) rfl
       clear eQ
       go_simp
       refine hK.out _ _ hh (fun hh => ?_)
       clear hK K OQ OT OU OV OW OX OY OZ O0 O1 DR DT DU DV DW DX DY DZ D7 D8 D9
       try simp only [ag]
       refine rdA (i := 4) rfl (fun K hK => ?_)
       go_simp
       have a95 := HS.out.p 26 _ _ rfl
       have a96 := HS.out.p 25 _ _ rfl
       have a97 := HS.out.p 18 _ _ rfl
       have a98 := HS.out.p 17 _ _ rfl
       go_wp2_with (go_at_call 29; (with_reducible refine (aoR.out _ _ _ (gB a95 a96) (gB a97 a98)).mono ?_); rintro e w94 ⟨v94, rfl, ⟨bY, bZ, rfl, anj, anr⟩, Zq⟩)
       refine hK.out _ _ (Sx.below hh Zq) (fun hh => ?_)
       clear hK K
       try simp only [ag]
       replace HS := ae (HS.out.below Zq)
       replace HG := ae (HG.out.below Zq)
       replace nI := ae (jy nI.out Zq)
       clear Zq a95 a96 a97 a98
       replace HS := ae (HS.out.az anj)
       clear anj
       replace HS := ae (HS.out.az anr)
       clear anr
       refine dF (i := 8) (v := ?avf) rfl ?aqr ?auJ
       case aqr => intro u aH; go_simp <;> with_reducible rfl
       try simp only [ag]
       refine rdA (i := 7) rfl (fun K hK => ?_)
       go_simp
       have alh := HS.out.p 3 _ _ rfl
       have XA := HS.out.p 2 _ _ rfl
       go_wp2_with (go_at_call 13; (with_reducible refine (zh ((zi (jQ pa pb (r0 * (1 - c1)) (r1 * (1 - c0))) (jQ l0 l1 vv vv) (jQ m0 m1 uu uu) 2) + (jQ t0 t1 (nP vv uu 2) (nP vv uu 2))) ((zi (jP pa pb (r0 * (1 - c1)) (r1 * (1 - c0))) (jP l0 l1 vv vv) (jP m0 m1 uu uu) 2) + (jP t0 t1 (nP vv uu 2) (nP vv uu 2))) k HK.out z HZK.out _ _ (gB alh XA) (aj (lN (TW.out 2) (AP St0.out St1.out (Xa.out 2) (Xa.out 2) (Nat.le_refl _))) (by omega)) (aj (yj (lN (HH3.out 2) (AO St0.out St1.out (Xa.out 2) (Xa.out 2) (Nat.le_refl _)))) (by omega))).mono ?_); rintro e asz ⟨auK, rfl, ⟨a_, bf, rfl, agt, agu⟩, MJ⟩)
       refine hK.out _ _ (Sx.below hh MJ) (fun hh => ?_)
       clear hK K
       try simp only [ag]
       replace HS := ae (HS.out.below MJ)
       replace HG := ae (HG.out.below MJ)
       replace nI := ae (jy nI.out MJ)
       clear MJ alh XA
       replace HS := ae (HS.out.az agt)
       clear agt
       replace HS := ae (HS.out.az agu)
       clear agu
       refine rdA (i := 9) rfl (fun K hK => ?_)
       have eQ := (HS.out.at 5 _ _ _ rfl)
       have OQ := af eQ 0 (.bool y0.b) rfl
       have OT := af eQ 1 (.slice y0.a y0.n y0.c) rfl
       have OU := af eQ 2 (.slice y0.d y0.m y0.e) rfl
       have OV := af eQ 3 (.bool y1.b) rfl
       have OW := af eQ 4 (.slice y1.a y1.n y1.c) rfl
       have OX := af eQ 5 (.slice y1.d y1.m y1.e) rfl
       have OY := af eQ 6 (.bool y2.b) rfl
       have OZ := af eQ 7 (.slice y2.a y2.n y2.c) rfl
       have O0 := af eQ 8 (.slice y2.d y2.m y2.e) rfl
       have O1 := af eQ 9 (.bool y3.b) rfl
       have DR := af eQ 10 (.slice y3.a y3.n y3.c) rfl
       have DT := af eQ 11 (.slice y3.d y3.m y3.e) rfl
       have DU := af eQ 12 (.bool y4.b) rfl
       have DV := af eQ 13 (.slice y4.a y4.n y4.c) rfl
       have DW := af eQ 14 (.slice y4.d y4.m y4.e) rfl
       have DX := af eQ 15 (.bool y5.b) rfl
       have DY := af eQ 16 (.slice y5.a y5.n y5.c) rfl
       have DZ := af eQ 17 (.slice y5.d y5.m y5.e) rfl
       have D7 := af eQ 18 (.bool y6.b) rfl
       have D8 := af eQ 19 (.slice y6.a y6.n y6.c) rfl
       have D9 := af eQ 20 (.slice y6.d y6.m y6.e) rfl
       have ah2 := ah eQ 0
       have ah3 := ah eQ 1
       have ah4 := ah eQ 2
       have ah5 := ah eQ 3
       have ah6 := ah eQ 4
       have ah7 := ah eQ 5
       have ah8 := ah eQ 6
       have ah9 := ah eQ 7
       have ah' := ah eQ 8
       have ah_ := ah eQ 9
       have Yk := ah eQ 10
       have Yl := ah eQ 11
       have Ym := ah eQ 12
       have Yn := ah eQ 13
       have Yo := ah eQ 14
       have Yp := ah eQ 15
       have Yq := ah eQ 16
       have Yr := ah eQ 17
       have Yt := ah eQ 18
       have Yu := ah eQ 19
       have Yv := ah eQ 20
       have b8l := ai eQ
       clear eQ
       go_simp
       refine hK.out _ _ ((((HS.out).nC 5 y0 y1 y2 y3 y4 y5 y6 bY bZ rfl)).erase 5) (fun hh => ?_)
       clear hK K OQ OT OU OV OW OX OY OZ O0 O1 DR DT DU DV DW DX DY DZ D7 D8 D9 ah2 ah3 ah4 ah5 ah6 ah7 ah8 ah9 ah' ah_ Yk Yl Ym Yn Yo Yp Yq Yr Yt Yu Yv b8l
       try simp only [ag]
       generalize SG : ((((((asz).setCell _ _).setCell _ _).setCell _ _).setCell _ _).setCell _ _).setCell _ _ = ao4 at *
       replace nI := ae (wX (xW nI.out (HS.out.at 5 _ _ _ rfl) (by decide)) SG)
       replace HG := ae (((HG.out).nC (HS.out) 5 y0 y1 y2 y3 y4 y5 y6 bY bZ rfl).to SG (by (try simp only [ig, ik]); rfl))
       replace HS := ae (((HS.out).nC 5 y0 y1 y2 y3 y4 y5 y6 bY bZ rfl).to SG (by (try simp only [ig, ik]); rfl))
       clear SG
       refine dF (i := 10) (v := ?aom) rfl ?ZC ?an7
       case ZC => intro u aH; go_simp <;> with_reducible rfl
       try simp only [ag]
       refine rdA (i := 11) rfl (fun K hK => ?_)
       have eQ := (HS.out.at 5 _ _ _ rfl)
       have OQ := af eQ 0 (.bool y0.b) rfl
       have OT := af eQ 1 (.slice y0.a y0.n y0.c) rfl
       have OU := af eQ 2 (.slice y0.d y0.m y0.e) rfl
       have OV := af eQ 3 (.bool y1.b) rfl
       have OW := af eQ 4 (.slice y1.a y1.n y1.c) rfl
       have OX := af eQ 5 (.slice y1.d y1.m y1.e) rfl
       have OY := af eQ 6 (.bool y2.b) rfl
       have OZ := af eQ 7 (.slice y2.a y2.n y2.c) rfl
       have O0 := af eQ 8 (.slice y2.d y2.m y2.e) rfl
       have O1 := af eQ 9 (.bool y3.b) rfl
       have DR := af eQ 10 (.slice y3.a y3.n y3.c) rfl
       have DT := af eQ 11 (.slice y3.d y3.m y3.e) rfl
       have DU := af eQ 12 (.bool y4.b) rfl
       have DV := af eQ 13 (.slice y4.a y4.n y4.c) rfl
       have DW := af eQ 14 (.slice y4.d y4.m y4.e) rfl
       have DX := af eQ 15 (.bool bY.b) rfl
       have DY := af eQ 16 (.slice bY.a bY.n bY.c) rfl
       have DZ := af eQ 17 (.slice bY.d bY.m bY.e) rfl
       have D7 := af eQ 18 (.bool bZ.b) rfl
       have D8 := af eQ 19 (.slice bZ.a bZ.n bZ.c) rfl
       have D9 := af eQ 20 (.slice bZ.d bZ.m bZ.e) rfl
       have ah2 := ah eQ 0
       have ah3 := ah eQ 1
       have ah4 := ah eQ 2
       have ah5 := ah eQ 3
       have ah6 := ah eQ 4
       have ah7 := ah eQ 5
       have ah8 := ah eQ 6
       have ah9 := ah eQ 7
       have ah' := ah eQ 8
       have ah_ := ah eQ 9
       have Yk := ah eQ 10
       have Yl := ah eQ 11
       have Ym := ah eQ 12
       have Yn := ah eQ 13
       have Yo := ah eQ 14
       have Yp := ah eQ 15
       have Yq := ah eQ 16
       have Yr := ah eQ 17
       have Yt := ah eQ 18
       have Yu := ah eQ 19
       have Yv := ah eQ 20
       have b8l := ai eQ
       clear eQ
       go_simp
       refine hK.out _ _ ((((HS.out).nz 5 y0 y1 y2 y3 y4 bY bZ a_ bf rfl)).erase 5) (fun hh => ?_)
       clear hK K OQ OT OU OV OW OX OY OZ O0 O1 DR DT DU DV DW DX DY DZ D7 D8 D9 ah2 ah3 ah4 ah5 ah6 ah7 ah8 ah9 ah' ah_ Yk Yl Ym Yn Yo Yp Yq Yr Yt Yu Yv b8l
       try simp only [ag]
       generalize SH : ((((((ao4).setCell _ _).setCell _ _).setCell _ _).setCell _ _).setCell _ _).setCell _ _ = Xy at *
       replace nI := ae (wX (xW nI.out (HS.out.at 5 _ _ _ rfl) (by decide)) SH)
       replace HG := ae (((HG.out).nz (HS.out) 5 y0 y1 y2 y3 y4 bY bZ a_ bf rfl).to SH (by (try simp only [ig, ik]); rfl))
       replace HS := ae (((HS.out).nz 5 y0 y1 y2 y3 y4 bY bZ a_ bf rfl).to SH (by (try simp only [ig, ik]); rfl))
       clear SH
       refine wpAnyH_done (by kernel_rfl) ?_ _
       go_wp2_with fail
       refine uM (by kernel_rfl) (by exact fun _ _ h => h) ?_
       have um := (HS.out.at 9 _ _ _ rfl)
       have BP := af um 0 (.slice sa sn sc) rfl
       have DN := ah um 0
       have Yj := ai um
       clear um
       have HKA := ae ((FV nI.out (.cells #[.bool y0.b, .slice y0.a y0.n y0.c, .slice y0.d y0.m y0.e, .bool y1.b, .slice y1.a y1.n y1.c, .slice y1.d y1.m y1.e, .bool y2.b, .slice y2.a y2.n y2.c, .slice y2.d y2.m y2.e, .bool a_.b, .slice a_.a a_.n a_.c, .slice a_.d a_.m a_.e, .bool bf.b, .slice bf.a bf.n bf.c, .slice bf.d bf.m bf.e, .bool bY.b, .slice bY.a bY.n bY.c, .slice bY.d bY.m bY.e, .bool bZ.b, .slice bZ.a bZ.n bZ.c, .slice bZ.d bZ.m bZ.e] 46)))
       have nO := ae ((HS.out).alloc (B := Xy.heap.size) (T := 46) (cs := #[.bool y0.b, .slice y0.a y0.n y0.c, .slice y0.d y0.m y0.e, .bool y1.b, .slice y1.a y1.n y1.c, .slice y1.d y1.m y1.e, .bool y2.b, .slice y2.a y2.n y2.c, .slice y2.d y2.m y2.e, .bool a_.b, .slice a_.a a_.n a_.c, .slice a_.d a_.m a_.e, .bool bf.b, .slice bf.a bf.n bf.c, .slice bf.d bf.m bf.e, .bool bY.b, .slice bY.a bY.n bY.c, .slice bY.d bY.m bY.e, .bool bZ.b, .slice bZ.a bZ.n bZ.c, .slice bZ.d bZ.m bZ.e]) rfl (by rfl))
       have CE := ae ((HG.out).alloc (B := Xy.heap.size) (T := 46) (cs := #[.bool y0.b, .slice y0.a y0.n y0.c, .slice y0.d y0.m y0.e, .bool y1.b, .slice y1.a y1.n y1.c, .slice y1.d y1.m y1.e, .bool y2.b, .slice y2.a y2.n y2.c, .slice y2.d y2.m y2.e, .bool a_.b, .slice a_.a a_.n a_.c, .slice a_.d a_.m a_.e, .bool bf.b, .slice bf.a bf.n bf.c, .slice bf.d bf.m bf.e, .bool bY.b, .slice bY.a bY.n bY.c, .slice bY.d bY.m bY.e, .bool bZ.b, .slice bZ.a bZ.n bZ.c, .slice bZ.d bZ.m bZ.e]) rfl)
       obtain ⟨anN, agl, agw, agn, agv⟩ := info_parts AB
       have ZX : ∀ u ∈ (Value.agg #[.bool false, .slice none 0 0, .slice none 0 0, .bool false, .slice none 0 0, .slice none 0 0, .bool false, .slice none 0 0, .slice none 0 0, .bool false, .slice none 0 0, .slice none 0 0, .bool false, .slice none 0 0, .slice none 0 0, .bool false, .slice none 0 0, .slice none 0 0, .bool false, .slice none 0 0, .slice none 0 0]).cells.toList, jh u := by
        intro u hu
        have hu : u ∈ [.bool false, .slice none 0 0, .slice none 0 0, .bool false, .slice none 0 0, .slice none 0 0, .bool false, .slice none 0 0, .slice none 0 0, .bool false, .slice none 0 0, .slice none 0 0, .bool false, .slice none 0 0, .slice none 0 0, .bool false, .slice none 0 0, .slice none 0 0, .bool false, .slice none 0 0, .slice none 0 0] := hu
        simp only [List.mem_cons, List.not_mem_nil, or_false] at hu
        rcases hu with rfl | rfl | rfl | rfl | rfl | rfl | rfl | rfl | rfl | rfl | rfl | rfl | rfl | rfl | rfl | rfl | rfl | rfl | rfl | rfl | rfl
        all_goals first | exact fA _ | exact dH _ _ _
       go_wp2_with (first | (refine wpList_load_mid rfl 46 (.tmp 12) rfl Bc 0 rfl [.bool y0.b, .slice y0.a y0.n y0.c, .slice y0.d y0.m y0.e, .bool y1.b, .slice y1.a y1.n y1.c, .slice y1.d y1.m y1.e, .bool y2.b, .slice y2.a y2.n y2.c, .slice y2.d y2.m y2.e, .bool a_.b, .slice a_.a a_.n a_.c, .slice a_.d a_.m a_.e, .bool bf.b, .slice bf.a bf.n bf.c, .slice bf.d bf.m bf.e, .bool bY.b, .slice bY.a bY.n bY.c, .slice bY.d bY.m bY.e, .bool bZ.b, .slice bZ.a bZ.n bZ.c, .slice bZ.d bZ.m bZ.e] _ (dK (HS.out.at 5 _ _ _ rfl)) Tryz.underlying46 rfl (by kernel_rfl) ?_) | (refine wpList_load_mid rfl 46 (.tmp 12) rfl Bc 0 rfl [.bool y0.b, .slice y0.a y0.n y0.c, .slice y0.d y0.m y0.e, .bool y1.b, .slice y1.a y1.n y1.c, .slice y1.d y1.m y1.e, .bool y2.b, .slice y2.a y2.n y2.c, .slice y2.d y2.m y2.e, .bool a_.b, .slice a_.a a_.n a_.c, .slice a_.d a_.m a_.e, .bool bf.b, .slice bf.a bf.n bf.c, .slice bf.d bf.m bf.e, .bool bY.b, .slice bY.a bY.n bY.c, .slice bY.d bY.m bY.e, .bool bZ.b, .slice bZ.a bZ.n bZ.c, .slice bZ.d bZ.m bZ.e] _ (fO (HS.out.at 5 _ _ _ rfl)) Tryz.underlying46 rfl (by kernel_rfl) ?_) | (refine wpList_load_mid rfl 46 (.tmp 12) rfl Bc 0 rfl [.bool y0.b, .slice y0.a y0.n y0.c, .slice y0.d y0.m y0.e, .bool y1.b, .slice y1.a y1.n y1.c, .slice y1.d y1.m y1.e, .bool y2.b, .slice y2.a y2.n y2.c, .slice y2.d y2.m y2.e, .bool a_.b, .slice a_.a a_.n a_.c, .slice a_.d a_.m a_.e, .bool bf.b, .slice bf.a bf.n bf.c, .slice bf.d bf.m bf.e, .bool bY.b, .slice bY.a bY.n bY.c, .slice bY.d bY.m bY.e, .bool bZ.b, .slice bZ.a bZ.n bZ.c, .slice bZ.d bZ.m bZ.e] _ (f_ (HS.out.at 5 _ _ _ rfl)) Tryz.underlying46 rfl (by kernel_rfl) ?_) | (at_builtin; refine dZ _ rfl (.tmp 87) (.tmp 89) 31 rfl w.heap.size 46 anN _ 21 392 Tryz.underlying31 agl agw agn agv rfl (by decide) ZX _ _ _ rfl (CE.out.row 0 _ rfl) ⟨Xy.heap.size, 0, none⟩ 1 1 [.bool y0.b, .slice y0.a y0.n y0.c, .slice y0.d y0.m y0.e, .bool y1.b, .slice y1.a y1.n y1.c, .slice y1.d y1.m y1.e, .bool y2.b, .slice y2.a y2.n y2.c, .slice y2.d y2.m y2.e, .bool a_.b, .slice a_.a a_.n a_.c, .slice a_.d a_.m a_.e, .bool bf.b, .slice bf.a bf.n bf.c, .slice bf.d bf.m bf.e, .bool bY.b, .slice bY.a bY.n bY.c, .slice bY.d bY.m bY.e, .bool bZ.b, .slice bZ.a bZ.n bZ.c, .slice bZ.d bZ.m bZ.e] rfl rfl (nX (nO.out.at 0 _ _ _ rfl)) (by simp [Value.oneCell']) (by intro u hu; simp only [List.mem_cons, List.not_mem_nil, or_false] at hu; rcases hu with rfl | rfl | rfl | rfl | rfl | rfl | rfl | rfl | rfl | rfl | rfl | rfl | rfl | rfl | rfl | rfl | rfl | rfl | rfl | rfl | rfl; all_goals first | exact fA _ | exact dH _ _ _) (by omega) (by dsimp only; unfold maxLen; omega) (by dsimp only; omega) nO.out.bel.size ?_))
       intro ad8 Jn afV MC PR PH
       have Y_ : dL afV w.heap.size 46 21 (.slice (some ⟨ad8, 0, none⟩) ((qs0).length + 1) Jn) ((qs0).length + 1) (xs ++ [.bool y0.b, .slice y0.a y0.n y0.c, .slice y0.d y0.m y0.e, .bool y1.b, .slice y1.a y1.n y1.c, .slice y1.d y1.m y1.e, .bool y2.b, .slice y2.a y2.n y2.c, .slice y2.d y2.m y2.e, .bool a_.b, .slice a_.a a_.n a_.c, .slice a_.d a_.m a_.e, .bool bf.b, .slice bf.a bf.n bf.c, .slice bf.d bf.m bf.e, .bool bY.b, .slice bY.a bY.n bY.c, .slice bY.d bY.m bY.e, .bool bZ.b, .slice bZ.a bZ.n bZ.c, .slice bZ.d bZ.m bZ.e]) := by first | exact MC
       clear MC
       have MC := Y_
       clear Y_
       obtain ⟨ZO, Zv⟩ := Sx.append nO.out CE.out 0 rfl [y0, y1, y2, a_, bf, bY, bZ] [p, pa, pb, (gK ((zi (jQ pa pb (r0 * (1 - c1)) (r1 * (1 - c0))) (jQ l0 l1 vv vv) (jQ m0 m1 uu uu) 2) + (jQ t0 t1 (nP vv uu 2) (nP vv uu 2))) k), (yu ((zi (jP pa pb (r0 * (1 - c1)) (r1 * (1 - c0))) (jP l0 l1 vv vv) (jP m0 m1 uu uu) 2) + (jP t0 t1 (nP vv uu 2) (nP vv uu 2))) k), (gK (c0 + r0 * (1 - c0)) k), (yu (c1 + r1 * (1 - c1)) k)] rfl (fun j x hx => by match j, hx with
         | 0, hx => (simp at hx; subst hx; exact (nO.out.p 35 _ _ rfl))
         | 1, hx => (simp at hx; subst hx; exact (nO.out.p 34 _ _ rfl))
         | 2, hx => (simp at hx; subst hx; exact (nO.out.p 33 _ _ rfl))
         | 3, hx => (simp at hx; subst hx; exact (nO.out.p 1 _ _ rfl))
         | 4, hx => (simp at hx; subst hx; exact (nO.out.p 0 _ _ rfl))
         | 5, hx => (simp at hx; subst hx; exact (nO.out.p 3 _ _ rfl))
         | 6, hx => (simp at hx; subst hx; exact (nO.out.p 2 _ _ rfl))
         | j + 7, hx => simp at hx) MC PR (by intro c hc; simp [Value.ownBlock] at hc; subst hc; first | exact PH | simpa using PH)
       replace nI := ae (aae HKA.out (CE.out.row 0 _ rfl) PR (by dsimp only; decide))
       clear HKA
       clear BP DN Yj
       clear nO CE
       replace HS : Hid (Sx w afV [(Xy.heap.size, #[.bool y0.b, .slice y0.a y0.n y0.c, .slice y0.d y0.m y0.e, .bool y1.b, .slice y1.a y1.n y1.c, .slice y1.d y1.m y1.e, .bool y2.b, .slice y2.a y2.n y2.c, .slice y2.d y2.m y2.e, .bool a_.b, .slice a_.a a_.n a_.c, .slice a_.d a_.m a_.e, .bool bf.b, .slice bf.a bf.n bf.c, .slice bf.d bf.m bf.e, .bool bY.b, .slice bY.a bY.n bY.c, .slice bY.d bY.m bY.e, .bool bZ.b, .slice bZ.a bZ.n bZ.c, .slice bZ.d bZ.m bZ.e], 46), (kM, aY kY kZ, 43), (jH, n0.arr, 40), (jB, aY jm jo, 43), (w3.heap.size, aY Ox Oy, 43), (Bs, #[.bool yv.b, .slice yv.a yv.n yv.c, .slice yv.d yv.m yv.e, .bool yl.b, .slice yl.a yl.n yl.c, .slice yl.d yl.m yl.e, .bool yk.b, .slice yk.a yk.n yk.c, .slice yk.d yk.m yk.e, .bool yw.b, .slice yw.a yw.n yw.c, .slice yw.d yw.m yw.e, .bool ym.b, .slice ym.a ym.n ym.c, .slice ym.d ym.m ym.e, .bool yn.b, .slice yn.a yn.n yn.c, .slice yn.d yn.m yn.e], 102), (Bc, #[.bool y0.b, .slice y0.a y0.n y0.c, .slice y0.d y0.m y0.e, .bool y1.b, .slice y1.a y1.n y1.c, .slice y1.d y1.m y1.e, .bool y2.b, .slice y2.a y2.n y2.c, .slice y2.d y2.m y2.e, .bool a_.b, .slice a_.a a_.n a_.c, .slice a_.d a_.m a_.e, .bool bf.b, .slice bf.a bf.n bf.c, .slice bf.d bf.m bf.e, .bool bY.b, .slice bY.a bY.n bY.c, .slice bY.d bY.m bY.e, .bool bZ.b, .slice bZ.a bZ.n bZ.c, .slice bZ.d bZ.m bZ.e], 46), (Bl, #[.slice (some ⟨bk, off, none⟩) ls.length cap], 31), (Ba, xa.arr, 40), (Be, xe.arr, 40), (w.heap.size + 4, #[.slice sa sn sc], 31), (w.heap.size + 3, #[.int .i64 z], 3), (w.heap.size + 2, xe.arr, 40), (w.heap.size + 1, xa.arr, 40), (w.heap.size, #[.slice Ib es.length ct], 26)] [(true, bf.val, (yu ((zi (jP pa pb (r0 * (1 - c1)) (r1 * (1 - c0))) (jP l0 l1 vv vv) (jP m0 m1 uu uu) 2) + (jP t0 t1 (nP vv uu 2) (nP vv uu 2))) k)), (true, a_.val, (gK ((zi (jQ pa pb (r0 * (1 - c1)) (r1 * (1 - c0))) (jQ l0 l1 vv vv) (jQ m0 m1 uu uu) 2) + (jQ t0 t1 (nP vv uu 2) (nP vv uu 2))) k)), (true, bZ.val, (yu (c1 + r1 * (1 - c1)) k)), (true, bY.val, (gK (c0 + r0 * (1 - c0)) k)), (true, kZ.val, ((zi (jP pa pb (r0 * (1 - c1)) (r1 * (1 - c0))) (jP l0 l1 vv vv) (jP m0 m1 uu uu) 2) + (jP t0 t1 (nP vv uu 2) (nP vv uu 2)))), (true, kY.val, ((zi (jQ pa pb (r0 * (1 - c1)) (r1 * (1 - c0))) (jQ l0 l1 vv vv) (jQ m0 m1 uu uu) 2) + (jQ t0 t1 (nP vv uu 2) (nP vv uu 2)))), (true, jY.val, (jP t0 t1 (nP vv uu 2) (nP vv uu 2))), (true, jX.val, (jQ t0 t1 (nP vv uu 2) (nP vv uu 2))), (true, n2.val, (zi (jP pa pb (r0 * (1 - c1)) (r1 * (1 - c0))) (jP l0 l1 vv vv) (jP m0 m1 uu uu) 2)), (true, n1.val, (zi (jQ pa pb (r0 * (1 - c1)) (r1 * (1 - c0))) (jQ l0 l1 vv vv) (jQ m0 m1 uu uu) 2)), (true, n0.val, (nP vv uu 2)), (true, jo.val, (r1 * (1 - c0))), (true, jm.val, (r0 * (1 - c1))), (true, z21.val, (r1 * (1 - c0))), (true, z20.val, (1 - c0)), (true, zo.val, c0), (true, Rj.val, r1), (true, z17.val, (r0 * (1 - c1))), (true, yG.val, (1 - c1)), (true, zn.val, c1), (true, Ri.val, r0), (true, Oy.val, r1), (true, Ox.val, r0), (true, yn.val, m1), (true, ym.val, m0), (true, yw.val, uu), (true, yk.val, l1), (true, yl.val, l0), (true, yv.val, vv), (true, y6.val, c1), (true, y5.val, c0), (true, y4.val, t1), (true, y3.val, t0), (true, y2.val, pb), (true, y1.val, pa), (true, y0.val, p)]) := ZO
       replace HG : Hid (jF w afV [(Xy.heap.size, #[.bool y0.b, .slice y0.a y0.n y0.c, .slice y0.d y0.m y0.e, .bool y1.b, .slice y1.a y1.n y1.c, .slice y1.d y1.m y1.e, .bool y2.b, .slice y2.a y2.n y2.c, .slice y2.d y2.m y2.e, .bool a_.b, .slice a_.a a_.n a_.c, .slice a_.d a_.m a_.e, .bool bf.b, .slice bf.a bf.n bf.c, .slice bf.d bf.m bf.e, .bool bY.b, .slice bY.a bY.n bY.c, .slice bY.d bY.m bY.e, .bool bZ.b, .slice bZ.a bZ.n bZ.c, .slice bZ.d bZ.m bZ.e], 46), (kM, aY kY kZ, 43), (jH, n0.arr, 40), (jB, aY jm jo, 43), (w3.heap.size, aY Ox Oy, 43), (Bs, #[.bool yv.b, .slice yv.a yv.n yv.c, .slice yv.d yv.m yv.e, .bool yl.b, .slice yl.a yl.n yl.c, .slice yl.d yl.m yl.e, .bool yk.b, .slice yk.a yk.n yk.c, .slice yk.d yk.m yk.e, .bool yw.b, .slice yw.a yw.n yw.c, .slice yw.d yw.m yw.e, .bool ym.b, .slice ym.a ym.n ym.c, .slice ym.d ym.m ym.e, .bool yn.b, .slice yn.a yn.n yn.c, .slice yn.d yn.m yn.e], 102), (Bc, #[.bool y0.b, .slice y0.a y0.n y0.c, .slice y0.d y0.m y0.e, .bool y1.b, .slice y1.a y1.n y1.c, .slice y1.d y1.m y1.e, .bool y2.b, .slice y2.a y2.n y2.c, .slice y2.d y2.m y2.e, .bool a_.b, .slice a_.a a_.n a_.c, .slice a_.d a_.m a_.e, .bool bf.b, .slice bf.a bf.n bf.c, .slice bf.d bf.m bf.e, .bool bY.b, .slice bY.a bY.n bY.c, .slice bY.d bY.m bY.e, .bool bZ.b, .slice bZ.a bZ.n bZ.c, .slice bZ.d bZ.m bZ.e], 46), (Bl, #[.slice (some ⟨bk, off, none⟩) ls.length cap], 31), (Ba, xa.arr, 40), (Be, xe.arr, 40), (w.heap.size + 4, #[.slice sa sn sc], 31), (w.heap.size + 3, #[.int .i64 z], 3), (w.heap.size + 2, xe.arr, 40), (w.heap.size + 1, xa.arr, 40), (w.heap.size, #[.slice Ib es.length ct], 26)] [⟨46, true, 7, (.slice (some ⟨ad8, 0, none⟩) (qs0.length + 1) Jn), (xs ++ eX [y0, y1, y2, a_, bf, bY, bZ]), (qs0 ++ [[p, pa, pb, (gK ((zi (jQ pa pb (r0 * (1 - c1)) (r1 * (1 - c0))) (jQ l0 l1 vv vv) (jQ m0 m1 uu uu) 2) + (jQ t0 t1 (nP vv uu 2) (nP vv uu 2))) k), (yu ((zi (jP pa pb (r0 * (1 - c1)) (r1 * (1 - c0))) (jP l0 l1 vv vv) (jP m0 m1 uu uu) 2) + (jP t0 t1 (nP vv uu 2) (nP vv uu 2))) k), (gK (c0 + r0 * (1 - c0)) k), (yu (c1 + r1 * (1 - c1)) k)]])⟩]) := Zv
       clear ZO Zv MC PR PH ZX agl agw agn agv
       have um := (HS.out.at 10 _ _ _ rfl)
       have BP := af um 0 (.slice sa sn sc) rfl
       have DN := ah um 0
       have Yj := ai um
       clear um
       go_wp2_with fail
       clear BP DN Yj
       generalize SI : (afV).setCell _ _ = alf at *
       replace nI := ae (wX (aeA nI.out (HS.out.at 10 _ _ _ rfl) (by decide)) SI)
       replace HG := ae (((HG.out).akw (HS.out) 10 sa sn sc (some ⟨ad8, 0, none⟩) (qs0.length + 1) Jn rfl).to SI (by (try simp only [ig, ik]); rfl))
       replace HS := ae (((HS.out).akw 10 sa sn sc (some ⟨ad8, 0, none⟩) (qs0.length + 1) Jn rfl).to SI (by (try simp only [ig, ik]); rfl))
       clear SI
       have hEK := nI.out.1.from w2.heap.size
       have hEP : Rw 101 w.heap.size [Be, Ba, Bl] W alf := ⟨O7 H1.out.bel HS.out.bel nI.out.1.size, (fun q hq => by
         simp only [List.mem_cons, List.not_mem_nil, or_false] at hq
         rcases hq with rfl | rfl | rfl
         · exact (HS.out.at 9 _ _ _ rfl).trans (H1.out.at 2 _ _ _ rfl).symm
         · exact (HS.out.at 8 _ _ _ rfl).trans (H1.out.at 1 _ _ _ rfl).symm
         · exact (HS.out.at 7 _ _ _ rfl).trans (H1.out.at 0 _ _ _ rfl).symm), nI.out.2⟩
       have hEZ : w2.heap.size ≤ alf.heap.size := Nat.le_trans KU.out nI.out.1.size
       first
        | exact ⟨hEK, hEP, hEZ, _, _, _, _, ae (((((((HS.out.erase 0).erase 0).erase 0).erase 0).erase 0).erase 0).erase 0), ae (by rw [List.map_append, show List.map (fun i => qG ls es dX ed k i.1) [(⟨i, HII.out⟩ : Fin ls.length)] = [qG ls es dX ed k i] from rfl, HCM.out, ← TY.out]; exact HG.out.mono (fun b hb => ⟨b, by simp only [List.mem_cons] at hb ⊢; first | exact hb | (repeat (first | exact hb | right)), rfl⟩))⟩
        | exact ⟨hEK, hEP, hEZ, _, _, _, ae (((((((HS.out.erase 0).erase 0).erase 0).erase 0).erase 0).erase 0).erase 0), _, ae (by rw [List.map_append, show List.map (fun i => qG ls es dX ed k i.1) [(⟨i, HII.out⟩ : Fin ls.length)] = [qG ls es dX ed k i] from rfl, HCM.out, ← TY.out]; exact HG.out.mono (fun b hb => ⟨b, by simp only [List.mem_cons] at hb ⊢; first | exact hb | (repeat (first | exact hb | right)), rfl⟩))⟩
 case done =>
  rintro D ys W hD rfl ⟨hsz, sa, sn, sc, xs, h1, h2⟩ hK
  have b0 := af (h1.out.at 3 _ _ _ rfl) 0 (.slice sa sn sc) rfl
  go_wp2_with fail
  have h2' := fun o => h2.out.other (grownBy_putObj' W D o) (fun r e => by cases e; exact ⟨_, hK, rfl⟩)
  have h1' := fun o => h1.out.other (grownBy_putObj' W D o) (fun r e => by cases e; exact ⟨Nat.le_trans HWS hD, _, hK, rfl⟩)
  refine ⟨by simp, .inl ⟨_, _, rfl, run_takeDeferred hK, ?_⟩⟩
  exact ⟨_, results_tmp rfl _ _ _, _, _, rfl, by rw [← L9]; exact (h2' _).row 0 _ rfl, by rw [← L9]; exact (h2' _).mean 0 _ rfl, (h1' _).bel⟩
 case stop =>
  rintro D c pre W _ _ h _
  exact h.elim
theorem Qh (ls : List (List Rat)) (es : List lD) (dX ed : Rat) (k : Nat) (hk : k ≤ 256) (z : Int) (hz : min (max z 0) 256 = (k : Int)) (vl vt va ve : Value) (w : World) (h : di true 7 w vl ls) (ht : kN aA w vt es) (ha : aA w va dX) (he : aA w ve ed) (h0 : 0 < ls.length) (h16 : ls.length ≤ 16) (hall : Rt ls es dX ed k z) :
  Calls Tryz.prog 21 #[vl, vt, va, ve, .int .i64 z] w (RG true 7 (nK ls es dX ed k ls.length) w) := (Qi ls es dX ed k hk z hz vl vt va ve w h ht ha he h0 h16 hall).mono fun _ _ h => h.recs
end Go.Proofs.YtkblihocfapklaaGreat
namespace Go.Proofs.YtkblihocfapklaaGreat
open Go.RowKit
theorem IE (ls : List (List Rat)) (es : List lD) (dX ed : Rat) (k : Nat) (hk : k ≤ 256) (z : Int) (hz : min (max z 0) 256 = (k : Int)) (vl vt va ve : Value) (w : World) (h : di true 7 w vl ls) (ht : kN aA w vt es) (ha : aA w va dX) (he : aA w ve ed) (sl : ∀ i j, bQ (aS ls i j) 1000) (sa : bQ dX 1000) (sd : bQ ed 1000) (hl : es.length ≤ 1000) (hI : Pq es) (hZ : Jq es) (hO : Pv es) (hth : ∀ i, aS ls i 3 ≤ aS ls i 4) (hch : ∀ i, aS ls i 5 ≤ aS ls i 6) :
  Calls Tryz.prog 10 #[vl, vt, va, ve, .int .i64 z] w (zu true 7 (flT (nK ls es dX ed k ls.length) (lG ls es ed)) (lG ls es ed) w) := by
 obtain ⟨xa, rfl⟩ := ha.bn
 obtain ⟨xe, rfl⟩ := he.bn
 have HS := ae (((Sx.init w).az ha).az he)
 have ahn : Hid (lG ls es ed = 0 → Rt ls es dX ed k z) := fun h0 => Zt hk hz (wL h0) sl sa sd hl hI hZ hO hth hch
 have HR0 := ae h
 have HT := ae ht
 have H5 := ae sl
 have HLE := ae hl
 have HI := ae hI
 have HZ := ae hZ
 have SD := ae sd
 have HK := ae hk
 have HZK := ae hz
 obtain ⟨al, cl, rfl, _⟩ := h
 obtain ⟨Ib, ct, rfl, _⟩ := ht
 clear ha he sl sa sd hl hI hZ hO hth hch hk hz
 go_enter Tryz.func10, Tryz.ntmps10
 go_wp2_with fail
 generalize hW1 : ((w).alloc (.cells _ _)).alloc (.cells _ _) = W1 at *
 replace HS := ae ((((HS.out).alloc (B := w.heap.size) rfl (by rfl)).alloc (B := w.heap.size + 1) (by simp) (by rfl)).to hW1 (by (try simp only [ig, ik]); rfl))
 clear hW1
 by_cases hz2 : lG ls es ed = 0
 ·
  have HZ2 := ae hz2
  clear hz2
  refine (Ij ls es ed _ _ _ _ (HR0.out.below HS.out.bel) (HT.out.bP HS.out.bel) (HS.out.p 0 _ _ rfl) H5.out HLE.out HI.out HZ.out SD.out).mono ?_
  rw [HZ2.out]
  rintro e w3 ⟨rfl, hb3⟩
  replace HS := ae (HS.out.below hb3)
  clear hb3
  obtain ⟨iy, iL, jD, jI, jU, kz⟩ := eu (x := xa) (HS.out.at 1 _ _ _ rfl)
  have rG := ai (HS.out.at 1 _ _ _ rfl)
  obtain ⟨kC, kD, qB, lT, lU, vK⟩ := eu (x := xe) (HS.out.at 0 _ _ _ rfl)
  have yO := ai (HS.out.at 0 _ _ _ rfl)
  go_wp2_with fail
  clear iy iL jD jI jU kz rG kC kD qB lT lU vK yO
  refine (Qh ls es dX ed k HK.out z HZK.out _ _ _ _ _ (HR0.out.below HS.out.bel) (HT.out.bP HS.out.bel) (HS.out.p 1 _ _ rfl) (HS.out.p 0 _ _ rfl) (wL HZ2.out).n0 (wL HZ2.out).n16 (ahn.out HZ2.out)).mono ?_
  rintro e w4 ⟨v4, rfl, hv4, hb4⟩
  have HV4 := ae hv4
  clear hv4
  replace HS := ae (HS.out.below hb4)
  clear hb4
  go_wp2_with fail
  go_ret2
  exact (by rw [HZ2.out]; exact ⟨_, rfl, HV4.out, HS.out.bel⟩)
 ·
  obtain ⟨er2, PQ⟩ : ∃ c, c = lG ls es ed := ⟨_, rfl⟩
  have TU := ae PQ
  rw [← PQ] at hz2
  have en2 : (er2 == 0) = false := beq_eq_false_iff_ne.2 hz2
  have eo2 : (er2 != 0) = true := bne_iff_ne.2 hz2
  have ep2 : decide (er2 = 0) = false := decide_eq_false hz2
  have aht := ae hz2
  clear PQ hz2
  refine (Ij ls es ed _ _ _ _ (HR0.out.below HS.out.bel) (HT.out.bP HS.out.bel) (HS.out.p 0 _ _ rfl) H5.out HLE.out HI.out HZ.out SD.out).mono ?_
  rw [← TU.out]
  rintro e w5 ⟨rfl, hb5⟩
  replace HS := ae (HS.out.below hb5)
  clear hb5
  go_wp2_with fail
  go_ret2
  exact (by rw [← TU.out]; exact ⟨_, rfl, by unfold flT; rw [if_neg aht.out]; exact di.nil _ _ _, HS.out.bel⟩)
theorem ajG {a b : Rat} {k : Nat} (h1 : bQ a k) (h2 : bQ b k) : bQ (rW a b) k := by unfold rW; split <;> assumption
theorem aiU {a b : Rat} {k : Nat} (h1 : bQ a k) (h2 : bQ b k) : bQ (qU a b) k := by unfold qU; split <;> assumption
theorem L_ {f : Nat → Bool} {n : Nat} (h : ∀ i, i < n → f i = false) : dS f n = -1 := by
 induction n with
 | zero => rfl
 | succ n ih => exact uy (ih fun i hi => h i (by omega)) (h n (by omega))
theorem YJ {l : List (List Rat)} {i : Nat} (h0 : 0 ≤ aS l i 0 ∧ aS l i 0 + aS l i 0 ≤ 1) (h1 : 0 ≤ aS l i 1) (h2 : 0 ≤ aS l i 5 ∧ aS l i 6 ≤ 1) : sG l i = false := by
 unfold sG
 rw [yf.2 h0, mJ.2 h2]
 have h5 : decide (0 ≤ jG (decide ((aS l i 1).num < 0)) (aS l i 1).num.natAbs) = true := by rw [KJ]; exact decide_eq_true h1
 rw [decide_eq_false (by have := of_decide_eq_true h5; omega)]
 rfl
theorem Zu {ls : List (List Rat)} {es : List lD} {ed : Rat} (h : adG ls es ed) : lG ls es ed = 0 := by
 have h1 : m_ ls = 0 := by
  unfold m_
  have := h.n0
  have := h.n16
  rw [if_neg (by omega), if_pos (by rw [L_ fun i hi => YJ (h.cell i hi).1 (h.cell i hi).2.1 (h.cell i hi).2.2]; decide)]
 unfold lG
 rw [if_neg (by rw [h1]; simp), if_neg (by rw [h.tab]; simp), if_neg (by rw [yf.2 h.edge]; simp)]
structure WY (ls : List (List Rat)) (es : List lD) (ed : Rat) : Prop where
 sz : ∀ i j, bQ (aS ls i j) 1000
 t : ∀ i, aS ls i 3 ≤ aS ls i 4
 c : ∀ i, aS ls i 5 ≤ aS ls i 6
 ok : lG ls es ed = 0
theorem v_ {x : Rat} {k B : Nat} (hk : k ≤ 256) (hB : B ≤ 1267650600228229401496703205376) (h : lF B x) : bQ (gK x k) 30 := by
 obtain ⟨h0, h1⟩ := h
 rw [← n_, qc]
 refine aj (gZ (j := 6) (uK ?_ (by omega)) (TQ (show 0 ≤ 256 by omega) hk)) (by omega)
 have e1 := Rat.mul_le_mul_of_nonneg_right h0 (Rat.le_of_lt (qM k))
 have e2 := Rat.mul_le_mul_of_nonneg_right h1 (Rat.le_of_lt (qM k))
 have f1 : (-((B * 2 ^ k : Nat) : Int)) ≤ (x * yD k 0).floor := Rat.le_floor_iff.2 (by rw [Rat.intCast_neg, Int.natCast_mul, Rat.intCast_mul, ← uG]; grind)
 have f2 : (x * yD k 0).floor ≤ ((B * 2 ^ k : Nat) : Int) := Rat.intCast_le_intCast.1 (by rw [Int.natCast_mul, Rat.intCast_mul, ← uG]; have := Rat.floor_le (x * yD k 0); grind)
 have h2 : 2 ^ k ≤ 2 ^ 256 := Nat.pow_le_pow_right (by omega) hk
 have h4 : B * 2 ^ k ≤ 1267650600228229401496703205376 * 2 ^ 256 := Nat.mul_le_mul hB h2
 have h3 : 1267650600228229401496703205376 * 2 ^ 256 < ak ^ 6 := by unfold ak; decide +kernel
 omega
theorem adO {B : Nat} {x : Rat} (h : lF B x) : lF B (-x) := by
 obtain ⟨h0, h1⟩ := h
 exact ⟨by grind, by grind⟩
theorem IP {x : Rat} {k B : Nat} (hk : k ≤ 256) (hB : B ≤ 1267650600228229401496703205376) (h : lF B x) : bQ (yu x k) 30 := by
 unfold yu
 exact yj (v_ hk hB (adO h))
theorem oI {l : List (List Rat)} {i j : Nat} (h : ¬ i < l.length) : aS l i j = 0 := by
 have e2 : l.getD i [] = [] := by
  rw [List.getD_eq_getElem?_getD, List.getElem?_eq_none (by omega)]
  rfl
 unfold aS
 rw [e2]
 rfl
theorem pV {ls : List (List Rat)} {es : List lD} {dX ed : Rat} {k n i : Nat} (h : i < n) (j : Nat) : aS (nK ls es dX ed k n) i j = (qG ls es dX ed k i).getD j 0 := by unfold aS; rw [zQ _ _ _ _ _ h]
theorem CQ {B : Nat} {ls : List (List Rat)} {es : List lD} {dX ed : Rat} (hb : ∀ i j, j = 3 ∨ j = 4 → lF B (aS ls i j)) (ha : lF B dX) (i j : Nat) (hj : j = 3 ∨ j = 4) : lF B (sL ls dX i j) ∧ lF B (sM ls dX i j) := by
 refine ⟨?_, ?_⟩
 ·
  unfold sL; split
  · exact hb _ _ hj
  · exact ha
 ·
  unfold sM; split
  · exact hb _ _ hj
  · exact ha
theorem afD {ls : List (List Rat)} {es : List lD} {ed : Rat} (h : adG ls es ed) {i : Nat} (hi : i < ls.length) : (0 ≤ sV ls ed i ∧ sV ls ed i + sV ls ed i ≤ 1) ∧ (0 ≤ sW ls ed i ∧ sW ls ed i + sW ls ed i ≤ 1) := by
 refine ⟨?_, ?_⟩
 ·
  unfold sV; split
  · exact (h.cell _ (by omega)).1
  · exact h.edge
 ·
  unfold sW; split
  · exact (h.cell _ hi).1
  · exact h.edge
theorem aco {r c : Rat} (h0 : 0 ≤ r) (h1 : r ≤ 1) (c0 : 0 ≤ c) (c1 : c ≤ 1) : 0 ≤ r * (1 - c) ∧ r * (1 - c) ≤ 1 := by
 refine ⟨Rat.mul_nonneg h0 (by grind), ?_⟩
 have g := Rat.mul_nonneg (a := 1 - r) (b := 1 - c) (by grind) (by grind)
 grind
theorem U4 {ls : List (List Rat)} {es : List lD} {dX ed : Rat} {k B : Nat} (hk : k ≤ 256) (hO : Pv es) (hB : B + B + B + B ≤ 1267650600228229401496703205376) (h : WY ls es ed) (ht : ∀ i j, j = 3 ∨ j = 4 → lF B (aS ls i j)) (hh : ∀ i j, j = 1 ∨ j = 2 → lF B (aS ls i j)) (ha : lF B dX) :
  WY (nK ls es dX ed k ls.length) es ed ∧ (∀ i j, j = 3 ∨ j = 4 → lF (B + B + B + B) (aS (nK ls es dX ed k ls.length) i j)) ∧ (∀ i j, j = 1 ∨ j = 2 → lF B (aS (nK ls es dX ed k ls.length) i j)) ∧ (∀ i j, j < 3 → aS (nK ls es dX ed k ls.length) i j = aS ls i j) := by
 have hok := wL h.ok
 have g0 : ∀ i j, j < 3 → aS (nK ls es dX ed k ls.length) i j = aS ls i j := fun i j hj => by
  by_cases hi : i < ls.length
  ·
   rw [pV hi]
   match j, hj with
   | 0, _ => rfl
   | 1, _ => rfl
   | 2, _ => rfl
  · rw [oI hi, oI (by rw [jL]; exact hi)]
 have gt : ∀ i, i < ls.length → lF (B + B + B + B) (EJ (aS ls i 1) (aS ls i 2) (aS ls i 3) (aS ls i 4) ((fJ es (aS ls i 3)).1 * (1 - aS ls i 6)) ((fJ es (aS ls i 4)).2 * (1 - aS ls i 5)) (sV ls ed i) (sW ls ed i) (sL ls dX i 3) (sL ls dX i 4) (sM ls dX i 3) (sM ls dX i 4)) ∧
   lF (B + B + B + B) (EI (aS ls i 1) (aS ls i 2) (aS ls i 3) (aS ls i 4) ((fJ es (aS ls i 3)).1 * (1 - aS ls i 6)) ((fJ es (aS ls i 4)).2 * (1 - aS ls i 5)) (sV ls ed i) (sW ls ed i) (sL ls dX i 3) (sL ls dX i 4) (sM ls dX i 3) (sM ls dX i 4)) := fun i hi => by
  obtain ⟨⟨v0, v1⟩, w0, w1⟩ := afD hok hi
  obtain ⟨_, _, c0, c1⟩ := hok.cell i hi
  obtain ⟨⟨r0, r1⟩, r01⟩ := ab8 hok.tab hO (h.t i)
  have hc := h.c i
  obtain ⟨a1, a2⟩ := aco r0 (Rat.le_trans r01 r1) (Rat.le_trans c0 hc) c1
  obtain ⟨a3, a4⟩ := aco (Rat.le_trans r0 r01) r1 c0 (Rat.le_trans hc c1)
  exact amk (hh i 1 (by omega)) (hh i 2 (by omega)) (ht i 3 (by omega)) (ht i 4 (by omega)) (CQ (es := es) (ed := ed) ht ha i 3 (by omega)).1 (CQ (es := es) (ed := ed) ht ha i 4 (by omega)).1 (CQ (es := es) (ed := ed) ht ha i 3 (by omega)).2 (CQ (es := es) (ed := ed) ht ha i 4 (by omega)).2 a1 a2 a3 a4 v0 v1 w0 w1
 have gc : ∀ i, i < ls.length → (0 ≤ aS ls i 5 + (fJ es (aS ls i 3)).1 * (1 - aS ls i 5) ∧ aS ls i 5 + (fJ es (aS ls i 3)).1 * (1 - aS ls i 5) ≤ aS ls i 6 + (fJ es (aS ls i 4)).2 * (1 - aS ls i 6)) ∧ aS ls i 6 + (fJ es (aS ls i 4)).2 * (1 - aS ls i 6) ≤ 1 := fun i hi => by
  obtain ⟨_, _, c0, c1⟩ := hok.cell i hi
  obtain ⟨⟨r0, r1⟩, r01⟩ := ab8 hok.tab hO (h.t i)
  have hc := h.c i
  generalize aS ls i 5 = x at *
  generalize aS ls i 6 = y at *
  generalize (fJ es (aS ls i 3)).1 = r at *
  generalize (fJ es (aS ls i 4)).2 = s at *
  have g1 := Rat.mul_nonneg (a := r) (b := 1 - x) r0 (by grind)
  have g2 := Rat.mul_nonneg (a := 1 - s) (b := 1 - y) (by grind) (by grind)
  have g3 := Rat.mul_nonneg (a := s - r) (b := 1 - x) (by grind) (by grind)
  have g4 := Rat.mul_nonneg (a := 1 - s) (b := y - x) (by grind) (by grind)
  refine ⟨⟨by grind, by grind⟩, by grind⟩
 have z0 : ((0 : Int) : Rat) = 0 := rfl
 have z1 : ((1 : Int) : Rat) = 1 := rfl
 have gd : ∀ i, i < ls.length → 0 ≤ gK (aS ls i 5 + (fJ es (aS ls i 3)).1 * (1 - aS ls i 5)) k ∧ yu (aS ls i 6 + (fJ es (aS ls i 4)).2 * (1 - aS ls i 6)) k ≤ 1 := fun i hi => by
  obtain ⟨⟨a, _⟩, b⟩ := gc i hi
  exact ⟨by have := Eh (n := 0) (by rw [z0]; exact a) k; rw [z0] at this; exact this, by have := acr (n := 1) (by rw [z1]; exact b) k; rw [z1] at this; exact this⟩
 have gb : ∀ i j, j = 3 ∨ j = 4 → lF (B + B + B + B) (aS (nK ls es dX ed k ls.length) i j) := fun i j hj => by
  by_cases hi : i < ls.length
  ·
   rw [pV hi]
   rcases hj with rfl | rfl
   · exact Yy (gt i hi).1
   · exact aib (gt i hi).2
  ·
   rw [oI (by rw [jL]; exact hi)]
   have hB0 : (0 : Rat) ≤ ((((B + B + B + B : Nat)) : Int) : Rat) := Rat.intCast_le_intCast.2 (by omega : (0 : Int) ≤ ((B + B + B + B : Nat) : Int))
   exact ⟨by grind, hB0⟩
 refine ⟨⟨fun i j => ?_, fun i => ?_, fun i => ?_, Zu ⟨by rw [jL]; exact hok.n0, by rw [jL]; exact hok.n16, fun i hi => ?_, hok.tab, hok.edge⟩⟩, gb, fun i j hj => ?_, g0⟩
 ·
  by_cases hi : i < ls.length
  ·
   rw [pV hi]
   match j with
   | 0 => exact h.sz i 0
   | 1 => exact h.sz i 1
   | 2 => exact h.sz i 2
   | 3 => exact aj (v_ hk hB (gt i hi).1) (by omega)
   | 4 => exact aj (IP hk hB (gt i hi).2) (by omega)
   | 5 =>
    obtain ⟨⟨a, b⟩, c⟩ := gc i hi
    exact aj (zG hk (by grind) (Rat.le_trans b c)) (by omega)
   | 6 =>
    obtain ⟨⟨a, b⟩, c⟩ := gc i hi
    exact aj (Q3 hk (by grind) c) (by omega)
   | j + 7 => exact h_ _ (by omega)
  · rw [oI (by rw [jL]; exact hi)]; exact h_ _ (by omega)
 ·
  by_cases hi : i < ls.length
  ·
   rw [pV hi, pV hi]
   exact Rat.le_trans (CU _ _) (Rat.le_trans (aml ..) (acp _ _))
  · rw [oI (by rw [jL]; exact hi), oI (by rw [jL]; exact hi)]; exact Rat.le_refl
 ·
  by_cases hi : i < ls.length
  ·
   rw [pV hi, pV hi]
   exact Rat.le_trans (CU _ _) (Rat.le_trans (gc i hi).1.2 (acp _ _))
  · rw [oI (by rw [jL]; exact hi), oI (by rw [jL]; exact hi)]; exact Rat.le_refl
 ·
  rw [jL] at hi
  rw [g0 i 0 (by omega), g0 i 1 (by omega), pV hi, pV hi]
  obtain ⟨p, q, _⟩ := hok.cell i hi
  exact ⟨p, q, gd i hi⟩
 · rw [g0 i j (by omega)]; exact hh i j hj
structure WZ where
 p : Bool
 k : Nat
 v : Value
 qs : List (List Rat)
structure Ah (w0 w : World) (bs : List Bx) (gs : List WZ) : Prop where
 recs : ∀ (i : Nat) (g : WZ), gs[i]? = some g → di g.p g.k w g.v g.qs
 lt : ∀ g, g ∈ gs → ∀ c, g.v.ownBlock = some c → c < w.heap.size
 sep : ∀ b, b ∈ bs → ∀ g, g ∈ gs → g.v.ownBlock ≠ some b.1
theorem Ah.nil (w0 w : World) (bs : List Bx) : Ah w0 w bs [] := ⟨fun i g h => by simp at h, fun g hg => by simp at hg, fun b hb g hg => by simp at hg⟩
theorem di.own {p : Bool} {k : Nat} {w : World} {a : Option Addr} {n c : Nat} {qs : List (List Rat)} (h : di p k w (.slice a n c) qs) (hp : 0 < qs.length) : ∀ b, (Value.slice a n c).ownBlock = some b → b < w.heap.size := by
 obtain ⟨ao, cap, e, h⟩ := h
 obtain ⟨b, off, rfl, hlt, _⟩ := h hp
 injection e with e1 _ _
 subst e1
 intro b' hb'
 simp [Value.ownBlock] at hb'
 omega
theorem Ah.add {w0 w : World} {bs : List Bx} {gs : List WZ} (h : Ah w0 w bs gs) {p : Bool} {k : Nat} {v : Value} {qs : List (List Rat)} (hr : di p k w v qs) (hl : ∀ c, v.ownBlock = some c → c < w.heap.size) (hs : ∀ b, b ∈ bs → v.ownBlock ≠ some b.1) : Ah w0 w bs (⟨p, k, v, qs⟩ :: gs) := by
 refine ⟨fun i g hi => ?_, fun g hg => ?_, fun b hb g hg => ?_⟩
 ·
  match i, hi with
  | 0, hi => simp at hi; subst hi; exact hr
  | i + 1, hi => exact h.recs i g (by simpa using hi)
 ·
  rcases List.mem_cons.1 hg with rfl | hg
  · exact hl
  · exact h.lt g hg
 ·
  rcases List.mem_cons.1 hg with rfl | hg
  · exact hs b hb
  · exact h.sep b hb g hg
theorem Ah.below {w0 w w' : World} {bs : List Bx} {gs : List WZ} (h : Ah w0 w bs gs) (hb : Below w.heap.size w w') : Ah w0 w' bs gs :=
 ⟨fun i g hi => (h.recs i g hi).below hb, fun g hg c hc => Nat.lt_of_lt_of_le (h.lt g hg c hc) hb.size, h.sep⟩
theorem Ah.alloc {w0 w : World} {bs : List Bx} {gs : List WZ} (h : Ah w0 w bs gs) {B T : Nat} {cs : Array Value} (hB : w.heap.size = B) : Ah w0 (w.alloc (.cells cs T)) ((B, cs, T) :: bs) gs := by
 have h' := h.below ((Below.refl w.heap.size w).alloc (Nat.le_refl _) (.cells cs T))
 refine ⟨h'.recs, h'.lt, fun b hb g hg => ?_⟩
 rcases List.mem_cons.1 hb with rfl | hb
 ·
  intro hc
  have := h.lt g hg _ hc
  dsimp only at this
  omega
 · exact h.sep b hb g hg
theorem Ah.mono {w0 w : World} {bs bs' : List Bx} {gs : List WZ} (h : Ah w0 w bs gs) (hm : ∀ b, b ∈ bs' → ∃ b2, b2 ∈ bs ∧ b2.1 = b.1) : Ah w0 w bs' gs :=
 ⟨h.recs, h.lt, fun b hb g hg => by obtain ⟨b2, h1, h2⟩ := hm b hb; rw [← h2]; exact h.sep b2 h1 g hg⟩
theorem Ah.box {w0 w : World} {bs : List Bx} {gs : List WZ} (h : Ah w0 w bs gs) {B T : Nat} {cs : Array Value} (hne : ∀ g, g ∈ gs → g.v.ownBlock ≠ some B) : Ah w0 w ((B, cs, T) :: bs) gs :=
 ⟨h.recs, h.lt, fun b hb g hg => by rcases List.mem_cons.1 hb with rfl | hb; exact hne g hg; exact h.sep b hb g hg⟩
theorem Ah.pick {w0 w : World} {bs : List Bx} {gs : List WZ} (h : Ah w0 w bs gs) (i : Nat) {g : WZ} (hi : gs[i]? = some g) : Ah w0 w bs [g] := by
 have hm : g ∈ gs := List.mem_iff_getElem?.2 ⟨i, hi⟩
 refine ⟨fun j g' hj => ?_, fun g' hg' => ?_, fun b hb g' hg' => ?_⟩
 ·
  match j, hj with
  | 0, hj => simp at hj; subst hj; exact h.recs i _ hi
  | j + 1, hj => simp at hj
 · simp only [List.mem_singleton] at hg'; subst hg'; exact h.lt _ hm
 · simp only [List.mem_singleton] at hg'; subst hg'; exact h.sep b hb _ hm
theorem di.set {p : Bool} {k : Nat} {w0 w : World} {v : Value} {qs : List (List Rat)} {bs : List Bx} {fs : List Fx} (h : di p k w v qs) (hs : Sx w0 w bs fs) (i : Nat) {B T : Nat} {cs : Array Value} (hi : bs[i]? = some (B, cs, T)) (hne : v.ownBlock ≠ some B) (j : Nat) (u : Value) : di p k (w.setCell ⟨B, j, none⟩ u) v qs := by
 obtain ⟨h1, h2, h3⟩ := hs.box i _ hi
 obtain ⟨ao, cap, rfl, h⟩ := h
 refine ⟨ao, cap, rfl, fun hp => ?_⟩
 obtain ⟨b, off, rfl, hlt, h⟩ := h hp
 have hb : b ≠ B := fun e => hne (by simp [Value.ownBlock, e])
 have ho : (w.setCell ⟨B, j, none⟩ u).heap[b]? = w.heap[b]? := heap_setCell_other w ⟨B, j, none⟩ b u (fun e => hb e)
 have hc : ∀ o x, w.cell? ⟨b, o, none⟩ = some x → (w.setCell ⟨B, j, none⟩ u).cell? ⟨b, o, none⟩ = some x := fun o x hx => by
  exact (World.cell?_of_block (w := w) ho).trans hx
 refine ⟨b, off, rfl, by rw [World.size_setCell]; exact hlt, fun i hi j' hj' => ?_⟩
 obtain ⟨x, g0, g1, g2, g4⟩ := h i hi j' hj'
 exact ⟨x, hc _ _ g0, hc _ _ g1, hc _ _ g2, g4.set h1 h3 j u⟩
theorem Ah.set2 {w0 w : World} {bs : List Bx} {gs : List WZ} {fs : List Fx} (h : Ah w0 w bs gs) (hs : Sx w0 w bs fs) (i : Nat) {B T : Nat} {cs : Array Value} (hi : bs[i]? = some (B, cs, T)) (j : Nat) (v : Value) : Ah w0 (w.setCell ⟨B, j, none⟩ v) (bs.set i (B, cs.setIfInBounds j v, T)) gs := by
 have hm : (B, cs, T) ∈ bs := List.mem_iff_getElem?.2 ⟨i, hi⟩
 refine Ah.mono (bs := bs) ⟨fun n g hg => (h.recs n g hg).set hs i hi (h.sep _ hm g (List.mem_iff_getElem?.2 ⟨n, hg⟩)) j v, fun g hg c hc => by rw [World.size_setCell]; exact h.lt g hg c hc, h.sep⟩ fun b hb => ?_
 rcases List.mem_or_eq_of_mem_set hb with hb | rfl
 · exact ⟨b, hb, rfl⟩
 · exact ⟨(B, cs, T), hm, rfl⟩
theorem Ah.to {w0 w w' : World} {bs bs' : List Bx} {gs : List WZ} (h : Ah w0 w bs gs) (hw : w = w') (hb : bs = bs') : Ah w0 w' bs' gs := by subst hw; subst hb; exact h
theorem di.parts {p : Bool} {k : Nat} {w : World} {v : Value} {qs : List (List Rat)} (h : di p k w v qs) : ∃ (a : Option Addr) (c : Nat), v = .slice a qs.length c := by
 obtain ⟨a, c, rfl, _⟩ := h
 exact ⟨a, c, rfl⟩
theorem di.at {p : Bool} {k : Nat} {w : World} {a : Option Addr} {n c : Nat} {qs : List (List Rat)} (h : di p k w (.slice a n c) qs) (hp : 0 < qs.length) : ∃ b off, a = some ⟨b, off, none⟩ := by
 obtain ⟨ao, cap, e, h⟩ := h
 obtain ⟨b, off, rfl, _⟩ := h hp
 injection e with e1 _ _
 exact ⟨b, off, e1⟩
theorem dL.newer {w w0 : World} {e size n : Nat} {v : Value} {xs : List Value} (h : dL w w0.heap.size e size v n xs) {bs : List Bx} (hl : ∀ b, b ∈ bs → b.1 < w0.heap.size) : (∀ c, v.ownBlock = some c → c < w.heap.size) ∧ ∀ b, b ∈ bs → v.ownBlock ≠ some b.1 :=
 ⟨fun c hc => (h.lt hc).1, fun b hb hc => by have := (h.lt hc).2; have := hl b hb; omega⟩
end Go.Proofs.YtkblihocfapklaaGreat
