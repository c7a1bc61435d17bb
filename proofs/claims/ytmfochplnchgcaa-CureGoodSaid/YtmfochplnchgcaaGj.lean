/- Part j of the lemmas and walks. -/
import Derived.Test.YtmfochplnchgcaaGa
import Derived.Test.YtmfochplnchgcaaGe
import Derived.Test.YtmfochplnchgcaaGi

/- THE WALK of law05.CureGood; printed by wip/tools/gen_cs.py. -/
namespace Go.Proofs.Ytmfochplnchgcaa
open Go.RowKit

/-- The slice v reads as the bytes xs. -/
def BytesOf (w : World) (v : Value) (xs : List Int) : Prop :=
  ∃ ao cap, v = .slice ao xs.length cap ∧ (0 < xs.length → ∃ b off, ao = some ⟨b, off, none⟩ ∧ b < w.heap.size ∧ ∀ i, i < xs.length → w.cell? ⟨b, off + i, none⟩ = some (.int .u8 (xs.getD i 0)) ∧ (0 ≤ xs.getD i 0 ∧ xs.getD i 0 ≤ 255))
/-- A byte and what is left of it. -/
structure Small (a m c : Int) : Prop where
  t : a.tmod m = c
  lo : 0 ≤ c
  hi : c < m
theorem small_of (a m : Int) (h : 0 ≤ a) (hm : 0 < m) : Small a m (a % m) := ⟨Int.tmod_eq_emod_of_nonneg h, Int.emod_nonneg _ (by omega), Int.emod_lt_of_pos _ hm⟩
theorem Small.u8 {a m c : Int} (h : Small a m c) (hm : m ≤ 255) : IntKind.u8.wrap c = c := by
  obtain ⟨_, h1, h2⟩ := h
  obtain ⟨n, rfl⟩ : ∃ n : Nat, c = (n : Int) := ⟨c.toNat, by omega⟩
  simp [IntKind.wrap, IntKind.bits, IntKind.signed]
  omega
theorem Small.i64 {a m c : Int} (h : Small a m c) (hm : m ≤ 255) : IntKind.i64.wrap c = c := by
  rw [IntWalk.i64_left, IntWalk.wrap64_in _ (by have := h.lo; have := h.hi; omega)]
theorem Small.i64p {a m c : Int} (h : Small a m c) (hm : m ≤ 255) : IntKind.i64.wrap (1 + c) = 1 + c := by
  rw [IntWalk.i64_left, IntWalk.wrap64_in _ (by have := h.lo; have := h.hi; omega)]
def frU (r : Ru) (x : Rn) : Nat → Bool
  | 0 => true
  | d + 1 => frU r x d && (!x.lost d || decide (r.tb x.ph d = 0))
theorem frU_three (r : Ru) (x : Rn) : frU r x 3 = freeOf r x := by
  show (((true && (!x.l0 || decide (r.tb x.ph 0 = 0))) && (!x.l1 || decide (r.tb x.ph 1 = 0))) && (!x.l2 || decide (r.tb x.ph 2 = 0))) = freeOf r x
  unfold freeOf
  simp only [Bool.true_and, Bool.and_assoc]
theorem ints_of_row {w : World} {base T : Nat} {v : Value} {es : List Int} (h : LRow w base T 1 v es.length (es.map (Value.int .i64))) : IntsOf w v es := by
  obtain ⟨⟨h1, h2⟩, _⟩ := h
  rcases h2 with ⟨rfl, h0⟩ | ⟨g, cap, cur, rfl, hb, hg, hn, hm, hs, ht⟩
  · have : es = [] := List.eq_nil_of_length_eq_zero h0
    subst this
    exact ⟨none, 0, rfl, fun h => absurd h (by simp)⟩
  · refine ⟨_, cap, rfl, fun _ => ⟨g, 0, rfl, blk_lt hg, fun i hi => ?_⟩⟩
    refine blk_cell hg _ _ ?_
    rw [Nat.zero_add, ← Array.getElem?_toList]
    have hi2 : (cur.toList.take (es.length * 1))[i]? = cur.toList[i]? := by rw [List.getElem?_take]; rw [if_pos (by omega)]
    rw [← hi2, ht, List.getElem?_map, List.getElem?_eq_getElem hi, List.getD_eq_getElem?_getD, List.getElem?_eq_getElem hi]
    rfl
theorem boxes4 (w : World) (c1 c2 c3 c4 : Array Value) {t1 t2 t3 t4 : Nat} (W : World) (hW : W = (((w.alloc (.cells c1 t1)).alloc (.cells c2 t2)).alloc (.cells c3 t3)).alloc (.cells c4 t4)) :
    Below w.heap.size w W ∧ W.heap[w.heap.size + 1 + 1]? = some (.cells c3 t3 (0, 0)) ∧ W.heap[w.heap.size + 1 + 1 + 1]? = some (.cells c4 t4 (0, 0)) ∧ W.heap.size = w.heap.size + 1 + 1 + 1 + 1 := by
  subst hW
  have e2 : ((w.alloc (.cells c1 t1)).alloc (.cells c2 t2)).heap.size = w.heap.size + 1 + 1 := by rw [World.size_alloc, World.size_alloc]
  have e3 : (((w.alloc (.cells c1 t1)).alloc (.cells c2 t2)).alloc (.cells c3 t3)).heap.size = w.heap.size + 1 + 1 + 1 := by rw [World.size_alloc, e2]
  have a3 := blk_new ((w.alloc (.cells c1 t1)).alloc (.cells c2 t2)) c3 t3
  rw [e2] at a3
  have a4 := blk_new (((w.alloc (.cells c1 t1)).alloc (.cells c2 t2)).alloc (.cells c3 t3)) c4 t4
  rw [e3] at a4
  exact ⟨ba (ba (below2 _ _ _)), (heap_alloc_old _ _ (blk_lt a3)).trans a3, a4, by rw [World.size_alloc, e3]⟩
theorem lrow_set8 {w : World} {base M T size n : Nat} {v : Value} {xs : List Value} {u0 u1 u2 u3 u4 u5 u6 u7 : Value} (h : LRow w base T size v n xs) (hM : M < base) :
    LRow ((((((((w.setCell ⟨M, 0, none⟩ u0).setCell ⟨M, 1, none⟩ u1).setCell ⟨M, 2, none⟩ u2).setCell ⟨M, 3, none⟩ u3).setCell ⟨M, 4, none⟩ u4).setCell ⟨M, 5, none⟩ u5).setCell ⟨M, 6, none⟩ u6).setCell ⟨M, 7, none⟩ u7) base T size v n xs :=
  h.keep fun g hg => oth8 rfl (by have := (h.lt hg).2; omega)
theorem idx3_0 (a0 a1 a2 : Int) (w : World) : (Instr.index 47 (.agg #[.int .u8 a0, .int .u8 a1, .int .u8 a2]) (.int .i64 0)).run Try.prog w = .ok (.int .u8 a0) w := by kernel_rfl
theorem idx3_1 (a0 a1 a2 : Int) (w : World) : (Instr.index 47 (.agg #[.int .u8 a0, .int .u8 a1, .int .u8 a2]) (.int .i64 1)).run Try.prog w = .ok (.int .u8 a1) w := by kernel_rfl
theorem idx3_2 (a0 a1 a2 : Int) (w : World) : (Instr.index 47 (.agg #[.int .u8 a0, .int .u8 a1, .int .u8 a2]) (.int .i64 2)).run Try.prog w = .ok (.int .u8 a2) w := by kernel_rfl
theorem idx9_0 (a0 a1 a2 a3 a4 a5 a6 a7 a8 : Int) (w : World) : (Instr.index 48 (.agg #[.int .u8 a0, .int .u8 a1, .int .u8 a2, .int .u8 a3, .int .u8 a4, .int .u8 a5, .int .u8 a6, .int .u8 a7, .int .u8 a8]) (.int .i64 0)).run Try.prog w = .ok (.int .u8 a0) w := by kernel_rfl
theorem idx9_1 (a0 a1 a2 a3 a4 a5 a6 a7 a8 : Int) (w : World) : (Instr.index 48 (.agg #[.int .u8 a0, .int .u8 a1, .int .u8 a2, .int .u8 a3, .int .u8 a4, .int .u8 a5, .int .u8 a6, .int .u8 a7, .int .u8 a8]) (.int .i64 1)).run Try.prog w = .ok (.int .u8 a1) w := by kernel_rfl
theorem idx9_2 (a0 a1 a2 a3 a4 a5 a6 a7 a8 : Int) (w : World) : (Instr.index 48 (.agg #[.int .u8 a0, .int .u8 a1, .int .u8 a2, .int .u8 a3, .int .u8 a4, .int .u8 a5, .int .u8 a6, .int .u8 a7, .int .u8 a8]) (.int .i64 2)).run Try.prog w = .ok (.int .u8 a2) w := by kernel_rfl
theorem idx9_3 (a0 a1 a2 a3 a4 a5 a6 a7 a8 : Int) (w : World) : (Instr.index 48 (.agg #[.int .u8 a0, .int .u8 a1, .int .u8 a2, .int .u8 a3, .int .u8 a4, .int .u8 a5, .int .u8 a6, .int .u8 a7, .int .u8 a8]) (.int .i64 3)).run Try.prog w = .ok (.int .u8 a3) w := by kernel_rfl
theorem idx9_4 (a0 a1 a2 a3 a4 a5 a6 a7 a8 : Int) (w : World) : (Instr.index 48 (.agg #[.int .u8 a0, .int .u8 a1, .int .u8 a2, .int .u8 a3, .int .u8 a4, .int .u8 a5, .int .u8 a6, .int .u8 a7, .int .u8 a8]) (.int .i64 4)).run Try.prog w = .ok (.int .u8 a4) w := by kernel_rfl
theorem idx9_5 (a0 a1 a2 a3 a4 a5 a6 a7 a8 : Int) (w : World) : (Instr.index 48 (.agg #[.int .u8 a0, .int .u8 a1, .int .u8 a2, .int .u8 a3, .int .u8 a4, .int .u8 a5, .int .u8 a6, .int .u8 a7, .int .u8 a8]) (.int .i64 5)).run Try.prog w = .ok (.int .u8 a5) w := by kernel_rfl
theorem idx9_6 (a0 a1 a2 a3 a4 a5 a6 a7 a8 : Int) (w : World) : (Instr.index 48 (.agg #[.int .u8 a0, .int .u8 a1, .int .u8 a2, .int .u8 a3, .int .u8 a4, .int .u8 a5, .int .u8 a6, .int .u8 a7, .int .u8 a8]) (.int .i64 6)).run Try.prog w = .ok (.int .u8 a6) w := by kernel_rfl
theorem idx9_7 (a0 a1 a2 a3 a4 a5 a6 a7 a8 : Int) (w : World) : (Instr.index 48 (.agg #[.int .u8 a0, .int .u8 a1, .int .u8 a2, .int .u8 a3, .int .u8 a4, .int .u8 a5, .int .u8 a6, .int .u8 a7, .int .u8 a8]) (.int .i64 7)).run Try.prog w = .ok (.int .u8 a7) w := by kernel_rfl
theorem idx9_8 (a0 a1 a2 a3 a4 a5 a6 a7 a8 : Int) (w : World) : (Instr.index 48 (.agg #[.int .u8 a0, .int .u8 a1, .int .u8 a2, .int .u8 a3, .int .u8 a4, .int .u8 a5, .int .u8 a6, .int .u8 a7, .int .u8 a8]) (.int .i64 8)).run Try.prog w = .ok (.int .u8 a8) w := by kernel_rfl
set_option maxRecDepth 100000 in
set_option maxHeartbeats 4000000 in
theorem good_rules (c0 c1 c2 p5 d0 d1 d2 d3 d4 d5 d6 d7 d8 : Int) (a0 a1 a2 b0 b1 b2 b3 b4 b5 b6 b7 b8 p : Int) (s0 : Small a0 4 c0) (s1 : Small a1 4 c1) (s2 : Small a2 4 c2) (u0 : Small b0 4 d0) (u1 : Small b1 4 d1) (u2 : Small b2 4 d2) (u3 : Small b3 4 d3) (u4 : Small b4 4 d4) (u5 : Small b5 4 d5) (u6 : Small b6 4 d6) (u7 : Small b7 4 d7) (u8 : Small b8 4 d8) (sp : Small p 5 p5) : rulesOk ⟨1 + c0, 1 + c1, 1 + c2, p5, d0, d1, d2, d3, d4, d5, d6, d7, d8⟩ = true := by
  unfold rulesOk inR
  have := s0.lo
  have := s0.hi
  have := s1.lo
  have := s1.hi
  have := s2.lo
  have := s2.hi
  have := u0.lo
  have := u0.hi
  have := u1.lo
  have := u1.hi
  have := u2.lo
  have := u2.hi
  have := u3.lo
  have := u3.hi
  have := u4.lo
  have := u4.hi
  have := u5.lo
  have := u5.hi
  have := u6.lo
  have := u6.hi
  have := u7.lo
  have := u7.hi
  have := u8.lo
  have := u8.hi
  have := sp.lo
  have := sp.hi
  simp only [Bool.and_eq_true, decide_eq_true_eq]
  omega
set_option maxRecDepth 100000 in
set_option maxHeartbeats 4000000 in
theorem cureGood_any (a0 a1 a2 p b0 b1 b2 b3 b4 b5 b6 b7 b8 : Int) (c0 c1 c2 p5 d0 d1 d2 d3 d4 d5 d6 d7 d8 : Int) (s0 : Small a0 4 c0) (s1 : Small a1 4 c1) (s2 : Small a2 4 c2) (u0 : Small b0 4 d0) (u1 : Small b1 4 d1) (u2 : Small b2 4 d2) (u3 : Small b3 4 d3) (u4 : Small b4 4 d4) (u5 : Small b5 4 d5) (u6 : Small b6 4 d6) (u7 : Small b7 4 d7) (u8 : Small b8 4 d8) (sp : Small p 5 p5) (xs : List Int) (v : Value) (w : World) (hv : BytesOf w v xs) :
    Calls Try.prog 5 #[.agg #[.int .u8 a0, .int .u8 a1, .int .u8 a2], .int .u8 p, .agg #[.int .u8 b0, .int .u8 b1, .int .u8 b2, .int .u8 b3, .int .u8 b4, .int .u8 b5, .int .u8 b6, .int .u8 b7, .int .u8 b8], v] w (RetBool true w) := by
  obtain ⟨ao, cap, rfl, hE⟩ := hv
  have HE := Lib.hid hE
  have HOK : Hid (rulesOk ⟨1 + c0, 1 + c1, 1 + c2, p5, d0, d1, d2, d3, d4, d5, d6, d7, d8⟩ = true) := good_rules c0 c1 c2 p5 d0 d1 d2 d3 d4 d5 d6 d7 d8 a0 a1 a2 b0 b1 b2 b3 b4 b5 b6 b7 b8 p s0 s1 s2 u0 u1 u2 u3 u4 u5 u6 u7 u8 sp
  clear hE
  by_cases h1 : 200 < xs.length
  · have t1 : decide ((xs.length : Int) > 200) = true := by simp; omega
    clear h1
    go_enter Try.func5, Try.ntmps5
    go_wp2_with fail
    refine (awake05_any _).mono ?_
    rintro e w1 ⟨rfl, hb⟩
    go_wp2_with fail
    go_ret
    exact ⟨rfl, bt (below2 _ _ _) hb⟩
  · have t1 : decide ((xs.length : Int) > 200) = false := by simp; omega
    have hlen : xs.length ≤ 200 := by omega
    clear h1
    have ta0 := s0.t
    have wa0 := s0.u8 (by omega)
    have xa0 := s0.i64 (by omega)
    have ya0 := s0.i64p (by omega)
    have ta1 := s1.t
    have wa1 := s1.u8 (by omega)
    have xa1 := s1.i64 (by omega)
    have ya1 := s1.i64p (by omega)
    have ta2 := s2.t
    have wa2 := s2.u8 (by omega)
    have xa2 := s2.i64 (by omega)
    have ya2 := s2.i64p (by omega)
    have tb0 := u0.t
    have wb0 := u0.u8 (by omega)
    have xb0 := u0.i64 (by omega)
    have tb1 := u1.t
    have wb1 := u1.u8 (by omega)
    have xb1 := u1.i64 (by omega)
    have tb2 := u2.t
    have wb2 := u2.u8 (by omega)
    have xb2 := u2.i64 (by omega)
    have tb3 := u3.t
    have wb3 := u3.u8 (by omega)
    have xb3 := u3.i64 (by omega)
    have tb4 := u4.t
    have wb4 := u4.u8 (by omega)
    have xb4 := u4.i64 (by omega)
    have tb5 := u5.t
    have wb5 := u5.u8 (by omega)
    have xb5 := u5.i64 (by omega)
    have tb6 := u6.t
    have wb6 := u6.u8 (by omega)
    have xb6 := u6.i64 (by omega)
    have tb7 := u7.t
    have wb7 := u7.u8 (by omega)
    have xb7 := u7.i64 (by omega)
    have tb8 := u8.t
    have wb8 := u8.u8 (by omega)
    have xb8 := u8.i64 (by omega)
    have tp := sp.t
    have wp := sp.u8 (by omega)
    have xp := sp.i64 (by omega)
    have ia0 := idx3_0 a0 a1 a2
    have ia1 := idx3_1 a0 a1 a2
    have ia2 := idx3_2 a0 a1 a2
    have ib0 := idx9_0 b0 b1 b2 b3 b4 b5 b6 b7 b8
    have ib1 := idx9_1 b0 b1 b2 b3 b4 b5 b6 b7 b8
    have ib2 := idx9_2 b0 b1 b2 b3 b4 b5 b6 b7 b8
    have ib3 := idx9_3 b0 b1 b2 b3 b4 b5 b6 b7 b8
    have ib4 := idx9_4 b0 b1 b2 b3 b4 b5 b6 b7 b8
    have ib5 := idx9_5 b0 b1 b2 b3 b4 b5 b6 b7 b8
    have ib6 := idx9_6 b0 b1 b2 b3 b4 b5 b6 b7 b8
    have ib7 := idx9_7 b0 b1 b2 b3 b4 b5 b6 b7 b8
    have ib8 := idx9_8 b0 b1 b2 b3 b4 b5 b6 b7 b8
    go_enter Try.func5, Try.ntmps5
    go_wp2_with fail
    refine wp_loop_rounds 4 ?_
    rw [rounds_succ]
    go_wp2_with fail
    rw [rounds_succ]
    go_wp2_with fail
    rw [rounds_succ]
    go_wp2_with fail
    rw [rounds_succ]
    go_wp2_with fail
    refine wp_loop_rounds 10 ?_
    rw [rounds_succ]
    go_wp2_with fail
    rw [rounds_succ]
    go_wp2_with fail
    rw [rounds_succ]
    go_wp2_with fail
    rw [rounds_succ]
    go_wp2_with fail
    rw [rounds_succ]
    go_wp2_with fail
    rw [rounds_succ]
    go_wp2_with fail
    rw [rounds_succ]
    go_wp2_with fail
    rw [rounds_succ]
    go_wp2_with fail
    rw [rounds_succ]
    go_wp2_with fail
    rw [rounds_succ]
    go_wp2_with fail
    clear ta0 wa0 xa0 ya0 ia0 ta1 wa1 xa1 ya1 ia1 ta2 wa2 xa2 ya2 ia2 tb0 wb0 xb0 ib0 tb1 wb1 xb1 ib1 tb2 wb2 xb2 ib2 tb3 wb3 xb3 ib3 tb4 wb4 xb4 ib4 tb5 wb5 xb5 ib5 tb6 wb6 xb6 ib6 tb7 wb7 xb7 ib7 tb8 wb8 xb8 ib8 tp wp xp
    obtain ⟨r, hr⟩ : ∃ r : Ru, r = ⟨1 + c0, 1 + c1, 1 + c2, p5, d0, d1, d2, d3, d4, d5, d6, d7, d8⟩ := ⟨_, rfl⟩
    rw [← hr] at HOK
    generalize hW0 : (((w.alloc (.cells #[.int .u8 a0, .int .u8 a1, .int .u8 a2] 47)).alloc (.cells #[.int .u8 b0, .int .u8 b1, .int .u8 b2, .int .u8 b3, .int .u8 b4, .int .u8 b5, .int .u8 b6, .int .u8 b7, .int .u8 b8] 48)).alloc (.cells (ruA ⟨1 + c0, 1 + c1, 1 + c2, p5, d0, d1, d2, d3, d4, d5, d6, d7, d8⟩) 25)).alloc (.cells (rnA ⟨0, 0, 0, 0, false, false, false, false⟩) 30) = W at *
    obtain ⟨hal, hB3, hB4, hWs⟩ := boxes4 w _ _ _ _ W hW0.symm
    have X3 : Hid (W.heap[w.heap.size + 1 + 1]? = some (.cells (ruA r) 25 (0, 0))) := by
      show _ = _
      rw [hr]
      exact hB3
    have X4 : Hid (W.heap[w.heap.size + 1 + 1 + 1]? = some (.cells (rnA rn0) 30 (0, 0))) := hB4
    have HAL := Lib.hid hal
    have HSZ : Hid (W.heap.size = w.heap.size + 1 + 1 + 1 + 1) := hWs
    have HGR := Lib.hid (rulesOk_good HOK.out)
    have HWR1 : Hid (IntKind.i64.wrap (r.m0 + r.m1) = r.m0 + r.m1) := by
      show _ = _
      have g := HGR.out
      rw [IntWalk.i64_left, IntWalk.wrap64_in _ (by have := g.m0; have := g.m1; omega)]
    have HWR2 : Hid (IntKind.i64.wrap (r.m0 + r.m1 + r.m2) = r.m0 + r.m1 + r.m2) := by
      show _ = _
      have g := HGR.out
      rw [IntWalk.i64_left, IntWalk.wrap64_in _ (by have := g.m0; have := g.m1; have := g.m2; omega)]
    have HWR3 : Hid (IntKind.i64.wrap (r.pa + 1) = r.pa + 1) := by
      show _ = _
      have g := HGR.out
      rw [IntWalk.i64_left, IntWalk.wrap64_in _ (by have := g.pa; omega)]
    clear hW0 hal hB3 hB4 hWs hr s0 s1 s2 u0 u1 u2 u3 u4 u5 u6 u7 u8 sp t1
    obtain ⟨ti0, hi0, hz0, hz1, hz2⟩ := info_parts info_int
    have hzd : ∀ u ∈ (Value.int .i64 0).cells.toList, noDig u := by
      intro u hu
      simp [Value.cells] at hu
      rw [hu]
      exact noDig_i64 0
    go_loopw [15, 16, 17, 18, 69] (fun gv wv iv dv kv wr => ∃ (i : Nat) (x : Rn) (gone wt : Int) (ig : Bool) (done : List Int), i ≤ xs.length ∧ kv = .int .i64 i ∧ gv = .int .i64 gone ∧ wv = .int .i64 wt ∧ iv = .bool ig ∧ done.length ≤ i ∧ Hid (GoodInv r x gone wt ig done) ∧ Hid (LRow wr W.heap.size 3 1 dv done.length (done.map (Value.int .i64))) ∧
        Hid (wr.heap[w.heap.size + 1 + 1]? = some (.cells (ruA r) 25 (0, 0))) ∧ Hid (wr.heap[w.heap.size + 1 + 1 + 1]? = some (.cells (rnA x) 30 (0, 0))) ∧ Hid (Below w.heap.size w wr) ∧ Hid (W.heap.size ≤ wr.heap.size))
      (fun _ _ _ _ kv _ => xs.length - (intOf kv).toNat)
    case atStart => exact ⟨0, rn0, 0, 0, true, [], by omega, rfl, rfl, rfl, rfl, by simp, goodInv_start r, LRow.nil _ _ _ _, X3, X4, HAL, Nat.le_refl _⟩
    case round =>
      obtain ⟨i, x, gone, wt, ig, done, hi, rfl, rfl, rfl, rfl, hdl, HI, HL, KR, KX, KB, KS⟩ := hrel
      by_cases hlt : i < xs.length
      · obtain ⟨b, off, rfl, hbl, hc⟩ := HE.out (by omega)
        obtain ⟨hc1, hc2⟩ := hc i hlt
        have hcell := (KB.out.cell (p := ⟨b, off + i, none⟩) hbl).trans hc1
        generalize xs.getD i 0 = bv at *
        have sb := small_of bv 8 hc2.1 (by omega)
        generalize bv % 8 = ev at *
        have HEV : Hid (0 ≤ ev ∧ ev ≤ 7) := ⟨sb.lo, by have := sb.hi; omega⟩
        have e1 := sb.t
        have e2 := sb.u8 (by omega)
        have e3 := sb.i64 (by omega)
        obtain ⟨r0, r1, r2, r3, r4, r5, r6, r7, r8, r9, r10, r11, r12⟩ := ru13 KR.out
        obtain ⟨x0, x1, x2, x3, x4, x5, x6, x7⟩ := rn8 KX.out
        have hge' : (0 : Int) ≤ i := by omega
        have hlt' : (i : Int) < xs.length := by omega
        clear hc hc1 hc2 sb
        go_wp2_with fail
        refine (Next_any r x ev _).mono ?_
        rintro e w1 ⟨rfl, hb⟩
        have hE1 : nextE r x ev = (match next r x ev with | some y => (y, 0) | none => (rn0, 51)) := by
          unfold nextE
          rw [HOK.out, (right_iff r x).2 HI.out.hright, show inR ev 0 7 = true from by unfold inR; simpa using HEV.out]
          rfl
        clear r0 r1 r2 r3 r4 r5 r6 r7 r8 r9 r10 r11 r12 x0 x1 x2 x3 x4 x5 x6 x7 e1 e2 e3 hcell
        cases hn : next r x ev with
        | none =>
          have hE2 : nextE r x ev = (⟨0, 0, 0, 0, false, false, false, false⟩, 51) := by rw [hE1, hn]; rfl
          rw [hE2]
          have hq := eql_crun 0 0 0 0 false false false false
          have BB := Lib.hid (ba (o := rnO ⟨0, 0, 0, 0, false, false, false, false⟩) (bt KB.out hb))
          have D1 := Lib.hid ((heap_alloc_old _ (rnO ⟨0, 0, 0, 0, false, false, false, false⟩) (blk_lt (blk_keep KR.out hb (blk_lt KR.out)))).trans (blk_keep KR.out hb (blk_lt KR.out)))
          have D2 := Lib.hid ((heap_alloc_old _ (rnO ⟨0, 0, 0, 0, false, false, false, false⟩) (blk_lt (blk_keep KX.out hb (blk_lt KX.out)))).trans (blk_keep KX.out hb (blk_lt KX.out)))
          have L2 := Lib.hid ((HL.out.below hb).below (below1 _ (rnO ⟨0, 0, 0, 0, false, false, false, false⟩)))
          have SS : Hid (W.heap.size ≤ (w1.alloc (rnO ⟨0, 0, 0, 0, false, false, false, false⟩)).heap.size) := by
            show _ ≤ _
            have h1 := hb.size
            have h2 := KS.out
            rw [World.size_alloc]
            omega
          clear hE1 hE2 hn hb
          go_wp2_with fail
          exact ⟨⟨i + 1, x, gone, wt, ig, done, by omega, by go_num, rfl, rfl, rfl, by omega, HI, L2, D1, D2, BB, SS⟩, meas_up hlt⟩
        | some y =>
          have hE2 : nextE r x ev = (y, 0) := by rw [hE1, hn]
          rw [hE2]
          have HN := Lib.hid hn
          have hLlt := Lib.hid (fun g (h : u18.ownBlock = some g) => HL.out.lt h)
          have hx2 : Below wr.heap.size wr ((w1.alloc (rnO y)).alloc (.cells #[.int .i64 ev] 3)) := bt hb (below2 _ _ _)
          have hcn := cell_one_new (w1.alloc (rnO y)) (.int .i64 ev) 3
          rw [World.size_alloc] at hcn
          have HCN := Lib.hid hcn
          have HL2 := Lib.hid (HL.out.below hx2)
          have kR := blk_keep KR.out hx2 (blk_lt KR.out)
          have kX := blk_keep KX.out hx2 (blk_lt KX.out)
          have kY : ((w1.alloc (rnO y)).alloc (.cells #[.int .i64 ev] 3)).heap[w1.heap.size]? = some (.cells (rnA y) 30 (0, 0)) := (heap_alloc_old _ _ (blk_lt (blk_new w1 (rnA y) 30))).trans (blk_new w1 (rnA y) 30)
          have hbs := hb.size
          have hB2 := bt KB.out hx2
          have HS2 : Hid (W.heap.size ≤ ((w1.alloc (rnO y)).alloc (.cells #[.int .i64 ev] 3)).heap.size) := by
            show _ ≤ _
            have := KS.out
            rw [World.size_alloc, World.size_alloc]
            omega
          have KRh := Lib.hid kR
          have KXh := Lib.hid kX
          have KYh := Lib.hid kY
          have HB2 := Lib.hid hB2
          have HBS := Lib.hid hbs
          have HDL := Lib.hid hdl
          clear hE1 hE2 hn hb hcn kR kX kY hB2 hbs hx2 hdl
          go_wp2_with (at_builtin; refine wpList_append_lrow _ rfl (.tmp 92) (.tmp 94) 26 rfl W.heap.size 3 ti0 (.int .i64 0) 1 8 Try.underlying26 hi0 hz0 hz1 hz2 rfl (by decide) hzd _ _ _ rfl HL2.out ⟨w1.heap.size + 1, 0, none⟩ 1 1 [.int .i64 ev] rfl rfl HCN.out (by simp [Value.oneCell']) (by intro u hu; rw [List.mem_singleton.1 hu]; exact noDig_i64 _) (by omega) (by have := HDL.out; unfold maxLen; omega) (by have := HDL.out; omega) HS2.out ?_)
          intro g cap' w3 hL3 hgr hat
          have hdl := HDL.out
          have ne1 : ∀ B, (B = w.heap.size + 1 + 1 ∨ B = w.heap.size + 1 + 1 + 1 ∨ B = w1.heap.size) → some B ≠ u18.ownBlock := fun B hB he => by
            have := hLlt.out _ he.symm
            have h1 := HSZ.out
            have h2 := HBS.out
            omega
          have D1 : Hid (w3.heap[w.heap.size + 1 + 1]? = some (.cells (ruA r) 25 (0, 0))) := (hgr.block _ (blk_lt KRh.out) (ne1 _ (by simp))).trans KRh.out
          have D2 : Hid (w3.heap[w.heap.size + 1 + 1 + 1]? = some (.cells (rnA x) 30 (0, 0))) := (hgr.block _ (blk_lt KXh.out) (ne1 _ (by simp))).trans KXh.out
          have D3 : Hid (w3.heap[w1.heap.size]? = some (.cells (rnA y) 30 (0, 0))) := (hgr.block _ (blk_lt KYh.out) (ne1 _ (by simp))).trans KYh.out
          have BB := Lib.hid (HB2.out.grown hgr (by have := HB2.out.size; omega) (fun k hk => by have := hLlt.out _ hk; have := HSZ.out; omega))
          have SS : Hid (W.heap.size ≤ w3.heap.size) := Nat.le_trans HS2.out hgr.size
          have L3 : Hid (LRow w3 W.heap.size 3 1 (.slice (some ⟨g, 0, none⟩) (done.length + 1) cap') (done ++ [ev]).length ((done ++ [ev]).map (Value.int .i64))) := by
            show LRow _ _ _ _ _ _ _
            have := hL3
            simpa using this
          have hstep := goodInv_step HGR.out HI.out HEV.out HN.out
          obtain ⟨hS1, hS2, hS3⟩ := hstep
          have HY := Lib.hid hS3
          have HWT := Lib.hid hS2
          have HST := Lib.hid hS1
          clear hL3 hgr hat hS1 hS2 hS3 ne1 hLlt HL2 HCN
          obtain ⟨r0, r1, r2, r3, r4, r5, r6, r7, r8, r9, r10, r11, r12⟩ := ru13 D1.out
          obtain ⟨x0, x1, x2, x3, x4, x5, x6, x7⟩ := rn8 D2.out
          obtain ⟨z0, z1, z2, z3, z4, z5, z6, z7⟩ := rn8 D3.out
          obtain ⟨q0, q1, q2, q3, q4, q5, q6, q7⟩ := rnf D2.out
          by_cases he : ev = 0
          · subst he
            by_cases hg : goes x.ph = true
            · have hp := (goes_iff _).1 hg
              have a1 : gone1 x gone 0 = gone + 1 := by unfold gone1; rw [if_pos ⟨rfl, hg⟩]
              have a2 : ig1 r x ig 0 = (ig && freeOf r x) := by unfold ig1; rw [if_pos ⟨rfl, hg⟩]
              have a3 : wt1 x wt 0 = 0 := by unfold wt1; rw [if_neg (by rintro ⟨_, h⟩; omega)]
              rw [a1, a2, a3] at HST
              rw [a1, a2] at HY
              have b1 : decide (x.ph ≥ 1) = true := decide_eq_true hp.1
              have b2 : decide (x.ph ≤ 3) = true := decide_eq_true hp.2
              have hwg : IntKind.i64.wrap (gone + 1) = gone + 1 := by
                rw [IntWalk.i64_left, IntWalk.wrap64_in _ (by have := HI.out.g0; have := HI.out.gl; omega)]
              obtain ⟨j, hj⟩ : ∃ j : Nat, (j : Int) = x.ph - 1 := ⟨(x.ph - 1).toNat, by omega⟩
              have hwj := wrap3 _ j hp hj
              have hj0 : (0 : Int) ≤ j := by omega
              have hj3 : (j : Int) < 3 := by omega
              have HTB : Hid (∀ d, d < 3 → (ruA r)[4 + j * 3 + d]? = some (.int .i64 (r.tb x.ph d))) := fun d hd => by
                have := ruA_tb r j d (by omega) hd
                rw [show (j : Int) + 1 = x.ph from by omega] at this
                exact this
              have H40 : Hid ((x.ph != 4) = true) := by
                show _ = _
                simp
                omega
              clear a1 a2 a3 hg hp hj
              go_wp2_with fail
              clear b1 b2 r0 r1 r2 r3 r4 r5 r6 r7 r8 r9 r10 r11 r12 x1 x2 x3 x4 x5 x6 x7 z0 z1 z2 z3 z4 z5 z6 z7 q0 q1 q2 q3 q4 q5 q6 q7 hwg
              obtain ⟨wo, rfl⟩ : ∃ wo, wo = w3 := ⟨_, rfl⟩
              go_loopw [17, 113] (fun b iv wr => ∃ (d : Nat) (ok : Bool), d ≤ 3 ∧ b = .bool ok ∧ iv = .int .i64 d ∧ wo = wr ∧ Hid ((ig && frU r x d) = ok))
                (fun _ iv _ => 3 - (intOf iv).toNat)
              case atStart => exact ⟨0, ig, by omega, rfl, rfl, rfl, by show _ = _; simp [frU]⟩
              case round =>
                obtain ⟨d, ok, hd, rfl, rfl, rfl, HD⟩ := hrel
                by_cases hdl : d < 3
                · have hdl' : (d : Int) < 3 := by omega
                  have hd0 : (0 : Int) ≤ d := by omega
                  have HDL := Lib.hid hdl
                  have hix := run_index3 x.l0 x.l1 x.l2 d hdl wo
                  rw [show (if d = 0 then x.l0 else if d = 1 then x.l1 else x.l2) = x.lost d from rfl] at hix
                  have k8 := blk_cell D1.out _ _ (HTB.out d hdl)
                  have H2 : Hid (frU r x (d + 1) = (frU r x d && (!x.lost d || decide (r.tb x.ph d = 0)))) := rfl
                  generalize r.tb x.ph d = t at *
                  clear hdl
                  cases ok with
                  | false =>
                    go_wp2_with fail
                    refine ⟨⟨d + 1, _, by have := HDL.out; omega, rfl, by go_num, by first | rfl | trivial, ?_⟩, meas_up HDL.out⟩
                    show _ = _
                    rw [H2.out, ← Bool.and_assoc, HD.out]
                    rfl
                  | true =>
                    cases hld : x.lost d with
                    | false =>
                      rw [hld] at hix H2
                      clear hld
                      go_wp2_with fail
                      refine ⟨⟨d + 1, _, by have := HDL.out; omega, rfl, by go_num, by first | rfl | trivial, ?_⟩, meas_up HDL.out⟩
                      show _ = _
                      rw [H2.out, ← Bool.and_assoc, HD.out]
                      rfl
                    | true =>
                      rw [hld] at hix H2
                      clear hld
                      go_wp2_with fail
                      refine ⟨⟨d + 1, _, by have := HDL.out; omega, rfl, by go_num, by first | rfl | trivial, ?_⟩, meas_up HDL.out⟩
                      show _ = _
                      rw [H2.out, ← Bool.and_assoc, HD.out]
                      rfl
                · obtain rfl : d = 3 := by omega
                  have hok : (ig && freeOf r x) = ok := by rw [← frU_three]; exact HD.out
                  rw [hok] at HST HY
                  clear hok HD hdl hwj hj0 hj3
                  obtain ⟨r0, r1, r2, r3, r4, r5, r6, r7, r8, r9, r10, r11, r12⟩ := ru13 D1.out
                  obtain ⟨_, x1, x2, x3, x4, x5, x6, x7⟩ := rn8 D2.out
                  obtain ⟨z0, z1, z2, z3, z4, z5, z6, z7⟩ := rn8 D3.out
                  obtain ⟨q0, q1, q2, q3, q4, q5, q6, q7⟩ := rnf D2.out
                  have h40 := H40.out
                  by_cases hy5 : y.ph = 5
                  · have v1 : (y.ph == 5) = true := by simp [hy5]
                    by_cases hx5 : x.ph = 5
                    · have v2 : (x.ph != 5) = false := by simp [hx5]
                      clear hy5 hx5
                      go_wp2_with fail
                      exact ⟨⟨i + 1, y, (gone + 1), 0, ok, done ++ [0], by omega, by go_num, rfl, rfl, rfl, by simp; omega, HST, lrow_set8 L3.out (by have := HSZ.out; omega), oth8 D1.out (by omega), set8 D2.out, below_set8 BB.out (by omega), by show _ ≤ _; have := SS.out; simp [World.setCell]; omega⟩, meas_up hlt⟩
                    · have v2 : (x.ph != 5) = true := by simp [hx5]
                      obtain ⟨hk1, hk2⟩ := HY.out hy5 hx5
                      have v3 : ((gone + 1) != r.m0 + r.m1 + r.m2) = false := by simp [hk1]
                      have v4 := HWR1.out
                      have v5 := HWR2.out
                      have HK2 := Lib.hid hk2
                      rw [hk2]
                      clear hy5 hx5 hk1 hk2
                      go_wp2_with fail
                      rw [HK2.out] at HST
                      exact ⟨⟨i + 1, y, (gone + 1), 0, true, done ++ [0], by omega, by go_num, rfl, rfl, rfl, by simp; omega, HST, lrow_set8 L3.out (by have := HSZ.out; omega), oth8 D1.out (by omega), set8 D2.out, below_set8 BB.out (by omega), by show _ ≤ _; have := SS.out; simp [World.setCell]; omega⟩, meas_up hlt⟩
                  · have v1 : (y.ph == 5) = false := by simp [hy5]
                    clear hy5
                    go_wp2_with fail
                    exact ⟨⟨i + 1, y, (gone + 1), 0, ok, done ++ [0], by omega, by go_num, rfl, rfl, rfl, by simp; omega, HST, lrow_set8 L3.out (by have := HSZ.out; omega), oth8 D1.out (by omega), set8 D2.out, below_set8 BB.out (by omega), by show _ ≤ _; have := SS.out; simp [World.setCell]; omega⟩, meas_up hlt⟩
            · by_cases h4 : x.ph = 4
              · have a1 : gone1 x gone 0 = gone := by unfold gone1; rw [if_neg (by simp [hg])]
                have a2 : ig1 r x ig 0 = ig := by unfold ig1; rw [if_neg (by simp [hg])]
                have a3 : wt1 x wt 0 = wt + 1 := by unfold wt1; rw [if_pos ⟨rfl, h4⟩]
                rw [a1, a2, a3] at HST
                rw [a1, a2] at HY
                rw [a3] at HWT
                have b1 : decide (x.ph ≥ 1) = true := decide_eq_true (by omega)
                have b2 : decide (x.ph ≤ 3) = false := decide_eq_false (by omega)
                have b3 : (x.ph != 4) = false := by simp [h4]
                have hww : IntKind.i64.wrap (wt + 1) = wt + 1 := by
                  rw [IntWalk.i64_left, IntWalk.wrap64_in _ (by have := HI.out.wt0; have := HI.out.wtl; omega)]
                have hwp := HWR3.out
                have b4 : decide (wt + 1 > r.pa + 1) = false := decide_eq_false (by have := HWT.out; omega)
                have b5 : decide (r.pa < wt) = false := decide_eq_false (by have := HWT.out; omega)
                have b6 : decide (r.pa + 1 < wt + 1) = false := decide_eq_false (by have := HWT.out; omega)
                clear a1 a2 a3 hg h4
                by_cases hy5 : y.ph = 5
                · have v1 : (y.ph == 5) = true := by simp [hy5]
                  by_cases hx5 : x.ph = 5
                  · have v2 : (x.ph != 5) = false := by simp [hx5]
                    clear hy5 hx5
                    go_wp2_with fail
                    exact ⟨⟨i + 1, y, gone, (wt + 1), ig, done ++ [0], by omega, by go_num, rfl, rfl, rfl, by simp; omega, HST, lrow_set8 L3.out (by have := HSZ.out; omega), oth8 D1.out (by omega), set8 D2.out, below_set8 BB.out (by omega), by show _ ≤ _; have := SS.out; simp [World.setCell]; omega⟩, meas_up hlt⟩
                  · have v2 : (x.ph != 5) = true := by simp [hx5]
                    obtain ⟨hk1, hk2⟩ := HY.out hy5 hx5
                    have v3 : (gone != r.m0 + r.m1 + r.m2) = false := by simp [hk1]
                    have v4 := HWR1.out
                    have v5 := HWR2.out
                    have HK2 := Lib.hid hk2
                    rw [hk2]
                    clear hy5 hx5 hk1 hk2
                    go_wp2_with fail
                    rw [HK2.out] at HST
                    exact ⟨⟨i + 1, y, gone, (wt + 1), true, done ++ [0], by omega, by go_num, rfl, rfl, rfl, by simp; omega, HST, lrow_set8 L3.out (by have := HSZ.out; omega), oth8 D1.out (by omega), set8 D2.out, below_set8 BB.out (by omega), by show _ ≤ _; have := SS.out; simp [World.setCell]; omega⟩, meas_up hlt⟩
                · have v1 : (y.ph == 5) = false := by simp [hy5]
                  clear hy5
                  go_wp2_with fail
                  exact ⟨⟨i + 1, y, gone, (wt + 1), ig, done ++ [0], by omega, by go_num, rfl, rfl, rfl, by simp; omega, HST, lrow_set8 L3.out (by have := HSZ.out; omega), oth8 D1.out (by omega), set8 D2.out, below_set8 BB.out (by omega), by show _ ≤ _; have := SS.out; simp [World.setCell]; omega⟩, meas_up hlt⟩
              · have a1 : gone1 x gone 0 = gone := by unfold gone1; rw [if_neg (by simp [hg])]
                have a2 : ig1 r x ig 0 = ig := by unfold ig1; rw [if_neg (by simp [hg])]
                have a3 : wt1 x wt 0 = 0 := by unfold wt1; rw [if_neg (by simp [h4])]
                rw [a1, a2, a3] at HST
                rw [a1, a2] at HY
                have b3 : (x.ph != 4) = true := by simp [h4]
                clear a1 a2 a3
                by_cases hp1 : x.ph ≥ 1
                · have b1 := decide_eq_true hp1
                  have b2 : decide (x.ph ≤ 3) = false := decide_eq_false (fun h => hg (goes_yes ⟨hp1, h⟩))
                  clear hp1 hg h4
                  by_cases hy5 : y.ph = 5
                  · have v1 : (y.ph == 5) = true := by simp [hy5]
                    by_cases hx5 : x.ph = 5
                    · have v2 : (x.ph != 5) = false := by simp [hx5]
                      clear hy5 hx5
                      go_wp2_with fail
                      exact ⟨⟨i + 1, y, gone, 0, ig, done ++ [0], by omega, by go_num, rfl, rfl, rfl, by simp; omega, HST, lrow_set8 L3.out (by have := HSZ.out; omega), oth8 D1.out (by omega), set8 D2.out, below_set8 BB.out (by omega), by show _ ≤ _; have := SS.out; simp [World.setCell]; omega⟩, meas_up hlt⟩
                    · have v2 : (x.ph != 5) = true := by simp [hx5]
                      obtain ⟨hk1, hk2⟩ := HY.out hy5 hx5
                      have v3 : (gone != r.m0 + r.m1 + r.m2) = false := by simp [hk1]
                      have v4 := HWR1.out
                      have v5 := HWR2.out
                      have HK2 := Lib.hid hk2
                      rw [hk2]
                      clear hy5 hx5 hk1 hk2
                      go_wp2_with fail
                      rw [HK2.out] at HST
                      exact ⟨⟨i + 1, y, gone, 0, true, done ++ [0], by omega, by go_num, rfl, rfl, rfl, by simp; omega, HST, lrow_set8 L3.out (by have := HSZ.out; omega), oth8 D1.out (by omega), set8 D2.out, below_set8 BB.out (by omega), by show _ ≤ _; have := SS.out; simp [World.setCell]; omega⟩, meas_up hlt⟩
                  · have v1 : (y.ph == 5) = false := by simp [hy5]
                    clear hy5
                    go_wp2_with fail
                    exact ⟨⟨i + 1, y, gone, 0, ig, done ++ [0], by omega, by go_num, rfl, rfl, rfl, by simp; omega, HST, lrow_set8 L3.out (by have := HSZ.out; omega), oth8 D1.out (by omega), set8 D2.out, below_set8 BB.out (by omega), by show _ ≤ _; have := SS.out; simp [World.setCell]; omega⟩, meas_up hlt⟩
                · have b1 := decide_eq_false hp1
                  clear hp1 hg h4
                  by_cases hy5 : y.ph = 5
                  · have v1 : (y.ph == 5) = true := by simp [hy5]
                    by_cases hx5 : x.ph = 5
                    · have v2 : (x.ph != 5) = false := by simp [hx5]
                      clear hy5 hx5
                      go_wp2_with fail
                      exact ⟨⟨i + 1, y, gone, 0, ig, done ++ [0], by omega, by go_num, rfl, rfl, rfl, by simp; omega, HST, lrow_set8 L3.out (by have := HSZ.out; omega), oth8 D1.out (by omega), set8 D2.out, below_set8 BB.out (by omega), by show _ ≤ _; have := SS.out; simp [World.setCell]; omega⟩, meas_up hlt⟩
                    · have v2 : (x.ph != 5) = true := by simp [hx5]
                      obtain ⟨hk1, hk2⟩ := HY.out hy5 hx5
                      have v3 : (gone != r.m0 + r.m1 + r.m2) = false := by simp [hk1]
                      have v4 := HWR1.out
                      have v5 := HWR2.out
                      have HK2 := Lib.hid hk2
                      rw [hk2]
                      clear hy5 hx5 hk1 hk2
                      go_wp2_with fail
                      rw [HK2.out] at HST
                      exact ⟨⟨i + 1, y, gone, 0, true, done ++ [0], by omega, by go_num, rfl, rfl, rfl, by simp; omega, HST, lrow_set8 L3.out (by have := HSZ.out; omega), oth8 D1.out (by omega), set8 D2.out, below_set8 BB.out (by omega), by show _ ≤ _; have := SS.out; simp [World.setCell]; omega⟩, meas_up hlt⟩
                  · have v1 : (y.ph == 5) = false := by simp [hy5]
                    clear hy5
                    go_wp2_with fail
                    exact ⟨⟨i + 1, y, gone, 0, ig, done ++ [0], by omega, by go_num, rfl, rfl, rfl, by simp; omega, HST, lrow_set8 L3.out (by have := HSZ.out; omega), oth8 D1.out (by omega), set8 D2.out, below_set8 BB.out (by omega), by show _ ≤ _; have := SS.out; simp [World.setCell]; omega⟩, meas_up hlt⟩
          · have t1 : (ev == 0) = false := by simp [he]
            have t2 : (ev != 0) = true := by simp [he]
            have a1 : gone1 x gone ev = gone := by unfold gone1; rw [if_neg (by simp [he])]
            have a2 : ig1 r x ig ev = ig := by unfold ig1; rw [if_neg (by simp [he])]
            have a3 : wt1 x wt ev = 0 := by unfold wt1; rw [if_neg (by simp [he])]
            rw [a1, a2, a3] at HST
            rw [a1, a2] at HY
            clear a1 a2 a3 he
            have b1 : decide (x.ph ≥ 1) = true ∨ decide (x.ph ≥ 1) = false := by cases decide (x.ph ≥ 1) <;> simp
            by_cases hp1 : x.ph ≥ 1
            · have b1 := decide_eq_true hp1
              by_cases hp3 : x.ph ≤ 3
              · have b2 := decide_eq_true hp3
                clear hp1 hp3
                by_cases hy5 : y.ph = 5
                · have v1 : (y.ph == 5) = true := by simp [hy5]
                  by_cases hx5 : x.ph = 5
                  · have v2 : (x.ph != 5) = false := by simp [hx5]
                    clear hy5 hx5
                    go_wp2_with fail
                    exact ⟨⟨i + 1, y, gone, 0, ig, done ++ [ev], by omega, by go_num, rfl, rfl, rfl, by simp; omega, HST, lrow_set8 L3.out (by have := HSZ.out; omega), oth8 D1.out (by omega), set8 D2.out, below_set8 BB.out (by omega), by show _ ≤ _; have := SS.out; simp [World.setCell]; omega⟩, meas_up hlt⟩
                  · have v2 : (x.ph != 5) = true := by simp [hx5]
                    obtain ⟨hk1, hk2⟩ := HY.out hy5 hx5
                    have v3 : (gone != r.m0 + r.m1 + r.m2) = false := by simp [hk1]
                    have v4 := HWR1.out
                    have v5 := HWR2.out
                    have HK2 := Lib.hid hk2
                    rw [hk2]
                    clear hy5 hx5 hk1 hk2
                    go_wp2_with fail
                    rw [HK2.out] at HST
                    exact ⟨⟨i + 1, y, gone, 0, true, done ++ [ev], by omega, by go_num, rfl, rfl, rfl, by simp; omega, HST, lrow_set8 L3.out (by have := HSZ.out; omega), oth8 D1.out (by omega), set8 D2.out, below_set8 BB.out (by omega), by show _ ≤ _; have := SS.out; simp [World.setCell]; omega⟩, meas_up hlt⟩
                · have v1 : (y.ph == 5) = false := by simp [hy5]
                  clear hy5
                  go_wp2_with fail
                  exact ⟨⟨i + 1, y, gone, 0, ig, done ++ [ev], by omega, by go_num, rfl, rfl, rfl, by simp; omega, HST, lrow_set8 L3.out (by have := HSZ.out; omega), oth8 D1.out (by omega), set8 D2.out, below_set8 BB.out (by omega), by show _ ≤ _; have := SS.out; simp [World.setCell]; omega⟩, meas_up hlt⟩
              · have b2 := decide_eq_false hp3
                clear hp1 hp3
                by_cases hy5 : y.ph = 5
                · have v1 : (y.ph == 5) = true := by simp [hy5]
                  by_cases hx5 : x.ph = 5
                  · have v2 : (x.ph != 5) = false := by simp [hx5]
                    clear hy5 hx5
                    go_wp2_with fail
                    exact ⟨⟨i + 1, y, gone, 0, ig, done ++ [ev], by omega, by go_num, rfl, rfl, rfl, by simp; omega, HST, lrow_set8 L3.out (by have := HSZ.out; omega), oth8 D1.out (by omega), set8 D2.out, below_set8 BB.out (by omega), by show _ ≤ _; have := SS.out; simp [World.setCell]; omega⟩, meas_up hlt⟩
                  · have v2 : (x.ph != 5) = true := by simp [hx5]
                    obtain ⟨hk1, hk2⟩ := HY.out hy5 hx5
                    have v3 : (gone != r.m0 + r.m1 + r.m2) = false := by simp [hk1]
                    have v4 := HWR1.out
                    have v5 := HWR2.out
                    have HK2 := Lib.hid hk2
                    rw [hk2]
                    clear hy5 hx5 hk1 hk2
                    go_wp2_with fail
                    rw [HK2.out] at HST
                    exact ⟨⟨i + 1, y, gone, 0, true, done ++ [ev], by omega, by go_num, rfl, rfl, rfl, by simp; omega, HST, lrow_set8 L3.out (by have := HSZ.out; omega), oth8 D1.out (by omega), set8 D2.out, below_set8 BB.out (by omega), by show _ ≤ _; have := SS.out; simp [World.setCell]; omega⟩, meas_up hlt⟩
                · have v1 : (y.ph == 5) = false := by simp [hy5]
                  clear hy5
                  go_wp2_with fail
                  exact ⟨⟨i + 1, y, gone, 0, ig, done ++ [ev], by omega, by go_num, rfl, rfl, rfl, by simp; omega, HST, lrow_set8 L3.out (by have := HSZ.out; omega), oth8 D1.out (by omega), set8 D2.out, below_set8 BB.out (by omega), by show _ ≤ _; have := SS.out; simp [World.setCell]; omega⟩, meas_up hlt⟩
            · have b1 := decide_eq_false hp1
              clear hp1
              by_cases hy5 : y.ph = 5
              · have v1 : (y.ph == 5) = true := by simp [hy5]
                by_cases hx5 : x.ph = 5
                · have v2 : (x.ph != 5) = false := by simp [hx5]
                  clear hy5 hx5
                  go_wp2_with fail
                  exact ⟨⟨i + 1, y, gone, 0, ig, done ++ [ev], by omega, by go_num, rfl, rfl, rfl, by simp; omega, HST, lrow_set8 L3.out (by have := HSZ.out; omega), oth8 D1.out (by omega), set8 D2.out, below_set8 BB.out (by omega), by show _ ≤ _; have := SS.out; simp [World.setCell]; omega⟩, meas_up hlt⟩
                · have v2 : (x.ph != 5) = true := by simp [hx5]
                  obtain ⟨hk1, hk2⟩ := HY.out hy5 hx5
                  have v3 : (gone != r.m0 + r.m1 + r.m2) = false := by simp [hk1]
                  have v4 := HWR1.out
                  have v5 := HWR2.out
                  have HK2 := Lib.hid hk2
                  rw [hk2]
                  clear hy5 hx5 hk1 hk2
                  go_wp2_with fail
                  rw [HK2.out] at HST
                  exact ⟨⟨i + 1, y, gone, 0, true, done ++ [ev], by omega, by go_num, rfl, rfl, rfl, by simp; omega, HST, lrow_set8 L3.out (by have := HSZ.out; omega), oth8 D1.out (by omega), set8 D2.out, below_set8 BB.out (by omega), by show _ ≤ _; have := SS.out; simp [World.setCell]; omega⟩, meas_up hlt⟩
              · have v1 : (y.ph == 5) = false := by simp [hy5]
                clear hy5
                go_wp2_with fail
                exact ⟨⟨i + 1, y, gone, 0, ig, done ++ [ev], by omega, by go_num, rfl, rfl, rfl, by simp; omega, HST, lrow_set8 L3.out (by have := HSZ.out; omega), oth8 D1.out (by omega), set8 D2.out, below_set8 BB.out (by omega), by show _ ≤ _; have := SS.out; simp [World.setCell]; omega⟩, meas_up hlt⟩
      · obtain rfl : i = xs.length := by omega
        have hPE : playE r done = (x, done.length, 0) := by
          unfold playE
          rw [HOK.out]
          have h1 : ¬ 256 < done.length := by omega
          have h2 : allEv done = true := by
            unfold allEv
            rw [List.all_eq_true]
            intro e he
            have := HI.out.evs e he
            unfold inR
            simpa using this
          rw [if_pos rfl, if_neg h1, if_pos h2, HI.out.hdone]
        have hIN := ints_of_row HL.out
        have HIN := Lib.hid hIN
        obtain ⟨ad, cd, rfl, _⟩ := hIN
        obtain ⟨r0, r1, r2, r3, r4, r5, r6, r7, r8, r9, r10, r11, r12⟩ := ru13 KR.out
        clear HI HL
        go_wp2_with fail
        refine (Play_any r done _ _ HIN.out).mono ?_
        rintro e w1 ⟨rfl, hb⟩
        rw [hPE]
        have D2 := Lib.hid ((heap_alloc_old _ (rnO x) (blk_lt (blk_keep KX.out hb (blk_lt KX.out)))).trans (blk_keep KX.out hb (blk_lt KX.out)))
        have BB := Lib.hid (ba (o := rnO x) (bt KB.out hb))
        obtain ⟨x0, x1, x2, x3, x4, x5, x6, x7⟩ := rn8 D2.out
        have hq := eql_crun x.ph x.be x.mi x.wa x.l0 x.l1 x.l2 x.te
        clear r0 r1 r2 r3 r4 r5 r6 r7 r8 r9 r10 r11 r12 hb hPE
        go_wp2_with fail
        refine (awake05_any _).mono ?_
        rintro e w2 ⟨rfl, hb⟩
        have B2 := Lib.hid (bt BB.out hb)
        clear x0 x1 x2 x3 x4 x5 x6 x7 hb
        go_wp2_with fail
        go_ret
        exact ⟨rfl, B2.out⟩
end Go.Proofs.Ytmfochplnchgcaa
