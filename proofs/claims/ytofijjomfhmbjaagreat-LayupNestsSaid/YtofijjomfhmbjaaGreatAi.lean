/- Part i of the lemmas and walks. -/
import Derived.Test.YtofijjomfhmbjaaGreatAh

namespace Go.Proofs.YtofijjomfhmbjaaGreat
open Go.RowKit

set_option maxRecDepth 100000 in
set_option maxHeartbeats 16000000 in
theorem qcheckNest_any {l : List (Int × Int)} {m : Int} (ls : List (Int × Int)) (v vl : Value) (w : World) (hv : PairsOf w v l) (hl : PairsOf w vl ls) (hcap : CapOk vl) :
  Calls Tryz.prog 12 #[v, .int .i64 m, vl] w (RetTwoN (chkLen l m ls) (chkErr l m ls) w) := by
 have HV := Lib.hid hv
 obtain ⟨aoj, capj, rfl, hJ⟩ := hv
 obtain ⟨aol, capl, rfl, hL⟩ := hl
 have HJE := Lib.hid hJ
 have HLE := Lib.hid hL
 have hcp : ls.length ≤ capl ∧ capl ≤ maxLen := by
  obtain ⟨a, l, c, e, h1, h2⟩ := hcap
  simp only [Value.slice.injEq] at e
  obtain ⟨rfl, rfl, rfl⟩ := e
  exact ⟨h1, h2⟩
 unfold maxLen at hcp
 clear hJ hL hcap
 by_cases hz : pcsErr l m = 0
 ·
  have HZ := Lib.hid hz
  have HG := Lib.hid (okPcs_of hz)
  clear hz
  by_cases hll : ls.length = l.length
  ·
   skip
   have hlen := HG.out.len
   have hm1 := HG.out.m1
   have hm2 := HG.out.m2
   have H1 := Lib.hid hll
   have t1 : ((ls.length : Int) != (l.length : Int)) = false := by simp [hll]
   have hls : ls.length ≤ 24 := by omega
   clear hll
   go_enter Tryz.func12, Tryz.ntmps12
   go_wp2_with fail
   refine (qpieces_any _ _ HV.out).mono ?_
   rw [HZ.out]
   rintro e w1 ⟨rfl, hb1⟩
   go_wp2_with fail
   go_loopw [9, 10] (fun nv iv wr => ∃ (i : Nat), i ≤ l.length ∧ iv = .int .i64 i ∧ nv = .int .i64 (endZ l ls i) ∧ Hid (firstErr (atErr l m ls) i = 0) ∧ Below w.heap.size w wr)
    (fun _ iv _ => l.length - (intOf iv).toNat)
   case atStart => exact ⟨0, Nat.zero_le _, rfl, rfl, rfl, hb1⟩
   case round =>
    clear hb1
    obtain ⟨i, hi, rfl, rfl, hA, hbel⟩ := hrel
    have Hprev : Hid (∀ j, j < i → (0 ≤ (ls.getD j (0, 0)).1 ∧ (ls.getD j (0, 0)).1 ≤ 1099511627776) ∧ 0 ≤ (ls.getD j (0, 0)).2 ∧ (ls.getD j (0, 0)).2 ≤ m - (l.getD j (0, 0)).2) := fun j hj => out_ok (at_ok (firstErr_all hA.out j hj)).1
    have hend := endZ_rangeA (m := m) HG.out i hi (fun j hj => (Hprev.out j hj).1.2)
    by_cases hltj : i < l.length
    ·
     have hlt : i < ls.length := by rw [H1.out]; exact hltj
     obtain ⟨b, off, rfl, hbl, hLL⟩ := HLE.out (by omega)
     obtain ⟨bj, offj, rfl, hblj, hJJ⟩ := HJE.out (by omega)
     obtain ⟨g0, g1⟩ := (hLL i hlt).below hbel hbl
     obtain ⟨k0, k1⟩ := (hJJ i hltj).below hbel hblj
     have hlt' : (i : Int) < ls.length := by omega
     have hltj' : (i : Int) < l.length := by omega
     have hge' : (0 : Int) ≤ i := by omega
     have hicap : (i : Int) ≤ capl := by omega
     have hbl2 : b < wr.heap.size := Nat.lt_of_lt_of_le hbl hbel.size
     have hblj2 : bj < wr.heap.size := Nat.lt_of_lt_of_le hblj hbel.size
     have hp := HG.out.at hltj
     have Hend1 : Hid (endZ l ls (i + 1) = max (endZ l ls i) ((ls.getD i (0, 0)).1 + (l.getD i (0, 0)).1)) := rfl
     have Hout : Hid (outB l m ls i = (!(decide (0 ≤ (ls.getD i (0, 0)).1) && decide ((ls.getD i (0, 0)).1 ≤ 1099511627776)) || (decide ((ls.getD i (0, 0)).2 < 0) || decide ((ls.getD i (0, 0)).2 > m - (l.getD i (0, 0)).2)))) := rfl
     have Hgood : Hid (outB l m ls i = false → overTo l ls i i = false → firstErr (atErr l m ls) (i + 1) = 0) := fun h h2 => by rw [firstErr_step hA.out]; exact at_none h h2
     have Hov : Hid (∀ k, overlapB l ls i k = (decide ((ls.getD i (0, 0)).1 < (ls.getD k (0, 0)).1 + (l.getD k (0, 0)).1) && (decide ((ls.getD k (0, 0)).1 < (ls.getD i (0, 0)).1 + (l.getD i (0, 0)).1) && (decide ((ls.getD i (0, 0)).2 < (ls.getD k (0, 0)).2 + (l.getD k (0, 0)).2) && decide ((ls.getD k (0, 0)).2 < (ls.getD i (0, 0)).2 + (l.getD i (0, 0)).2))))) := fun k => rfl
     have Hno : Hid (outB l m ls i = true → chkErr l m ls = 1 ∧ chkLen l m ls = 0) := fun h => by
      have e := at_out h
      have := chk_stop HZ.out H1.out hA.out hltj (by rw [e]; decide)
      rwa [e] at this
     have Hno2 : Hid (outB l m ls i = false → overTo l ls i i = true → chkErr l m ls = 8 ∧ chkLen l m ls = 0) := fun h h2 => by
      have e := at_over h h2
      have := chk_stop HZ.out H1.out hA.out hltj (by rw [e]; decide)
      rwa [e] at this
     have HLL := Lib.hid hLL
     have HJJ := Lib.hid hJJ
     clear hLL hJJ
     generalize (ls.getD i (0, 0)).1 = x0 at *
     generalize (ls.getD i (0, 0)).2 = x1 at *
     generalize (l.getD i (0, 0)).1 = r at *
     generalize (l.getD i (0, 0)).2 = d at *
     have hN := blk_new wr #[.int .i64 x0, .int .i64 x1] 45
     have hal := (Below.refl wr.heap.size wr).alloc (Nat.le_refl _) (.cells #[.int .i64 x0, .int .i64 x1] 45)
     have hxa := hbel.alloc hbel.size (.cells #[.int .i64 x0, .int .i64 x1] 45)
     have hwd : IntKind.i64.wrap (m - d) = m - d := IntWalk.i64_in _ (by omega)
     have s0 := blk_cell hN 0 (.int .i64 x0) rfl
     have s1 := blk_cell hN 1 (.int .i64 x1) rfl
     have j0 := (hal.cell (p := ⟨bj, offj + i * 2, none⟩) hblj2).trans k0
     have j1 := (hal.cell (p := ⟨bj, offj + i * 2 + 1, none⟩) hblj2).trans k1
     by_cases c1 : x0 < 0
     ·
      have t2 : decide (x0 < 0) = true := decide_eq_true c1
      have Hv : Hid (chkErr l m ls = 1 ∧ chkLen l m ls = 0) := Hno.out (by rw [Hout.out, decide_eq_false (show ¬ 0 ≤ x0 by omega)]; rfl)
      clear c1
      go_wp2_with fail
      go_quiet (fail)
      go_wp2_with fail
      go_ret2
      exact ⟨by rw [Hv.out.1, Hv.out.2]; rfl, below_dn hxa _⟩
     ·
      have t2 : decide (x0 < 0) = false := decide_eq_false c1
      by_cases c2 : x1 < 0
      ·
       have t3 : decide (x1 < 0) = true := decide_eq_true c2
       have Hv : Hid (chkErr l m ls = 1 ∧ chkLen l m ls = 0) := Hno.out (by rw [Hout.out, t3]; simp)
       clear c1 c2
       go_wp2_with fail
       go_quiet (fail)
       go_wp2_with fail
       go_ret2
       exact ⟨by rw [Hv.out.1, Hv.out.2]; rfl, below_dn hxa _⟩
      ·
       have t3 : decide (x1 < 0) = false := decide_eq_false c2
       by_cases c3 : x0 > 1099511627776
       ·
        have t4 : decide (x0 > 1099511627776) = true := decide_eq_true c3
        have Hv : Hid (chkErr l m ls = 1 ∧ chkLen l m ls = 0) := Hno.out (by rw [Hout.out, decide_eq_false (show ¬ x0 ≤ 1099511627776 by omega)]; simp)
        clear c1 c2 c3
        go_wp2_with fail
        go_quiet (fail)
        go_wp2_with fail
        go_ret2
        exact ⟨by rw [Hv.out.1, Hv.out.2]; rfl, below_dn hxa _⟩
       ·
        have t4 : decide (x0 > 1099511627776) = false := decide_eq_false c3
        by_cases c4 : x1 > m - d
        ·
         have t5 : decide (x1 > m - d) = true := decide_eq_true c4
         have Hv : Hid (chkErr l m ls = 1 ∧ chkLen l m ls = 0) := Hno.out (by rw [Hout.out, t5]; simp)
         clear c1 c2 c3 c4
         go_wp2_with fail
         go_quiet (fail)
         go_wp2_with fail
         go_ret2
         exact ⟨by rw [Hv.out.1, Hv.out.2]; rfl, below_dn hxa _⟩
        ·
         have t5 : decide (x1 > m - d) = false := decide_eq_false c4
         have Hv : Hid (outB l m ls i = false) := by show _ = _; rw [Hout.out, decide_eq_true (show 0 ≤ x0 by omega), decide_eq_true (show x0 ≤ 1099511627776 by omega), t3, t5]; rfl
         have hx0 : 0 ≤ x0 ∧ x0 ≤ 1099511627776 := by omega
         have hx1r : 0 ≤ x1 ∧ x1 ≤ m - d := by omega
         clear Hout
         go_wp2_with fail
         go_quiet (fail)
         go_wp2_with fail
         have hNd : ((wr.alloc (.cells #[.int .i64 x0, .int .i64 x1] 45)).drewN nq).heap[wr.heap.size]? = some (.cells #[.int .i64 x0, .int .i64 x1] 45 (0, 0)) := hN
         have hxd := below_dn hxa nq
         have j0d : ((wr.alloc (.cells #[.int .i64 x0, .int .i64 x1] 45)).drewN nq).cell? ⟨bj, offj + i * 2, none⟩ = some (.int .i64 r) := j0
         have j1d : ((wr.alloc (.cells #[.int .i64 x0, .int .i64 x1] 45)).drewN nq).cell? ⟨bj, offj + i * 2 + 1, none⟩ = some (.int .i64 d) := j1
         have hsz1 : wr.heap.size < ((wr.alloc (.cells #[.int .i64 x0, .int .i64 x1] 45)).drewN nq).heap.size := by show wr.heap.size < (wr.alloc _).heap.size; simp
         clear hN hal hxa g0 g1 k0 k1 hbel hbl2 hblj2 s0 s1 j0 j1 t2 t3 t4 t5 c1 c2 c3 c4 hwd
         generalize wr.heap.size = B9 at *
         generalize ((wr.alloc (.cells #[.int .i64 x0, .int .i64 x1] 45)).drewN nq) = W1 at *
         go_loopw [12] (fun kv wq => ∃ (k : Nat), k ≤ i ∧ kv = .int .i64 k ∧ Hid (overTo l ls i k = false) ∧ Below W1.heap.size W1 wq) (fun kv _ => i - (intOf kv).toNat)
         case atStart => exact ⟨0, Nat.zero_le _, rfl, rfl, Below.refl _ _⟩
         case round =>
          obtain ⟨k, hk, rfl, hHt, hxq⟩ := hrel
          have hxw := hxd.trans (hxq.mono hxd.size)
          by_cases hkl : k < i
          ·
           have hkl' : (k : Int) < i := by omega
           have hkg' : (0 : Int) ≤ k := by omega
           have hkj' : (k : Int) < l.length := by omega
           have hkls' : (k : Int) < ls.length := by omega
           obtain ⟨e0, e1⟩ := (HLL.out k (by omega)).below hxw hbl
           obtain ⟨f0, f1⟩ := (HJJ.out k (by omega)).below hxw hblj
           have hNq := blk_keep hNd hxq hsz1
           have s0 := blk_cell hNq 0 (.int .i64 x0) rfl
           have s1 := blk_cell hNq 1 (.int .i64 x1) rfl
           have j0 := (hxq.cell (World.block_lt_of_cell? (h := j0d))).trans j0d
           have j1 := (hxq.cell (World.block_lt_of_cell? (h := j1d))).trans j1d
           have hblq : b < wr.heap.size := Nat.lt_of_lt_of_le hbl hxw.size
           have hbljq : bj < wr.heap.size := Nat.lt_of_lt_of_le hblj hxw.size
           have hB9q := blk_lt hNq
           have hpk := HG.out.at (show k < l.length by omega)
           have hqk := Hprev.out k hkl
           have Hh2 := Lib.hid (Hov.out k)
           have Hst1 : Hid (overTo l ls i (k + 1) = (overTo l ls i k || overlapB l ls i k)) := rfl
           have Hstop : Hid (overlapB l ls i k = true → chkErr l m ls = 8 ∧ chkLen l m ls = 0) := fun h => Hno2.out Hv.out (over_stop hkl h)
           generalize (ls.getD k (0, 0)).1 = y0 at *
           generalize (ls.getD k (0, 0)).2 = y1 at *
           generalize (l.getD k (0, 0)).1 = rk at *
           generalize (l.getD k (0, 0)).2 = dk at *
           generalize overlapB l ls i k = ov at *
           have hw1 : IntKind.i64.wrap (y0 + rk) = y0 + rk := IntWalk.i64_in _ (by omega)
           have hw2 : IntKind.i64.wrap (x0 + r) = x0 + r := IntWalk.i64_in _ (by omega)
           have hw3 : IntKind.i64.wrap (y1 + dk) = y1 + dk := IntWalk.i64_in _ (by omega)
           have hw4 : IntKind.i64.wrap (x1 + d) = x1 + d := IntWalk.i64_in _ (by omega)
           by_cases c1 : x0 < y0 + rk
           ·
            have t1 : decide (x0 < y0 + rk) = true := decide_eq_true c1
            by_cases c2 : y0 < x0 + r
            ·
             have t2 : decide (y0 < x0 + r) = true := decide_eq_true c2
             by_cases c3 : x1 < y1 + dk
             ·
              have t3 : decide (x1 < y1 + dk) = true := decide_eq_true c3
              by_cases c4 : y1 < x1 + d
              ·
               have t4 : decide (y1 < x1 + d) = true := decide_eq_true c4
               have Hw : Hid (chkErr l m ls = 8 ∧ chkLen l m ls = 0) := Hstop.out (by rw [Hh2.out, t1, t2, t3, t4]; rfl)
               go_wp2_with fail
               go_quiet (fail)
               go_wp2_with fail
               go_ret2
               exact ⟨by rw [Hw.out.1, Hw.out.2]; rfl, hxd.trans ((below_dn hxq _).mono hxd.size)⟩
              ·
               have t4 : decide (y1 < x1 + d) = false := decide_eq_false c4
               have Hn : Hid (overTo l ls i (k + 1) = false) := by show _ = _; rw [Hst1.out, Hh2.out, hHt.out, t1, t2, t3, t4]; rfl
               go_wp2_with fail
               go_quiet (fail)
               go_wp2_with fail
               exact ⟨⟨k + 1, by omega, by go_num, Hn, below_dn hxq _⟩, meas_up hkl⟩
             ·
              have t3 : decide (x1 < y1 + dk) = false := decide_eq_false c3
              have Hn : Hid (overTo l ls i (k + 1) = false) := by show _ = _; rw [Hst1.out, Hh2.out, hHt.out, t1, t2, t3]; rfl
              go_wp2_with fail
              go_quiet (fail)
              go_wp2_with fail
              exact ⟨⟨k + 1, by omega, by go_num, Hn, below_dn hxq _⟩, meas_up hkl⟩
            ·
             have t2 : decide (y0 < x0 + r) = false := decide_eq_false c2
             have Hn : Hid (overTo l ls i (k + 1) = false) := by show _ = _; rw [Hst1.out, Hh2.out, hHt.out, t1, t2]; rfl
             go_wp2_with fail
             go_quiet (fail)
             go_wp2_with fail
             exact ⟨⟨k + 1, by omega, by go_num, Hn, below_dn hxq _⟩, meas_up hkl⟩
           ·
            have t1 : decide (x0 < y0 + rk) = false := decide_eq_false c1
            have Hn : Hid (overTo l ls i (k + 1) = false) := by show _ = _; rw [Hst1.out, Hh2.out, hHt.out, t1]; rfl
            go_wp2_with fail
            go_quiet (fail)
            go_wp2_with fail
            exact ⟨⟨k + 1, by omega, by go_num, Hn, below_dn hxq _⟩, meas_up hkl⟩
          ·
           obtain rfl : k = i := by omega
           have hNq := blk_keep hNd hxq hsz1
           have s0 := blk_cell hNq 0 (.int .i64 x0) rfl
           have j0 := (hxq.cell (World.block_lt_of_cell? (h := j0d))).trans j0d
           have hbljq : bj < wr.heap.size := Nat.lt_of_lt_of_le hblj hxw.size
           have hB9q := blk_lt hNq
           have hw2 : IntKind.i64.wrap (x0 + r) = x0 + r := IntWalk.i64_in _ (by omega)
           have Hv1 : Hid (firstErr (atErr l m ls) (k + 1) = 0) := Hgood.out Hv.out hHt.out
           go_wp2_with fail
           go_quiet (fail)
           go_wp2_with fail
           exact ⟨⟨k + 1, by omega, by go_num, by rw [Hend1.out], Hv1, below_dn hxw _⟩, meas_up hltj⟩
    ·
     obtain rfl : i = l.length := by omega
     have HE := Lib.hid (chk_end HZ.out H1.out hA.out)
     clear hA
     go_wp2_with fail
     go_ret2
     exact ⟨by rw [HE.out.1, HE.out.2]; rfl, hbel⟩
  ·
   have HR := Lib.hid (chk_size (m := m) HZ.out hll)
   have t1 : ((ls.length : Int) != (l.length : Int)) = true := bne_iff_ne.2 (by omega)
   clear hll
   go_enter Tryz.func12, Tryz.ntmps12
   go_wp2_with fail
   refine (qpieces_any _ _ HV.out).mono ?_
   rw [HZ.out]
   rintro e w1 ⟨rfl, hb1⟩
   go_wp2_with fail
   go_ret2
   exact ⟨by rw [HR.out.1, HR.out.2]; rfl, hb1⟩
 ·
  have te : (pcsErr l m != 0) = true := bne_iff_ne.2 hz
  have HR := Lib.hid (chk_pcs (ls := ls) hz)
  have HP := qpieces_any (m := m) _ w HV.out
  generalize pcsErr l m = er at *
  clear hz
  go_enter Tryz.func12, Tryz.ntmps12
  go_wp2_with fail
  refine HP.mono ?_
  rintro e w1 ⟨rfl, hb1⟩
  go_wp2_with fail
  go_ret2
  exact ⟨by rw [HR.out.1, HR.out.2]; rfl, hb1⟩

end Go.Proofs.YtofijjomfhmbjaaGreat
