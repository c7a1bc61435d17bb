/- Part g of the lemmas and walks. -/
import Derived.Test.YtemkhgdhoingiaaGreatEf

namespace Go.Proofs.YtemkhgdhoingiaaGreat
open Go.RowKit

def CapP (v : Value) : Prop := ∃ a n c, v = .slice a n c ∧ n ≤ c
theorem pathErr_r {l : List Pt} (h1 : 2 ≤ l.length) (h2 : l.length ≤ 32) (h : ptsOk l = false) : pathErr l = 1 := by
 unfold pathErr
 rw [if_neg (by omega), if_pos h]
theorem inB_yes {m : Int} (h : inB m 0 1073741824 = true) : ¬ (m < 0 ∨ 1073741824 < m) := by
 have := (inB_iff m 0 1073741824).1 h
 omega
theorem inB_not {m : Int} (h : inB m 0 1073741824 = false) : m < 0 ∨ 1073741824 < m := by
 have := (inB_iff m 0 1073741824)
 by_cases h2 : 0 ≤ m ∧ m ≤ 1073741824
 ·
  rw [this.2 h2] at h; cases h
 ·
  omega
theorem tw_ne {l : List Pt} {i j n : Nat} (h : anyTo (twB l) n = false) (hj : i = j + 1) (hi : i < n) : ¬ ((ptAt l i).1 = (ptAt l j).1 ∧ (ptAt l i).2 = (ptAt l j).2) := fun ⟨h1, h2⟩ => by
 have := anyTo_sub h hi
 rw [twB_in hj, decide_eq_true h1, decide_eq_true h2] at this
 cases this
theorem Sx.st_II {w0 w : World} {bs : List Bx} {fs : List Fx} (h : Sx w0 w bs fs) (i : Nat) (o0 : Int) (o1 : Int) (n0 : Int) (n1 : Int) {B T : Nat} (hi : bs[i]? = some (B, #[.int .i64 o0, .int .i64 o1], T)) :
  Sx w0 (((w).setCell ⟨B, 0, none⟩ (.int .i64 n0)).setCell ⟨B, 1, none⟩ (.int .i64 n1)) (bs.set i (B, #[.int .i64 n0, .int .i64 n1], T)) fs := by
 have hl := (List.getElem?_eq_some_iff.1 hi).1
 have g := ((h).set i hi 0 (v := .int .i64 n0) rfl).set i (by rw [List.getElem?_set, if_pos rfl, if_pos (by simpa using hl)]) 1 (v := .int .i64 n1) rfl
 simpa using g
set_option maxRecDepth 100000 in
set_option maxHeartbeats 8000000 in
theorem psteered_any (l : List Pt) (m : Int) (v : Value) (w : World) (h : PairsOf w v l) (hcap : CapP v) : Calls Tryz.prog 15 #[v, .int .i64 m] w (RetII (stVal l m) (stErr l m) w) := by
 have HS := Lib.hid (Sx.init w)
 have HP := Lib.hid h
 obtain ⟨ao, cap, rfl, hE⟩ := h
 obtain ⟨ca, cn, cc, hce, hcc⟩ := hcap
 cases hce
 have HCAP := Lib.hid hcc
 clear hcc
 have HE := Lib.hid hE
 clear hE
 by_cases hl1 : l.length < 2
 ·
  have HR : Hid (pathErr l = 4) := by show _ = _; unfold pathErr; rw [if_pos (by omega)]
  have t1 : decide ((l.length : Int) < 2) = true := decide_eq_true (by omega)
  have t1b : decide (l.length < 2) = true := decide_eq_true (by omega)
  go_enter Tryz.func15, Tryz.ntmps15
  go_wp2_with fail
  go_ret2
  exact ⟨by rw [(stErr_path (m := m) (HR.out) (show (4 : Int) ≠ 0 by decide)).2, (stErr_path (m := m) (HR.out) (show (4 : Int) ≠ 0 by decide)).1] <;> rfl, HS.out.bel⟩
 by_cases hl2 : 32 < l.length
 ·
  have HR : Hid (pathErr l = 4) := by show _ = _; unfold pathErr; rw [if_pos (by omega)]
  have t1 : decide ((l.length : Int) < 2) = false := decide_eq_false (by omega)
  have t1b : decide (l.length < 2) = false := decide_eq_false (by omega)
  have t2 : decide ((l.length : Int) > 32) = true := decide_eq_true (by omega)
  have t2b : decide (32 < l.length) = true := decide_eq_true (by omega)
  go_enter Tryz.func15, Tryz.ntmps15
  go_wp2_with fail
  go_ret2
  exact ⟨by rw [(stErr_path (m := m) (HR.out) (show (4 : Int) ≠ 0 by decide)).2, (stErr_path (m := m) (HR.out) (show (4 : Int) ≠ 0 by decide)).1] <;> rfl, HS.out.bel⟩
 ·
  have HL2 : Hid (2 ≤ l.length) := by show _ ≤ _; omega
  have HL32 : Hid (l.length ≤ 32) := by show _ ≤ _; omega
  have t1 : decide ((l.length : Int) < 2) = false := decide_eq_false (by omega)
  have t1b : decide (l.length < 2) = false := decide_eq_false (by omega)
  have t2 : decide ((l.length : Int) > 32) = false := decide_eq_false (by omega)
  have t2b : decide (32 < l.length) = false := decide_eq_false (by omega)
  go_enter Tryz.func15, Tryz.ntmps15
  go_wp2_with fail
  cases t1 : ptsOk l with
  | true =>
   refine (isRight_any l _ _ (HP.out.below HS.out.bel) (by omega)).mono ?_
   rw [t1]
   rintro e w2 ⟨rfl, hb2⟩
   replace HS := Lib.hid (HS.out.below hb2)
   clear hb2
   have HPO := Lib.hid t1
   obtain ⟨b, off, rfl, hbl, hLL⟩ := HE.out (by have := HL2.out; omega)
   have HBL := Lib.hid hbl
   have HLL := Lib.hid hLL
   clear hbl hLL
   obtain ⟨n1, hn1⟩ : ∃ n, l.length = n + 1 := ⟨l.length - 1, by omega⟩
   have HN1 := Lib.hid hn1
   have hn1b : l.length - 1 = n1 := by omega
   have hcap1 : l.length ≤ cap := HCAP.out
   clear hn1
   go_wp2_with fail
   go_loopw [28] (fun u28 wr => ∃ (i : Nat), i ≤ n1 ∧ u28 = .int .i64 i ∧ Hid (anyTo (twB l) (i + 1) = false) ∧ Hid (Sx w wr [] []))
    (fun u _ => n1 - (intOf u).toNat)
   case atStart => exact ⟨0, Nat.zero_le _, rfl, Lib.hid rfl, Lib.hid (HS.out.bare)⟩
   case round =>
    obtain ⟨wr3, hwr3⟩ : ∃ z, z = wr := ⟨_, rfl⟩
    subst hwr3
    clear HS
    obtain ⟨i, hi, rfl, HTO, HS⟩ := hrel
    by_cases hlt : i < n1
    ·
     have hlt' : (i : Int) < n1 := by omega
     have hge' : (0 : Int) ≤ i := by omega
     have HLT := Lib.hid hlt
     have h2L := HL2.out
     have h32 := HL32.out
     have hLL := HLL.out
     have hn1 := HN1.out
     obtain ⟨k, hk⟩ : ∃ k, k = i + 1 := ⟨_, rfl⟩
     have hkl : k < l.length := by omega
     have hil : i < l.length := by omega
     have hi2 : (i : Int) < l.length := by omega
     obtain ⟨Gg0, Gg1⟩ := hLL i hil
     have G0 := Lib.hid Gg0
     have G1 := Lib.hid Gg1
     clear Gg0 Gg1
     obtain ⟨Fg0, Fg1⟩ := hLL k hkl
     have F0 := Lib.hid Fg0
     have F1 := Lib.hid Fg1
     clear Fg0 Fg1
     have hoff : off + k * 2 = off + 2 + i * 2 := by omega
     rw [hoff] at F0 F1
     have HTW := Lib.hid (twB_in (l := l) (show k = i + 1 from hk))
     have HEQ : ∀ W, (binOp .eql 25 (.agg #[.int .i64 (l.getD k (0, 0)).1, .int .i64 (l.getD k (0, 0)).2]) (.agg #[.int .i64 (l.getD i (0, 0)).1, .int .i64 (l.getD i (0, 0)).2])).run Tryz.prog W = .ok (.bool (twB l k)) W := fun W => by rw [HTW.out]; exact eql_pt _ _ _ _ W
     have HNOT : Hid (twB l k = true → pathErr l = 8) := pathErr_8 h2L h32 HPO.out hkl
     have HUP : Hid (twB l k = false → anyTo (twB l) (i + 1 + 1) = false) := fun h => by rw [← hk]; exact anyTo_up (by rw [hk]; exact HTO.out) h
     clear hLL hlt hkl hil hk HTW hoff hn1
     generalize twB l k = tw at *
     generalize (l.getD i (0, 0)).1 = xi at *
     generalize (l.getD i (0, 0)).2 = yi at *
     generalize (l.getD k (0, 0)).1 = xk at *
     generalize (l.getD k (0, 0)).2 = yk at *
     have Fc0 := (HS.out.bel.cell (p := ⟨b, off + 2 + i * 2, none⟩) HBL.out).trans F0.out
     have Fc1 := (HS.out.bel.cell (p := ⟨b, off + 2 + i * 2 + 1, none⟩) HBL.out).trans F1.out
     go_wp2_with fail
     clear Fc0 Fc1
     generalize hW4 : (wr3).alloc (.cells _ _) = W4 at *
     replace HS := Lib.hid (((HS.out).alloc (B := wr3.heap.size) rfl (by rfl)).to hW4 (by (try simp only [nb5, nb6]); rfl))
     clear hW4
     refine wp_region_held_drew (S := (fun w' => Sx w w' [(wr3.heap.size, #[.int .i64 xk, .int .i64 yk], 25)] [])) (by kernel_rfl) ((HS.out.drew).bare) (fun hh => ?_)
     replace HS := Lib.hid HS.out.drew
     refine tkB (i := 0) (v := ?vk6) rfl ?hk6 ?rk6
     case hk6 => intro u hSu; (try dsimp only at hSu); have qb0e := (hSu.at 0 _ _ _ rfl); have qb0c0 := blk_cell qb0e 0 (.int .i64 xk) rfl; have qb0c1 := blk_cell qb0e 1 (.int .i64 yk) rfl; clear qb0e; clear hSu; go_simp <;> with_reducible rfl
     try simp only [nbs, Act.put]
     refine tkB (i := 1) (v := ?vk7) rfl ?hk7 ?rk7
     case hk7 => intro u hSu; go_simp <;> with_reducible rfl
     try simp only [nbs, Act.put]
     refine tkB (i := 2) (v := ?vk8) rfl ?hk8 ?rk8
     case hk8 => intro u hSu; go_simp <;> with_reducible rfl
     try simp only [nbs, Act.put]
     refine tkB (i := 3) (v := ?vk9) rfl ?hk9 ?rk9
     case hk9 => intro u hSu; go_simp <;> with_reducible rfl
     try simp only [nbs, Act.put]
     refine tkB (i := 4) (v := ?vk10) rfl ?hk10 ?rk10
     case hk10 => intro u hSu; (try dsimp only at hSu); have Gc0 := (hSu.bel.cell (p := ⟨b, off + i * 2, none⟩) HBL.out).trans G0.out; have Gc1 := (hSu.bel.cell (p := ⟨b, off + i * 2 + 1, none⟩) HBL.out).trans G1.out; clear hSu; go_simp <;> with_reducible rfl
     try simp only [nbs, Act.put]
     cases t11 : tw with
     | true =>
      refine tkB (i := 5) (v := ?vk12) rfl ?hk12 ?rk12
      case hk12 => intro u hSu; go_simp <;> with_reducible rfl
      try simp only [nbs, Act.put]
      refine wpAnyH_done (by kernel_rfl) ?_ _
      generalize W4.drew = Wd13 at *
      go_wp2_with fail
      go_ret2
      exact ⟨by rw [(stErr_path (m := m) (HNOT.out t11) (show (8 : Int) ≠ 0 by decide)).2, (stErr_path (m := m) (HNOT.out t11) (show (8 : Int) ≠ 0 by decide)).1] <;> rfl, HS.out.bel⟩
     | false =>
      refine tkB (i := 5) (v := ?vk14) rfl ?hk14 ?rk14
      case hk14 => intro u hSu; go_simp <;> with_reducible rfl
      try simp only [nbs, Act.put]
      refine wpAnyH_done (by kernel_rfl) ?_ _
      generalize W4.drew = Wd15 at *
      go_wp2_with fail
      exact ⟨⟨i + 1, by have := HLT.out; omega, by go_num, Lib.hid (HUP.out t11), Lib.hid ((HS.out).erase 0)⟩, meas_up HLT.out⟩
    ·
     obtain rfl : n1 = i := by omega
     have HPE : Hid (pathErr l = 0) := pathErr_0 HL2.out HL32.out HPO.out (by rw [HN1.out]; exact HTO.out)
     go_wp2_with fail
     cases t16 : inB m 0 1073741824 with
     | true =>
      refine (within_any m 0 1073741824 _).mono ?_
      rw [t16]
      rintro e w17 ⟨rfl, hb17⟩
      replace HS := Lib.hid (HS.out.below hb17)
      clear hb17
      go_wp2_with fail
      have HM : Hid (¬ (m < 0 ∨ 1073741824 < m)) := inB_yes t16
      have HTA : Hid (anyTo (twB l) l.length = false) := by show _ = _; rw [HN1.out]; exact HTO.out
      clear HTO
      go_wp2_with fail
      go_loopw [8] (fun u8 wr => ∃ (i : Nat), i ≤ n1 ∧ u8 = .int .i64 i ∧ 1 ≤ i ∧ Hid (anyTo (narP l m) i = false) ∧ Hid (Sx w wr [] []))
       (fun u _ => n1 - (intOf u).toNat)
      case atStart => exact ⟨1, (by have := HL2.out; have := HN1.out; omega), rfl, Nat.le_refl 1, Lib.hid (anyTo_up rfl (narP_out (by omega))), Lib.hid (HS.out.bare)⟩
      case round =>
       obtain ⟨wr18, hwr18⟩ : ∃ z, z = wr := ⟨_, rfl⟩
       subst hwr18
       clear HS
       obtain ⟨i, hi, rfl, hi1, HTO, HS⟩ := hrel
       by_cases hlt : i < n1
       ·
        have hlt' : (i : Int) < n1 := by omega
        have hge' : (0 : Int) ≤ i := by omega
        have HLT := Lib.hid hlt
        have h2L := HL2.out
        have h32 := HL32.out
        have hLL := HLL.out
        skip
        skip
        have hn1 := HN1.out
        obtain ⟨j, hj⟩ : ∃ j, i = j + 1 := ⟨i - 1, by omega⟩
        obtain ⟨k, hk⟩ : ∃ k, k = i + 1 := ⟨_, rfl⟩
        have hjl : j < l.length := by omega
        have hil : i < l.length := by omega
        have hkl : k < l.length := by omega
        obtain ⟨Dg0, Dg1⟩ := hLL j hjl
        have D0 := Lib.hid Dg0
        have D1 := Lib.hid Dg1
        clear Dg0 Dg1
        obtain ⟨Gg0, Gg1⟩ := hLL i hil
        have G0 := Lib.hid Gg0
        have G1 := Lib.hid Gg1
        clear Gg0 Gg1
        obtain ⟨Fg0, Fg1⟩ := hLL k hkl
        have F0 := Lib.hid Fg0
        have F1 := Lib.hid Fg1
        clear Fg0 Fg1
        have hw1 : IntKind.i64.wrap ((i : Int) - 1) = (j : Int) := (IntWalk.i64_in _ (by omega)).trans (by omega)
        have hw2 : IntKind.i64.wrap ((i : Int) + 1) = (k : Int) := (IntWalk.i64_in _ (by omega)).trans (by omega)
        have hj1 : (0 : Int) ≤ j := by omega
        have hj2 : (j : Int) < l.length := by omega
        have hi2 : (i : Int) < l.length := by omega
        have hk1 : (0 : Int) ≤ k := by omega
        have hk2 : (k : Int) < l.length := by omega
        have tk : decide ((k : Int) < l.length) = true := decide_eq_true hk2
        have tkb : decide (k < l.length) = true := decide_eq_true hkl
        have HNI := Lib.hid (narP_in (m := m) hj hk hkl)
        have HAT : Hid (narP l m i = true → stErr l m = 0 ∧ stVal l m = (i : Int)) := fun h => st_at HPE.out HM.out HTO.out h hil
        have HUP : Hid (narP l m i = false → anyTo (narP l m) (i + 1) = false) := anyTo_up HTO.out
        have oj := ptsOk_get HPO.out j hjl
        have oi := ptsOk_get HPO.out i hil
        have ok := ptsOk_get HPO.out k hkl
        have HK := Lib.hid hk
        clear hn1
        by_cases hz : crossI (ptAt l j) (ptAt l i) (ptAt l k) = 0
        ·
         have hrad := fun W => radius_any (ptAt l j) (ptAt l i) (ptAt l k) W oj oi ok
         have ZR := Lib.hid (rad_sz oj oi ok)
         have hre : radE (ptAt l j) (ptAt l i) (ptAt l k) = 5 := by unfold radE; rw [if_pos hz]
         rw [hre] at hrad
         have HRAD : Hid (∀ W, Calls Tryz.prog 13 #[.agg #[.int .i64 (l.getD j (0, 0)).1, .int .i64 (l.getD j (0, 0)).2], .agg #[.int .i64 (l.getD i (0, 0)).1, .int .i64 (l.getD i (0, 0)).2], .agg #[.int .i64 (l.getD k (0, 0)).1, .int .i64 (l.getD k (0, 0)).2]] W (RetRatE (radQ (ptAt l j) (ptAt l i) (ptAt l k)) 5 W)) := hrad
         have HDOT : Hid (∀ W, Calls Tryz.prog 39 #[.agg #[.int .i64 (l.getD i (0, 0)).1, .int .i64 (l.getD i (0, 0)).2], .agg #[.int .i64 (l.getD j (0, 0)).1, .int .i64 (l.getD j (0, 0)).2], .agg #[.int .i64 (l.getD k (0, 0)).1, .int .i64 (l.getD k (0, 0)).2]] W (RetRat ((dotI (ptAt l i) (ptAt l j) (ptAt l k) : Int) : Rat) W)) := fun W => dot_any (ptAt l i) (ptAt l j) (ptAt l k) W oi oj ok
         have hd0 := line_dot hz (tw_ne HTA.out hj hil) (tw_ne HTA.out HK.out hkl)
         have HNP : Hid (narP l m i = decide (sgnI (decide (((dotI (ptAt l i) (ptAt l j) (ptAt l k) : Int) : Rat).num < 0)) ((dotI (ptAt l i) (ptAt l j) (ptAt l k) : Int) : Rat).num.natAbs ≥ 0)) := by show _ = _; rw [HNI.out]; unfold narB; rw [if_pos hz, sgnI_int, decide_eq_decide]; unfold sgI; split <;> rename_i h <;> (try split) <;> omega
         generalize ((dotI (ptAt l i) (ptAt l j) (ptAt l k) : Int) : Rat) = qd at *
         clear hd0
         generalize radQ (ptAt l j) (ptAt l i) (ptAt l k) = qr at *
         clear hrad hre hz hLL hlt hjl hil hkl hj hk oj oi ok HNI
         generalize (l.getD i (0, 0)).1 = xi at *
         generalize (l.getD i (0, 0)).2 = yi at *
         generalize (l.getD j (0, 0)).1 = xj at *
         generalize (l.getD j (0, 0)).2 = yj at *
         generalize (l.getD k (0, 0)).1 = xk at *
         generalize (l.getD k (0, 0)).2 = yk at *
         go_wp2_with fail
         refine wp_region_held_drew (S := (fun w' => Sx w w' [] [])) (by kernel_rfl) ((HS.out.drew).bare) (fun hh => ?_)
         replace HS := Lib.hid HS.out.drew
         have HSW := Lib.hid HS.out.bel.size
         refine tkB (i := 0) (v := ?vk20) rfl ?hk20 ?rk20
         case hk20 => intro u hSu; go_simp <;> with_reducible rfl
         try simp only [nbs, Act.put]
         refine tkB (i := 1) (v := ?vk21) rfl ?hk21 ?rk21
         case hk21 => intro u hSu; go_simp <;> with_reducible rfl
         try simp only [nbs, Act.put]
         refine tkB (i := 2) (v := ?vk22) rfl ?hk22 ?rk22
         case hk22 => intro u hSu; go_simp <;> with_reducible rfl
         try simp only [nbs, Act.put]
         refine tkB (i := 3) (v := ?vk23) rfl ?hk23 ?rk23
         case hk23 => intro u hSu; go_simp <;> with_reducible rfl
         try simp only [nbs, Act.put]
         refine tkB (i := 4) (v := ?vk24) rfl ?hk24 ?rk24
         case hk24 => intro u hSu; (try dsimp only at hSu); have Dc0 := (hSu.bel.cell (p := ⟨b, off + j * 2, none⟩) HBL.out).trans D0.out; have Dc1 := (hSu.bel.cell (p := ⟨b, off + j * 2 + 1, none⟩) HBL.out).trans D1.out; clear hSu; go_simp <;> with_reducible rfl
         try simp only [nbs, Act.put]
         refine tkB (i := 5) (v := ?vk25) rfl ?hk25 ?rk25
         case hk25 => intro u hSu; go_simp <;> with_reducible rfl
         try simp only [nbs, Act.put]
         refine tkB (i := 6) (v := ?vk26) rfl ?hk26 ?rk26
         case hk26 => intro u hSu; go_simp <;> with_reducible rfl
         try simp only [nbs, Act.put]
         refine tkB (i := 7) (v := ?vk27) rfl ?hk27 ?rk27
         case hk27 => intro u hSu; go_simp <;> with_reducible rfl
         try simp only [nbs, Act.put]
         refine tkB (i := 8) (v := ?vk28) rfl ?hk28 ?rk28
         case hk28 => intro u hSu; (try dsimp only at hSu); have Gc0 := (hSu.bel.cell (p := ⟨b, off + i * 2, none⟩) HBL.out).trans G0.out; have Gc1 := (hSu.bel.cell (p := ⟨b, off + i * 2 + 1, none⟩) HBL.out).trans G1.out; clear hSu; go_simp <;> with_reducible rfl
         try simp only [nbs, Act.put]
         refine tkB (i := 9) (v := ?vk29) rfl ?hk29 ?rk29
         case hk29 => intro u hSu; go_simp <;> with_reducible rfl
         try simp only [nbs, Act.put]
         refine tkB (i := 10) (v := ?vk30) rfl ?hk30 ?rk30
         case hk30 => intro u hSu; go_simp <;> with_reducible rfl
         try simp only [nbs, Act.put]
         refine tkB (i := 11) (v := ?vk31) rfl ?hk31 ?rk31
         case hk31 => intro u hSu; go_simp <;> with_reducible rfl
         try simp only [nbs, Act.put]
         refine tkB (i := 12) (v := ?vk32) rfl ?hk32 ?rk32
         case hk32 => intro u hSu; go_simp <;> with_reducible rfl
         try simp only [nbs, Act.put]
         refine tkB (i := 13) (v := ?vk33) rfl ?hk33 ?rk33
         case hk33 => intro u hSu; (try dsimp only at hSu); have Fc0 := (hSu.bel.cell (p := ⟨b, off + k * 2, none⟩) HBL.out).trans F0.out; have Fc1 := (hSu.bel.cell (p := ⟨b, off + k * 2 + 1, none⟩) HBL.out).trans F1.out; clear hSu; go_simp <;> with_reducible rfl
         try simp only [nbs, Act.put]
         refine wpAnyH_modular [14, 15, 16] [14, 15, 16] [] [9, 10, 11] #[true, true, true, true, true, true, true, true, true, true, true, true, true, true, true, true, true, false, false, false] 3 [(14, 9), (15, 10), (16, 11)] [(14, []), (15, []), (16, [])] [14, 15, 16] [(14, fun v w => ∃ Br19_14 : Nat, v = .pointer (some ⟨Br19_14, 0, none⟩) ∧ wr18.drew.heap.size ≤ Br19_14 ∧ w.heap[Br19_14]? = some (.cells #[.int .i64 0, .int .i64 0] 25 (0, 0))), (15, fun v w => ∃ Br19_15 : Nat, v = .pointer (some ⟨Br19_15, 0, none⟩) ∧ wr18.drew.heap.size ≤ Br19_15 ∧ w.heap[Br19_15]? = some (.cells #[.int .i64 0, .int .i64 0] 25 (0, 0))), (16, fun v w => ∃ Br19_16 : Nat, v = .pointer (some ⟨Br19_16, 0, none⟩) ∧ wr18.drew.heap.size ≤ Br19_16 ∧ w.heap[Br19_16]? = some (.cells #[.int .i64 0, .int .i64 0] 25 (0, 0)))]
          rfl (by kernel_rfl) (by decide) rfl ⟨(fun v w w' hb ⟨B, e, g, k⟩ => ⟨B, e, g, blk_keep k hb (blk_lt k)⟩), ⟨(fun v w w' hb ⟨B, e, g, k⟩ => ⟨B, e, g, blk_keep k hb (blk_lt k)⟩), ⟨(fun v w w' hb ⟨B, e, g, k⟩ => ⟨B, e, g, blk_keep k hb (blk_lt k)⟩), trivial⟩⟩⟩ ⟨fun v w ⟨B, e, g, k⟩ => ⟨B, e, blk_lt k⟩, ⟨fun v w ⟨B, e, g, k⟩ => ⟨B, e, blk_lt k⟩, ⟨fun v w ⟨B, e, g, k⟩ => ⟨B, e, blk_lt k⟩, trivial⟩⟩⟩ (fun w' hb => Sx.below hh hb) ⟨?_, ?_, ?_, trivial⟩ trivial (by decide) ?_
         ·
          refine StepM.of rfl (fun f w' hb hp K hK => ?_)
          have HSB := HS
          replace HS := Lib.hid (HS.out.below hb)
          simp only [fillA, fillT, List.foldl_cons, List.foldl_nil, Act.put, nb4, nb5, nb6]
          go_simp
          exact hK.out _ _ (.pointer (some ⟨w'.heap.size, 0, none⟩)) (by simp only [fillA, fillT, List.foldl_cons, List.foldl_nil, Act.put, nb4, nb5, nb6, nb1, nb2, nb3]) ⟨_, rfl, hb.size, blk_new _ _ _⟩ (fun _ => rfl) (below1 w' _)
         ·
          refine StepM.of rfl (fun f w' hb hp K hK => ?_)
          have HSB := HS
          replace HS := Lib.hid (HS.out.below hb)
          simp only [fillA, fillT, List.foldl_cons, List.foldl_nil, Act.put, nb4, nb5, nb6]
          go_simp
          exact hK.out _ _ (.pointer (some ⟨w'.heap.size, 0, none⟩)) (by simp only [fillA, fillT, List.foldl_cons, List.foldl_nil, Act.put, nb4, nb5, nb6, nb1, nb2, nb3]) ⟨_, rfl, hb.size, blk_new _ _ _⟩ (fun _ => rfl) (below1 w' _)
         ·
          refine StepM.of rfl (fun f w' hb hp K hK => ?_)
          have HSB := HS
          replace HS := Lib.hid (HS.out.below hb)
          simp only [fillA, fillT, List.foldl_cons, List.foldl_nil, Act.put, nb4, nb5, nb6]
          go_simp
          exact hK.out _ _ (.pointer (some ⟨w'.heap.size, 0, none⟩)) (by simp only [fillA, fillT, List.foldl_cons, List.foldl_nil, Act.put, nb4, nb5, nb6, nb1, nb2, nb3]) ⟨_, rfl, hb.size, blk_new _ _ _⟩ (fun _ => rfl) (below1 w' _)
         ·
          intro f wr19 hb hp hd
          obtain ⟨Br19_14, e14, g14, k14⟩ : ∃ Br19_14 : Nat, f 9 = .pointer (some ⟨Br19_14, 0, none⟩) ∧ wr18.drew.heap.size ≤ Br19_14 ∧ wr19.heap[Br19_14]? = some (.cells #[.int .i64 0, .int .i64 0] 25 (0, 0)) := hp 14 (by decide)
          obtain ⟨Br19_15, e15, g15, k15⟩ : ∃ Br19_15 : Nat, f 10 = .pointer (some ⟨Br19_15, 0, none⟩) ∧ wr18.drew.heap.size ≤ Br19_15 ∧ wr19.heap[Br19_15]? = some (.cells #[.int .i64 0, .int .i64 0] 25 (0, 0)) := hp 15 (by decide)
          obtain ⟨Br19_16, e16, g16, k16⟩ : ∃ Br19_16 : Nat, f 11 = .pointer (some ⟨Br19_16, 0, none⟩) ∧ wr18.drew.heap.size ≤ Br19_16 ∧ wr19.heap[Br19_16]? = some (.cells #[.int .i64 0, .int .i64 0] 25 (0, 0)) := hp 16 (by decide)
          have hd14_15 : Br19_14 ≠ Br19_15 := fun h => hd 14 15 (by decide) (by decide) (by decide) (by decide) (by decide) (by show f 9 = f 10; rw [e14, e15, h])
          have hd14_16 : Br19_14 ≠ Br19_16 := fun h => hd 14 16 (by decide) (by decide) (by decide) (by decide) (by decide) (by show f 9 = f 11; rw [e14, e16, h])
          have hd15_16 : Br19_15 ≠ Br19_16 := fun h => hd 15 16 (by decide) (by decide) (by decide) (by decide) (by decide) (by show f 10 = f 11; rw [e15, e16, h])
          replace hh := Sx.below hh hb
          have hlt := HS.out.lt
          replace HS := Lib.hid (HS.out.below hb)
          have hge14 : w.heap.size ≤ Br19_14 := Nat.le_trans HSW.out g14
          have hne14 : ∀ b, b ∈ ([] : List Bx) → b.1 ≠ Br19_14 := by
           intro b hb
           cases hb
          replace HS := Lib.hid (HS.out.addBox k14 hge14 (by rfl) hne14)
          have hge15 : w.heap.size ≤ Br19_15 := Nat.le_trans HSW.out g15
          have hne15 : ∀ b, b ∈ ([(Br19_14, #[.int .i64 0, .int .i64 0], 25)] : List Bx) → b.1 ≠ Br19_15 := by
           intro b hb
           simp only [List.mem_cons, List.not_mem_nil, or_false] at hb
           rcases hb with rfl
           ·
            exact hd14_15
          replace HS := Lib.hid (HS.out.addBox k15 hge15 (by rfl) hne15)
          have hge16 : w.heap.size ≤ Br19_16 := Nat.le_trans HSW.out g16
          have hne16 : ∀ b, b ∈ ([(Br19_15, #[.int .i64 0, .int .i64 0], 25), (Br19_14, #[.int .i64 0, .int .i64 0], 25)] : List Bx) → b.1 ≠ Br19_16 := by
           intro b hb
           simp only [List.mem_cons, List.not_mem_nil, or_false] at hb
           rcases hb with rfl | rfl
           ·
            exact hd15_16
           ·
            exact hd14_16
          replace HS := Lib.hid (HS.out.addBox k16 hge16 (by rfl) hne16)
          simp only [fillA, fillT, List.foldl_cons, List.foldl_nil, Act.put, nb4, nb5, nb6, e14, e15, e16]
          clear hp hd hb hlt e14 e15 e16
          refine rdA (i := 17) rfl (fun K hK => ?_)
          have b0e := (HS.out.at 2 _ _ _ rfl)
          have b0c0 := blk_cell b0e 0 (.int .i64 0) rfl
          have b0c1 := blk_cell b0e 1 (.int .i64 0) rfl
          have b0f0 := blk_frozen b0e 0
          have b0f1 := blk_frozen b0e 1
          have b0l := blk_lt b0e
          clear b0e
          go_simp
          refine hK.out _ _ ((((((((HS.out).st_II 2 0 0 xj yj rfl)).erase 2)).erase 1)).erase 0) (fun hh => ?_)
          clear hK K b0c0 b0c1 b0f0 b0f1 b0l
          try simp only [nbs, Act.put]
          generalize hW34 : ((wr19).setCell _ _).setCell _ _ = W34 at *
          replace HS := Lib.hid (((HS.out).st_II 2 0 0 xj yj rfl).to hW34 (by (try simp only [nb5, nb6]); rfl))
          clear hW34
          refine rdA (i := 18) rfl (fun K hK => ?_)
          have b1e := (HS.out.at 1 _ _ _ rfl)
          have b1c0 := blk_cell b1e 0 (.int .i64 0) rfl
          have b1c1 := blk_cell b1e 1 (.int .i64 0) rfl
          have b1f0 := blk_frozen b1e 0
          have b1f1 := blk_frozen b1e 1
          have b1l := blk_lt b1e
          clear b1e
          go_simp
          refine hK.out _ _ ((((((((HS.out).st_II 1 0 0 xi yi rfl)).erase 2)).erase 1)).erase 0) (fun hh => ?_)
          clear hK K b1c0 b1c1 b1f0 b1f1 b1l
          try simp only [nbs, Act.put]
          generalize hW35 : ((W34).setCell _ _).setCell _ _ = W35 at *
          replace HS := Lib.hid (((HS.out).st_II 1 0 0 xi yi rfl).to hW35 (by (try simp only [nb5, nb6]); rfl))
          clear hW35
          refine rdA (i := 19) rfl (fun K hK => ?_)
          have b2e := (HS.out.at 0 _ _ _ rfl)
          have b2c0 := blk_cell b2e 0 (.int .i64 0) rfl
          have b2c1 := blk_cell b2e 1 (.int .i64 0) rfl
          have b2f0 := blk_frozen b2e 0
          have b2f1 := blk_frozen b2e 1
          have b2l := blk_lt b2e
          clear b2e
          go_simp
          refine hK.out _ _ ((((((((HS.out).st_II 0 0 0 xk yk rfl)).erase 2)).erase 1)).erase 0) (fun hh => ?_)
          clear hK K b2c0 b2c1 b2f0 b2f1 b2l
          try simp only [nbs, Act.put]
          generalize hW36 : ((W35).setCell _ _).setCell _ _ = W36 at *
          replace HS := Lib.hid (((HS.out).st_II 0 0 0 xk yk rfl).to hW36 (by (try simp only [nb5, nb6]); rfl))
          clear hW36
          refine wpAnyH_done (by kernel_rfl) ?_ _
          have b0e := (HS.out.at 2 _ _ _ rfl)
          have b0c0 := blk_cell b0e 0 (.int .i64 xj) rfl
          have b0c1 := blk_cell b0e 1 (.int .i64 yj) rfl
          have b0f0 := blk_frozen b0e 0
          have b0f1 := blk_frozen b0e 1
          have b0l := blk_lt b0e
          clear b0e
          have b1e := (HS.out.at 1 _ _ _ rfl)
          have b1c0 := blk_cell b1e 0 (.int .i64 xi) rfl
          have b1c1 := blk_cell b1e 1 (.int .i64 yi) rfl
          have b1f0 := blk_frozen b1e 0
          have b1f1 := blk_frozen b1e 1
          have b1l := blk_lt b1e
          clear b1e
          have b2e := (HS.out.at 0 _ _ _ rfl)
          have b2c0 := blk_cell b2e 0 (.int .i64 xk) rfl
          have b2c1 := blk_cell b2e 1 (.int .i64 yk) rfl
          have b2f0 := blk_frozen b2e 0
          have b2f1 := blk_frozen b2e 1
          have b2l := blk_lt b2e
          clear b2e
          have bn0_1 := HS.out.ne 2 1 rfl rfl (by decide)
          have bn0_2 := HS.out.ne 2 0 rfl rfl (by decide)
          have bn1_2 := HS.out.ne 1 0 rfl rfl (by decide)
          go_wp2_with fail
          clear b0c0 b0c1 b0f0 b0f1 b0l b1c0 b1c1 b1f0 b1f1 b1l b2c0 b2c1 b2f0 b2f1 b2l bn0_1 bn0_2 bn1_2
          refine (HRAD.out _).mono ?_
          rintro e w37 ⟨v37, rfl, hv37, hb37⟩
          obtain ⟨z37, rfl⟩ := hv37.open3
          replace HS := Lib.hid (HS.out.below hb37)
          clear hb37
          replace HS := Lib.hid (HS.out.addP hv37)
          clear hv37
          go_wp2_with fail
          generalize hW38 : (w37).alloc (.cells _ _) = W38 at *
          replace HS := Lib.hid (((HS.out).alloc (B := w37.heap.size) rfl (by rfl)).to hW38 (by (try simp only [nb5, nb6]); rfl))
          clear hW38
          refine wp_region_held_drew (S := (fun w' => Sx w w' [(w37.heap.size, z37.arr, 32), (Br19_16, #[.int .i64 xk, .int .i64 yk], 25), (Br19_15, #[.int .i64 xi, .int .i64 yi], 25), (Br19_14, #[.int .i64 xj, .int .i64 yj], 25)] [])) (by kernel_rfl) ((HS.out.drew).bare) (fun hh => ?_)
          replace HS := Lib.hid HS.out.drew
          refine tkB (i := 0) (v := ?vk40) rfl ?hk40 ?rk40
          case hk40 => intro u hSu; go_simp <;> with_reducible rfl
          try simp only [nbs, Act.put]
          refine tkB (i := 1) (v := ?vk41) rfl ?hk41 ?rk41
          case hk41 => intro u hSu; go_simp <;> with_reducible rfl
          try simp only [nbs, Act.put]
          refine tkB (i := 2) (v := ?vk42) rfl ?hk42 ?rk42
          case hk42 => intro u hSu; go_simp <;> with_reducible rfl
          try simp only [nbs, Act.put]
          refine tkC (i := 3) rfl ?_
          try simp only [nbs, Act.put]
          refine tkC (i := 4) rfl ?_
          try simp only [nbs, Act.put]
          refine tkC (i := 5) rfl ?_
          try simp only [nbs, Act.put]
          refine tkC (i := 6) rfl ?_
          try simp only [nbs, Act.put]
          refine tkC (i := 7) rfl ?_
          try simp only [nbs, Act.put]
          refine tkC (i := 8) rfl ?_
          try simp only [nbs, Act.put]
          refine tkB (i := 9) (v := ?vk43) rfl ?hk43 ?rk43
          case hk43 => intro u hSu; go_simp <;> with_reducible rfl
          try simp only [nbs, Act.put]
          refine tkB (i := 10) (v := ?vk44) rfl ?hk44 ?rk44
          case hk44 => intro u hSu; go_simp <;> with_reducible rfl
          try simp only [nbs, Act.put]
          refine tkB (i := 11) (v := ?vk45) rfl ?hk45 ?rk45
          case hk45 => intro u hSu; go_simp <;> with_reducible rfl
          try simp only [nbs, Act.put]
          refine tkB (i := 12) (v := ?vk46) rfl ?hk46 ?rk46
          case hk46 => intro u hSu; go_simp <;> with_reducible rfl
          try simp only [nbs, Act.put]
          refine tkB (i := 13) (v := ?vk47) rfl ?hk47 ?rk47
          case hk47 => intro u hSu; go_simp <;> with_reducible rfl
          try simp only [nbs, Act.put]
          refine tkB (i := 14) (v := ?vk48) rfl ?hk48 ?rk48
          case hk48 => intro u hSu; (try dsimp only at hSu); have qb1e := (hSu.at 2 _ _ _ rfl); have qb1c0 := blk_cell qb1e 0 (.int .i64 xi) rfl; have qb1c1 := blk_cell qb1e 1 (.int .i64 yi) rfl; clear qb1e; clear hSu; go_simp <;> with_reducible rfl
          try simp only [nbs, Act.put]
          refine tkB (i := 15) (v := ?vk49) rfl ?hk49 ?rk49
          case hk49 => intro u hSu; (try dsimp only at hSu); have qb0e := (hSu.at 3 _ _ _ rfl); have qb0c0 := blk_cell qb0e 0 (.int .i64 xj) rfl; have qb0c1 := blk_cell qb0e 1 (.int .i64 yj) rfl; clear qb0e; clear hSu; go_simp <;> with_reducible rfl
          try simp only [nbs, Act.put]
          refine tkB (i := 16) (v := ?vk50) rfl ?hk50 ?rk50
          case hk50 => intro u hSu; (try dsimp only at hSu); have qb2e := (hSu.at 1 _ _ _ rfl); have qb2c0 := blk_cell qb2e 0 (.int .i64 xk) rfl; have qb2c1 := blk_cell qb2e 1 (.int .i64 yk) rfl; clear qb2e; clear hSu; go_simp <;> with_reducible rfl
          try simp only [nbs, Act.put]
          refine rdA (i := 17) rfl (fun K hK => ?_)
          go_simp
          go_wp2_with (go_at_call 39; (with_reducible refine (HDOT.out _).mono ?_); rintro e w51 ⟨v51, rfl, hv51, hb51⟩; obtain ⟨z51, rfl⟩ := hv51.open3)
          refine hK.out _ _ (Sx.below hh hb51) (fun hh => ?_)
          clear hK K
          try simp only [nbs, Act.put]
          replace HS := Lib.hid (HS.out.below hb51)
          clear hb51
          replace HS := Lib.hid (HS.out.addP hv51)
          clear hv51
          refine rdA (i := 18) rfl (fun K hK => ?_)
          go_simp
          obtain ⟨c52, hc52⟩ : ∃ κ, κ = sgnI (decide (qd.num < 0)) qd.num.natAbs := ⟨_, rfl⟩
          have HC52 := Lib.hid hc52
          clear hc52
          have a53 := HS.out.p 0 _ _ rfl
          go_wp2_with (go_at_call 47; (with_reducible refine (signR_any qd _ _ a53).mono ?_); rw [← HC52.out]; rintro e w52 ⟨rfl, hb52⟩)
          refine hK.out _ _ (Sx.below hh hb52) (fun hh => ?_)
          clear hK K
          try simp only [nbs, Act.put]
          replace HS := Lib.hid (HS.out.below hb52)
          clear hb52 a53
          by_cases t54p : c52 ≥ 0
          ·
           have t54 : decide (c52 ≥ 0) = true := decide_eq_true t54p
           have T54 := Lib.hid t54p
           clear t54p
           refine tkB (i := 19) (v := ?vk55) rfl ?hk55 ?rk55
           case hk55 => intro u hSu; go_simp <;> with_reducible rfl
           try simp only [nbs, Act.put]
           refine tkB (i := 20) (v := ?vk56) rfl ?hk56 ?rk56
           case hk56 => intro u hSu; go_simp <;> with_reducible rfl
           try simp only [nbs, Act.put]
           refine tkB (i := 21) (v := ?vk57) rfl ?hk57 ?rk57
           case hk57 => intro u hSu; go_simp <;> with_reducible rfl
           try simp only [nbs, Act.put]
           refine wpAnyH_done (by kernel_rfl) ?_ _
           go_wp2_with fail
           go_ret2
           exact ⟨by rw [(HAT.out (by rw [HNP.out, ← HC52.out, t54])).2, (HAT.out (by rw [HNP.out, ← HC52.out, t54])).1] <;> rfl, HS.out.bel⟩
          ·
           have t54 : decide (c52 ≥ 0) = false := decide_eq_false t54p
           have T54 := Lib.hid t54p
           clear t54p
           refine tkB (i := 19) (v := ?vk58) rfl ?hk58 ?rk58
           case hk58 => intro u hSu; go_simp <;> with_reducible rfl
           try simp only [nbs, Act.put]
           refine tkB (i := 20) (v := ?vk59) rfl ?hk59 ?rk59
           case hk59 => intro u hSu; go_simp <;> with_reducible rfl
           try simp only [nbs, Act.put]
           refine tkB (i := 21) (v := ?vk60) rfl ?hk60 ?rk60
           case hk60 => intro u hSu; go_simp <;> with_reducible rfl
           try simp only [nbs, Act.put]
           refine wpAnyH_done (by kernel_rfl) ?_ _
           go_wp2_with fail
           have hk := HK.out
           subst hk
           exact ⟨⟨i + 1, by have := HLT.out; omega, by go_num, by omega, Lib.hid (HUP.out (by rw [HNP.out, ← HC52.out, t54])), Lib.hid (((((HS.out).erase 0).erase 0).erase 0).erase 0)⟩, meas_up HLT.out⟩
        ·
         have hrad := fun W => radius_any (ptAt l j) (ptAt l i) (ptAt l k) W oj oi ok
         have ZR := Lib.hid (rad_sz oj oi ok)
         have hre : radE (ptAt l j) (ptAt l i) (ptAt l k) = 0 := by unfold radE; rw [if_neg hz]
         rw [hre] at hrad
         have HRAD : Hid (∀ W, Calls Tryz.prog 13 #[.agg #[.int .i64 (l.getD j (0, 0)).1, .int .i64 (l.getD j (0, 0)).2], .agg #[.int .i64 (l.getD i (0, 0)).1, .int .i64 (l.getD i (0, 0)).2], .agg #[.int .i64 (l.getD k (0, 0)).1, .int .i64 (l.getD k (0, 0)).2]] W (RetRatE (radQ (ptAt l j) (ptAt l i) (ptAt l k)) 0 W)) := hrad
         have HPRO := Lib.hid (fun W => lproduct_any m m W (by have := HM.out; omega) (by have := HM.out; omega))
         have ZM : Hid (szR ((m * m : Int) : Rat) 2) := by show szR _ _; rw [Rat.intCast_mul]; exact szR_mul (i64_szR m (by have := HM.out; omega) (by have := HM.out; omega) 1 (by omega)) (i64_szR m (by have := HM.out; omega) (by have := HM.out; omega) 1 (by omega))
         have HNP : Hid (narP l m i = decide (cmpR (radQ (ptAt l j) (ptAt l i) (ptAt l k)) ((m * m : Int) : Rat) < 0)) := by show _ = _; rw [HNI.out]; unfold narB; rw [if_neg hz, decide_eq_decide]; exact cmp_neg.symm
         generalize ((m * m : Int) : Rat) = qm at *
         generalize radQ (ptAt l j) (ptAt l i) (ptAt l k) = qr at *
         clear hrad hre hz hLL hlt hjl hil hkl hj hk oj oi ok HNI
         generalize (l.getD i (0, 0)).1 = xi at *
         generalize (l.getD i (0, 0)).2 = yi at *
         generalize (l.getD j (0, 0)).1 = xj at *
         generalize (l.getD j (0, 0)).2 = yj at *
         generalize (l.getD k (0, 0)).1 = xk at *
         generalize (l.getD k (0, 0)).2 = yk at *
         go_wp2_with fail
         refine wp_region_held_drew (S := (fun w' => Sx w w' [] [])) (by kernel_rfl) ((HS.out.drew).bare) (fun hh => ?_)
         replace HS := Lib.hid HS.out.drew
         have HSW := Lib.hid HS.out.bel.size
         refine tkB (i := 0) (v := ?vk62) rfl ?hk62 ?rk62
         case hk62 => intro u hSu; go_simp <;> with_reducible rfl
         try simp only [nbs, Act.put]
         refine tkB (i := 1) (v := ?vk63) rfl ?hk63 ?rk63
         case hk63 => intro u hSu; go_simp <;> with_reducible rfl
         try simp only [nbs, Act.put]
         refine tkB (i := 2) (v := ?vk64) rfl ?hk64 ?rk64
         case hk64 => intro u hSu; go_simp <;> with_reducible rfl
         try simp only [nbs, Act.put]
         refine tkB (i := 3) (v := ?vk65) rfl ?hk65 ?rk65
         case hk65 => intro u hSu; go_simp <;> with_reducible rfl
         try simp only [nbs, Act.put]
         refine tkB (i := 4) (v := ?vk66) rfl ?hk66 ?rk66
         case hk66 => intro u hSu; (try dsimp only at hSu); have Dc0 := (hSu.bel.cell (p := ⟨b, off + j * 2, none⟩) HBL.out).trans D0.out; have Dc1 := (hSu.bel.cell (p := ⟨b, off + j * 2 + 1, none⟩) HBL.out).trans D1.out; clear hSu; go_simp <;> with_reducible rfl
         try simp only [nbs, Act.put]
         refine tkB (i := 5) (v := ?vk67) rfl ?hk67 ?rk67
         case hk67 => intro u hSu; go_simp <;> with_reducible rfl
         try simp only [nbs, Act.put]
         refine tkB (i := 6) (v := ?vk68) rfl ?hk68 ?rk68
         case hk68 => intro u hSu; go_simp <;> with_reducible rfl
         try simp only [nbs, Act.put]
         refine tkB (i := 7) (v := ?vk69) rfl ?hk69 ?rk69
         case hk69 => intro u hSu; go_simp <;> with_reducible rfl
         try simp only [nbs, Act.put]
         refine tkB (i := 8) (v := ?vk70) rfl ?hk70 ?rk70
         case hk70 => intro u hSu; (try dsimp only at hSu); have Gc0 := (hSu.bel.cell (p := ⟨b, off + i * 2, none⟩) HBL.out).trans G0.out; have Gc1 := (hSu.bel.cell (p := ⟨b, off + i * 2 + 1, none⟩) HBL.out).trans G1.out; clear hSu; go_simp <;> with_reducible rfl
         try simp only [nbs, Act.put]
         refine tkB (i := 9) (v := ?vk71) rfl ?hk71 ?rk71
         case hk71 => intro u hSu; go_simp <;> with_reducible rfl
         try simp only [nbs, Act.put]
         refine tkB (i := 10) (v := ?vk72) rfl ?hk72 ?rk72
         case hk72 => intro u hSu; go_simp <;> with_reducible rfl
         try simp only [nbs, Act.put]
         refine tkB (i := 11) (v := ?vk73) rfl ?hk73 ?rk73
         case hk73 => intro u hSu; go_simp <;> with_reducible rfl
         try simp only [nbs, Act.put]
         refine tkB (i := 12) (v := ?vk74) rfl ?hk74 ?rk74
         case hk74 => intro u hSu; go_simp <;> with_reducible rfl
         try simp only [nbs, Act.put]
         refine tkB (i := 13) (v := ?vk75) rfl ?hk75 ?rk75
         case hk75 => intro u hSu; (try dsimp only at hSu); have Fc0 := (hSu.bel.cell (p := ⟨b, off + k * 2, none⟩) HBL.out).trans F0.out; have Fc1 := (hSu.bel.cell (p := ⟨b, off + k * 2 + 1, none⟩) HBL.out).trans F1.out; clear hSu; go_simp <;> with_reducible rfl
         try simp only [nbs, Act.put]
         refine wpAnyH_modular [14, 15, 16] [14, 15, 16] [] [9, 10, 11] #[true, true, true, true, true, true, true, true, true, true, true, true, true, true, true, true, true, false, false, false] 3 [(14, 9), (15, 10), (16, 11)] [(14, []), (15, []), (16, [])] [14, 15, 16] [(14, fun v w => ∃ Br61_14 : Nat, v = .pointer (some ⟨Br61_14, 0, none⟩) ∧ wr18.drew.heap.size ≤ Br61_14 ∧ w.heap[Br61_14]? = some (.cells #[.int .i64 0, .int .i64 0] 25 (0, 0))), (15, fun v w => ∃ Br61_15 : Nat, v = .pointer (some ⟨Br61_15, 0, none⟩) ∧ wr18.drew.heap.size ≤ Br61_15 ∧ w.heap[Br61_15]? = some (.cells #[.int .i64 0, .int .i64 0] 25 (0, 0))), (16, fun v w => ∃ Br61_16 : Nat, v = .pointer (some ⟨Br61_16, 0, none⟩) ∧ wr18.drew.heap.size ≤ Br61_16 ∧ w.heap[Br61_16]? = some (.cells #[.int .i64 0, .int .i64 0] 25 (0, 0)))]
          rfl (by kernel_rfl) (by decide) rfl ⟨(fun v w w' hb ⟨B, e, g, k⟩ => ⟨B, e, g, blk_keep k hb (blk_lt k)⟩), ⟨(fun v w w' hb ⟨B, e, g, k⟩ => ⟨B, e, g, blk_keep k hb (blk_lt k)⟩), ⟨(fun v w w' hb ⟨B, e, g, k⟩ => ⟨B, e, g, blk_keep k hb (blk_lt k)⟩), trivial⟩⟩⟩ ⟨fun v w ⟨B, e, g, k⟩ => ⟨B, e, blk_lt k⟩, ⟨fun v w ⟨B, e, g, k⟩ => ⟨B, e, blk_lt k⟩, ⟨fun v w ⟨B, e, g, k⟩ => ⟨B, e, blk_lt k⟩, trivial⟩⟩⟩ (fun w' hb => Sx.below hh hb) ⟨?_, ?_, ?_, trivial⟩ trivial (by decide) ?_
         ·
          refine StepM.of rfl (fun f w' hb hp K hK => ?_)
          have HSB := HS
          replace HS := Lib.hid (HS.out.below hb)
          simp only [fillA, fillT, List.foldl_cons, List.foldl_nil, Act.put, nb4, nb5, nb6]
          go_simp
          exact hK.out _ _ (.pointer (some ⟨w'.heap.size, 0, none⟩)) (by simp only [fillA, fillT, List.foldl_cons, List.foldl_nil, Act.put, nb4, nb5, nb6, nb1, nb2, nb3]) ⟨_, rfl, hb.size, blk_new _ _ _⟩ (fun _ => rfl) (below1 w' _)
         ·
          refine StepM.of rfl (fun f w' hb hp K hK => ?_)
          have HSB := HS
          replace HS := Lib.hid (HS.out.below hb)
          simp only [fillA, fillT, List.foldl_cons, List.foldl_nil, Act.put, nb4, nb5, nb6]
          go_simp
          exact hK.out _ _ (.pointer (some ⟨w'.heap.size, 0, none⟩)) (by simp only [fillA, fillT, List.foldl_cons, List.foldl_nil, Act.put, nb4, nb5, nb6, nb1, nb2, nb3]) ⟨_, rfl, hb.size, blk_new _ _ _⟩ (fun _ => rfl) (below1 w' _)
         ·
          refine StepM.of rfl (fun f w' hb hp K hK => ?_)
          have HSB := HS
          replace HS := Lib.hid (HS.out.below hb)
          simp only [fillA, fillT, List.foldl_cons, List.foldl_nil, Act.put, nb4, nb5, nb6]
          go_simp
          exact hK.out _ _ (.pointer (some ⟨w'.heap.size, 0, none⟩)) (by simp only [fillA, fillT, List.foldl_cons, List.foldl_nil, Act.put, nb4, nb5, nb6, nb1, nb2, nb3]) ⟨_, rfl, hb.size, blk_new _ _ _⟩ (fun _ => rfl) (below1 w' _)
         ·
          intro f wr61 hb hp hd
          obtain ⟨Br61_14, e14, g14, k14⟩ : ∃ Br61_14 : Nat, f 9 = .pointer (some ⟨Br61_14, 0, none⟩) ∧ wr18.drew.heap.size ≤ Br61_14 ∧ wr61.heap[Br61_14]? = some (.cells #[.int .i64 0, .int .i64 0] 25 (0, 0)) := hp 14 (by decide)
          obtain ⟨Br61_15, e15, g15, k15⟩ : ∃ Br61_15 : Nat, f 10 = .pointer (some ⟨Br61_15, 0, none⟩) ∧ wr18.drew.heap.size ≤ Br61_15 ∧ wr61.heap[Br61_15]? = some (.cells #[.int .i64 0, .int .i64 0] 25 (0, 0)) := hp 15 (by decide)
          obtain ⟨Br61_16, e16, g16, k16⟩ : ∃ Br61_16 : Nat, f 11 = .pointer (some ⟨Br61_16, 0, none⟩) ∧ wr18.drew.heap.size ≤ Br61_16 ∧ wr61.heap[Br61_16]? = some (.cells #[.int .i64 0, .int .i64 0] 25 (0, 0)) := hp 16 (by decide)
          have hd14_15 : Br61_14 ≠ Br61_15 := fun h => hd 14 15 (by decide) (by decide) (by decide) (by decide) (by decide) (by show f 9 = f 10; rw [e14, e15, h])
          have hd14_16 : Br61_14 ≠ Br61_16 := fun h => hd 14 16 (by decide) (by decide) (by decide) (by decide) (by decide) (by show f 9 = f 11; rw [e14, e16, h])
          have hd15_16 : Br61_15 ≠ Br61_16 := fun h => hd 15 16 (by decide) (by decide) (by decide) (by decide) (by decide) (by show f 10 = f 11; rw [e15, e16, h])
          replace hh := Sx.below hh hb
          have hlt := HS.out.lt
          replace HS := Lib.hid (HS.out.below hb)
          have hge14 : w.heap.size ≤ Br61_14 := Nat.le_trans HSW.out g14
          have hne14 : ∀ b, b ∈ ([] : List Bx) → b.1 ≠ Br61_14 := by
           intro b hb
           cases hb
          replace HS := Lib.hid (HS.out.addBox k14 hge14 (by rfl) hne14)
          have hge15 : w.heap.size ≤ Br61_15 := Nat.le_trans HSW.out g15
          have hne15 : ∀ b, b ∈ ([(Br61_14, #[.int .i64 0, .int .i64 0], 25)] : List Bx) → b.1 ≠ Br61_15 := by
           intro b hb
           simp only [List.mem_cons, List.not_mem_nil, or_false] at hb
           rcases hb with rfl
           ·
            exact hd14_15
          replace HS := Lib.hid (HS.out.addBox k15 hge15 (by rfl) hne15)
          have hge16 : w.heap.size ≤ Br61_16 := Nat.le_trans HSW.out g16
          have hne16 : ∀ b, b ∈ ([(Br61_15, #[.int .i64 0, .int .i64 0], 25), (Br61_14, #[.int .i64 0, .int .i64 0], 25)] : List Bx) → b.1 ≠ Br61_16 := by
           intro b hb
           simp only [List.mem_cons, List.not_mem_nil, or_false] at hb
           rcases hb with rfl | rfl
           ·
            exact hd15_16
           ·
            exact hd14_16
          replace HS := Lib.hid (HS.out.addBox k16 hge16 (by rfl) hne16)
          simp only [fillA, fillT, List.foldl_cons, List.foldl_nil, Act.put, nb4, nb5, nb6, e14, e15, e16]
          clear hp hd hb hlt e14 e15 e16
          refine rdA (i := 17) rfl (fun K hK => ?_)
          have b0e := (HS.out.at 2 _ _ _ rfl)
          have b0c0 := blk_cell b0e 0 (.int .i64 0) rfl
          have b0c1 := blk_cell b0e 1 (.int .i64 0) rfl
          have b0f0 := blk_frozen b0e 0
          have b0f1 := blk_frozen b0e 1
          have b0l := blk_lt b0e
          clear b0e
          go_simp
          refine hK.out _ _ ((((((((HS.out).st_II 2 0 0 xj yj rfl)).erase 2)).erase 1)).erase 0) (fun hh => ?_)
          clear hK K b0c0 b0c1 b0f0 b0f1 b0l
          try simp only [nbs, Act.put]
          generalize hW76 : ((wr61).setCell _ _).setCell _ _ = W76 at *
          replace HS := Lib.hid (((HS.out).st_II 2 0 0 xj yj rfl).to hW76 (by (try simp only [nb5, nb6]); rfl))
          clear hW76
          refine rdA (i := 18) rfl (fun K hK => ?_)
          have b1e := (HS.out.at 1 _ _ _ rfl)
          have b1c0 := blk_cell b1e 0 (.int .i64 0) rfl
          have b1c1 := blk_cell b1e 1 (.int .i64 0) rfl
          have b1f0 := blk_frozen b1e 0
          have b1f1 := blk_frozen b1e 1
          have b1l := blk_lt b1e
          clear b1e
          go_simp
          refine hK.out _ _ ((((((((HS.out).st_II 1 0 0 xi yi rfl)).erase 2)).erase 1)).erase 0) (fun hh => ?_)
          clear hK K b1c0 b1c1 b1f0 b1f1 b1l
          try simp only [nbs, Act.put]
          generalize hW77 : ((W76).setCell _ _).setCell _ _ = W77 at *
          replace HS := Lib.hid (((HS.out).st_II 1 0 0 xi yi rfl).to hW77 (by (try simp only [nb5, nb6]); rfl))
          clear hW77
          refine rdA (i := 19) rfl (fun K hK => ?_)
          have b2e := (HS.out.at 0 _ _ _ rfl)
          have b2c0 := blk_cell b2e 0 (.int .i64 0) rfl
          have b2c1 := blk_cell b2e 1 (.int .i64 0) rfl
          have b2f0 := blk_frozen b2e 0
          have b2f1 := blk_frozen b2e 1
          have b2l := blk_lt b2e
          clear b2e
          go_simp
          refine hK.out _ _ ((((((((HS.out).st_II 0 0 0 xk yk rfl)).erase 2)).erase 1)).erase 0) (fun hh => ?_)
          clear hK K b2c0 b2c1 b2f0 b2f1 b2l
          try simp only [nbs, Act.put]
          generalize hW78 : ((W77).setCell _ _).setCell _ _ = W78 at *
          replace HS := Lib.hid (((HS.out).st_II 0 0 0 xk yk rfl).to hW78 (by (try simp only [nb5, nb6]); rfl))
          clear hW78
          refine wpAnyH_done (by kernel_rfl) ?_ _
          have b0e := (HS.out.at 2 _ _ _ rfl)
          have b0c0 := blk_cell b0e 0 (.int .i64 xj) rfl
          have b0c1 := blk_cell b0e 1 (.int .i64 yj) rfl
          have b0f0 := blk_frozen b0e 0
          have b0f1 := blk_frozen b0e 1
          have b0l := blk_lt b0e
          clear b0e
          have b1e := (HS.out.at 1 _ _ _ rfl)
          have b1c0 := blk_cell b1e 0 (.int .i64 xi) rfl
          have b1c1 := blk_cell b1e 1 (.int .i64 yi) rfl
          have b1f0 := blk_frozen b1e 0
          have b1f1 := blk_frozen b1e 1
          have b1l := blk_lt b1e
          clear b1e
          have b2e := (HS.out.at 0 _ _ _ rfl)
          have b2c0 := blk_cell b2e 0 (.int .i64 xk) rfl
          have b2c1 := blk_cell b2e 1 (.int .i64 yk) rfl
          have b2f0 := blk_frozen b2e 0
          have b2f1 := blk_frozen b2e 1
          have b2l := blk_lt b2e
          clear b2e
          have bn0_1 := HS.out.ne 2 1 rfl rfl (by decide)
          have bn0_2 := HS.out.ne 2 0 rfl rfl (by decide)
          have bn1_2 := HS.out.ne 1 0 rfl rfl (by decide)
          go_wp2_with fail
          clear b0c0 b0c1 b0f0 b0f1 b0l b1c0 b1c1 b1f0 b1f1 b1l b2c0 b2c1 b2f0 b2f1 b2l bn0_1 bn0_2 bn1_2
          refine (HRAD.out _).mono ?_
          rintro e w79 ⟨v79, rfl, hv79, hb79⟩
          obtain ⟨z79, rfl⟩ := hv79.open3
          replace HS := Lib.hid (HS.out.below hb79)
          clear hb79
          replace HS := Lib.hid (HS.out.addP hv79)
          clear hv79
          go_wp2_with fail
          generalize hW80 : (w79).alloc (.cells _ _) = W80 at *
          replace HS := Lib.hid (((HS.out).alloc (B := w79.heap.size) rfl (by rfl)).to hW80 (by (try simp only [nb5, nb6]); rfl))
          clear hW80
          refine wp_region_held_drew (S := (fun w' => Sx w w' [(w79.heap.size, z79.arr, 32), (Br61_16, #[.int .i64 xk, .int .i64 yk], 25), (Br61_15, #[.int .i64 xi, .int .i64 yi], 25), (Br61_14, #[.int .i64 xj, .int .i64 yj], 25)] [])) (by kernel_rfl) ((HS.out.drew).bare) (fun hh => ?_)
          replace HS := Lib.hid HS.out.drew
          refine tkB (i := 0) (v := ?vk82) rfl ?hk82 ?rk82
          case hk82 => intro u hSu; go_simp <;> with_reducible rfl
          try simp only [nbs, Act.put]
          refine tkB (i := 1) (v := ?vk83) rfl ?hk83 ?rk83
          case hk83 => intro u hSu; go_simp <;> with_reducible rfl
          try simp only [nbs, Act.put]
          refine tkB (i := 2) (v := ?vk84) rfl ?hk84 ?rk84
          case hk84 => intro u hSu; go_simp <;> with_reducible rfl
          try simp only [nbs, Act.put]
          refine tkB (i := 3) (v := ?vk85) rfl ?hk85 ?rk85
          case hk85 => intro u hSu; (try dsimp only at hSu); obtain ⟨qb3c0, qb3c1, qb3c2, _⟩ := fac3 (x := z79) (hSu.at 0 _ _ _ rfl); clear hSu; go_simp <;> with_reducible rfl
          try simp only [nbs, Act.put]
          refine tkB (i := 4) (v := ?vk86) rfl ?hk86 ?rk86
          case hk86 => intro u hSu; go_simp <;> with_reducible rfl
          try simp only [nbs, Act.put]
          refine tkB (i := 5) (v := ?vk87) rfl ?hk87 ?rk87
          case hk87 => intro u hSu; go_simp <;> with_reducible rfl
          try simp only [nbs, Act.put]
          refine rdA (i := 6) rfl (fun K hK => ?_)
          go_simp
          go_wp2_with (go_at_call 23; (with_reducible refine (HPRO.out _).mono ?_); rintro e w88 ⟨v88, rfl, hv88, hb88⟩; obtain ⟨z88, rfl⟩ := hv88.open3)
          refine hK.out _ _ (Sx.below hh hb88) (fun hh => ?_)
          clear hK K
          try simp only [nbs, Act.put]
          replace HS := Lib.hid (HS.out.below hb88)
          clear hb88
          replace HS := Lib.hid (HS.out.addP hv88)
          clear hv88
          refine rdA (i := 7) rfl (fun K hK => ?_)
          go_simp
          obtain ⟨c89, hc89⟩ : ∃ κ, κ = cmpR qr qm := ⟨_, rfl⟩
          have HC89 := Lib.hid hc89
          clear hc89
          have a90 := HS.out.p 1 _ _ rfl
          have a91 := HS.out.p 0 _ _ rfl
          go_wp2_with (go_at_call 46; (with_reducible refine (cmpRat_any qr qm _ _ _ a90 a91 (szR_mono ZR.out (by omega)) (szR_mono ZM.out (by omega))).mono ?_); rw [← HC89.out]; rintro e w89 ⟨rfl, hb89⟩)
          refine hK.out _ _ (Sx.below hh hb89) (fun hh => ?_)
          clear hK K
          try simp only [nbs, Act.put]
          replace HS := Lib.hid (HS.out.below hb89)
          clear hb89 a90 a91
          by_cases t92p : c89 < 0
          ·
           have t92 : decide (c89 < 0) = true := decide_eq_true t92p
           have T92 := Lib.hid t92p
           clear t92p
           refine tkB (i := 8) (v := ?vk93) rfl ?hk93 ?rk93
           case hk93 => intro u hSu; go_simp <;> with_reducible rfl
           try simp only [nbs, Act.put]
           refine tkB (i := 9) (v := ?vk94) rfl ?hk94 ?rk94
           case hk94 => intro u hSu; go_simp <;> with_reducible rfl
           try simp only [nbs, Act.put]
           refine tkB (i := 10) (v := ?vk95) rfl ?hk95 ?rk95
           case hk95 => intro u hSu; go_simp <;> with_reducible rfl
           try simp only [nbs, Act.put]
           refine tkC (i := 11) rfl ?_
           try simp only [nbs, Act.put]
           refine tkC (i := 12) rfl ?_
           try simp only [nbs, Act.put]
           refine tkC (i := 13) rfl ?_
           try simp only [nbs, Act.put]
           refine tkC (i := 14) rfl ?_
           try simp only [nbs, Act.put]
           refine tkC (i := 15) rfl ?_
           try simp only [nbs, Act.put]
           refine tkC (i := 16) rfl ?_
           try simp only [nbs, Act.put]
           refine tkC (i := 17) rfl ?_
           try simp only [nbs, Act.put]
           refine tkC (i := 18) rfl ?_
           try simp only [nbs, Act.put]
           refine tkC (i := 19) rfl ?_
           try simp only [nbs, Act.put]
           refine tkC (i := 20) rfl ?_
           try simp only [nbs, Act.put]
           refine tkB (i := 21) (v := ?vk96) rfl ?hk96 ?rk96
           case hk96 => intro u hSu; go_simp <;> with_reducible rfl
           try simp only [nbs, Act.put]
           refine wpAnyH_done (by kernel_rfl) ?_ _
           go_wp2_with fail
           go_ret2
           exact ⟨by rw [(HAT.out (by rw [HNP.out, ← HC89.out, t92])).2, (HAT.out (by rw [HNP.out, ← HC89.out, t92])).1] <;> rfl, HS.out.bel⟩
          ·
           have t92 : decide (c89 < 0) = false := decide_eq_false t92p
           have T92 := Lib.hid t92p
           clear t92p
           refine tkB (i := 8) (v := ?vk97) rfl ?hk97 ?rk97
           case hk97 => intro u hSu; go_simp <;> with_reducible rfl
           try simp only [nbs, Act.put]
           refine tkB (i := 9) (v := ?vk98) rfl ?hk98 ?rk98
           case hk98 => intro u hSu; go_simp <;> with_reducible rfl
           try simp only [nbs, Act.put]
           refine tkB (i := 10) (v := ?vk99) rfl ?hk99 ?rk99
           case hk99 => intro u hSu; go_simp <;> with_reducible rfl
           try simp only [nbs, Act.put]
           refine tkB (i := 11) (v := ?vk100) rfl ?hk100 ?rk100
           case hk100 => intro u hSu; go_simp <;> with_reducible rfl
           try simp only [nbs, Act.put]
           refine tkB (i := 12) (v := ?vk101) rfl ?hk101 ?rk101
           case hk101 => intro u hSu; go_simp <;> with_reducible rfl
           try simp only [nbs, Act.put]
           refine tkB (i := 13) (v := ?vk102) rfl ?hk102 ?rk102
           case hk102 => intro u hSu; go_simp <;> with_reducible rfl
           try simp only [nbs, Act.put]
           refine tkC (i := 14) rfl ?_
           try simp only [nbs, Act.put]
           refine tkC (i := 15) rfl ?_
           try simp only [nbs, Act.put]
           refine tkC (i := 16) rfl ?_
           try simp only [nbs, Act.put]
           refine tkC (i := 17) rfl ?_
           try simp only [nbs, Act.put]
           refine tkC (i := 18) rfl ?_
           try simp only [nbs, Act.put]
           refine tkC (i := 19) rfl ?_
           try simp only [nbs, Act.put]
           refine tkB (i := 20) (v := ?vk103) rfl ?hk103 ?rk103
           case hk103 => intro u hSu; go_simp <;> with_reducible rfl
           try simp only [nbs, Act.put]
           refine tkB (i := 21) (v := ?vk104) rfl ?hk104 ?rk104
           case hk104 => intro u hSu; go_simp <;> with_reducible rfl
           try simp only [nbs, Act.put]
           refine wpAnyH_done (by kernel_rfl) ?_ _
           go_wp2_with fail
           have hk := HK.out
           subst hk
           exact ⟨⟨i + 1, by have := HLT.out; omega, by go_num, by omega, Lib.hid (HUP.out (by rw [HNP.out, ← HC89.out, t92])), Lib.hid (((((HS.out).erase 0).erase 0).erase 0).erase 0)⟩, meas_up HLT.out⟩
       ·
        obtain rfl : n1 = i := by omega
        obtain ⟨k, hk⟩ : ∃ k, k = n1 + 1 := ⟨_, rfl⟩
        have hn1 := HN1.out
        have hnl := HL32.out
        have hw2 : IntKind.i64.wrap ((n1 : Int) + 1) = (k : Int) := (IntWalk.i64_in _ (by omega)).trans (by omega)
        have tk : decide ((k : Int) < l.length) = false := decide_eq_false (by omega)
        have tkb : decide (k < l.length) = false := decide_eq_false (by omega)
        have HEND := Lib.hid (st_end HPE.out HM.out HTO.out hn1)
        clear hn1 hk
        go_wp2_with fail
        go_ret2
        exact ⟨by rw [HEND.out.2, HEND.out.1] <;> rfl, HS.out.bel⟩
     | false =>
      refine (within_any m 0 1073741824 _).mono ?_
      rw [t16]
      rintro e w105 ⟨rfl, hb105⟩
      replace HS := Lib.hid (HS.out.below hb105)
      clear hb105
      go_wp2_with fail
      go_ret2
      exact ⟨by rw [(stErr_m HPE.out (inB_not t16)).2, (stErr_m HPE.out (inB_not t16)).1] <;> rfl, HS.out.bel⟩
  | false =>
   refine (isRight_any l _ _ (HP.out.below HS.out.bel) (by omega)).mono ?_
   rw [t1]
   rintro e w106 ⟨rfl, hb106⟩
   replace HS := Lib.hid (HS.out.below hb106)
   clear hb106
   go_wp2_with fail
   go_ret2
   exact ⟨by rw [(stErr_path (m := m) (pathErr_r HL2.out HL32.out t1) (show (1 : Int) ≠ 0 by decide)).2, (stErr_path (m := m) (pathErr_r HL2.out HL32.out t1) (show (1 : Int) ≠ 0 by decide)).1] <;> rfl, HS.out.bel⟩
end Go.Proofs.YtemkhgdhoingiaaGreat

namespace Go.Proofs.YtemkhgdhoingiaaGreat
open Go.RowKit

set_option maxRecDepth 100000 in
set_option maxHeartbeats 4000000 in
theorem pradius_bad (a b c : Pt) (w : World) (hbad : (ptOk a && (ptOk b && ptOk c)) = false) : Calls Tryz.prog 13 #[.agg #[.int .i64 a.1, .int .i64 a.2], .agg #[.int .i64 b.1, .int .i64 b.2], .agg #[.int .i64 c.1, .int .i64 c.2]] w (RetRatE 0 1 w) := by
 have HR : Hid (∀ W v, PairsOf W v [a, b, c] → Calls Tryz.prog 21 #[v] W (RetBool false W)) := fun W v h => by
  have := isRight_any [a, b, c] v W h (by simp)
  rw [show ptsOk [a, b, c] = false by simpa [ptsOk] using hbad] at this
  exact this
 have HP3 := Lib.hid (fun W => pts_new3 W a.1 a.2 b.1 b.2 c.1 c.2 25)
 clear hbad
 obtain ⟨ax, ay⟩ := a
 obtain ⟨bx, by'⟩ := b
 obtain ⟨cx, cy⟩ := c
 have Ha6 := Lib.hid (fun W : World => (Below.refl W.heap.size W).alloc (Nat.le_refl _) (.cells #[.int .i64 ax, .int .i64 ay, .int .i64 bx, .int .i64 by', .int .i64 cx, .int .i64 cy] 25))
 go_enter Tryz.func13, Tryz.ntmps13
 go_wp2_with fail
 generalize hW0 : (((w.alloc (.cells #[.int .i64 ax, .int .i64 ay] 25)).alloc (.cells #[.int .i64 bx, .int .i64 by'] 25)).alloc (.cells #[.int .i64 cx, .int .i64 cy] 25)).alloc (.cells #[.bool false, .slice none 0 0, .slice none 0 0] 32) = W at *
 have hsz : W.heap.size = w.heap.size + 4 := by rw [← hW0]; simp
 obtain ⟨hal, hB1, hB2, hB3, hB4⟩ := boxesP w _ _ _ _ _ _ W hW0.symm
 have hP3 := HP3.out W
 rw [hsz] at hP3
 have hal6 := Ha6.out W
 clear hW0
 refine (HR.out _ _ hP3).mono ?_
 rintro e w3 ⟨rfl, hb3⟩
 have b4 := blk_keep (blk_keep hB4 hal6 (blk_lt hB4)) hb3 (by have := blk_lt hB4; simp; omega)
 have hx3 := ext_trans (ext_trans hal hal6) hb3
 have g0 := blk_cell b4 0 (.bool false) rfl
 have g1 := blk_cell b4 1 (.slice none 0 0) rfl
 have g2 := blk_cell b4 2 (.slice none 0 0) rfl
 have f0 := blk_frozen b4 0
 have f1 := blk_frozen b4 1
 have f2 := blk_frozen b4 2
 have hl4 := blk_lt b4
 clear hB1 hB2 hB3 hB4 hal hal6 hb3 hP3
 go_wp2_with fail
 refine bodyPost_ret (v := .tuple #[.agg #[.bool false, .slice none 0 0, .slice none 0 0], .int .i64 1]) (by simp [results, Tryz.results13, go_sem, g0, g1, g2]; first | done | exact ⟨⟨rfl, rfl⟩, rfl⟩ | exact ⟨rfl, rfl⟩ | rfl) rfl ⟨_, rfl, ?_, below_store3 hx3 (by omega)⟩
 exact IsRat.zero _
set_option maxRecDepth 100000 in
set_option maxHeartbeats 8000000 in
theorem layupSteers_any (l : List Pt) (m : Int) (a b c : Pt) (v : Value) (w : World) (h : PairsOf w v l) (hcap : CapP v) : Calls Tryz.prog 4 #[v, .int .i64 m, .agg #[.int .i64 a.1, .int .i64 a.2], .agg #[.int .i64 b.1, .int .i64 b.2], .agg #[.int .i64 c.1, .int .i64 c.2]] w (RetBool true w) := by
 have HS := Lib.hid (Sx.init w)
 obtain ⟨qr, er, hrp, hrq, zr⟩ : ∃ (qr : Rat) (er : Int), (∀ W, Calls Tryz.prog 13 #[.agg #[.int .i64 a.1, .int .i64 a.2], .agg #[.int .i64 b.1, .int .i64 b.2], .agg #[.int .i64 c.1, .int .i64 c.2]] W (RetRatE qr er W)) ∧ (∀ W, Calls Tryz.prog 14 #[.agg #[.int .i64 a.1, .int .i64 a.2], .agg #[.int .i64 b.1, .int .i64 b.2], .agg #[.int .i64 c.1, .int .i64 c.2]] W (RetRE qr er W)) ∧ szR qr 20 := by
  cases hk : (ptOk a && (ptOk b && ptOk c)) with
  | false => exact ⟨0, 1, fun W => pradius_bad a b c W hk, fun W => rradius_bad a b c W hk, szR_mono (szR_int (n := 0) (k := 1) (by unfold b64; decide) (by omega)) (by omega)⟩
  | true =>
   simp only [Bool.and_eq_true] at hk
   obtain ⟨h1, h2, h3⟩ := hk
   exact ⟨_, _, fun W => radius_any a b c W h1 h2 h3, fun W => rradius_any a b c W h1 h2 h3, rad_sz h1 h2 h3⟩
 have HRP := Lib.hid hrp
 have HRQ := Lib.hid hrq
 have ZR := Lib.hid zr
 have HSP : Hid (∀ W v, PairsOf W v l → CapP v → Calls Tryz.prog 15 #[v, .int .i64 m] W (RetII (stVal l m) (stErr l m) W)) := fun W v h1 h2 => psteered_any l m v W h1 h2
 have HSQ : Hid (∀ W v, PairsOf W v l → CapP v → Calls Tryz.prog 16 #[v, .int .i64 m] W (RetII (stVal l m) (stErr l m) W)) := fun W v h1 _ => qsteered_any l m v W h1
 generalize stVal l m = sv at *
 generalize stErr l m = se at *
 have HP := Lib.hid h
 obtain ⟨ao, cap, rfl, hE⟩ := h
 have HCP := Lib.hid hcap
 clear hE hcap hrp hrq zr
 obtain ⟨au, av⟩ := a
 obtain ⟨bu, bv⟩ := b
 obtain ⟨cu, cv⟩ := c
 by_cases hl : 40 < l.length
 ·
  have t1 : decide ((l.length : Int) > 40) = true := decide_eq_true (by omega)
  have t1b : decide (40 < l.length) = true := decide_eq_true (by omega)
  clear hl
  go_enter Tryz.func4, Tryz.ntmps4
  go_wp2_with fail
  generalize hW1 : (((w).alloc (.cells _ _)).alloc (.cells _ _)).alloc (.cells _ _) = W1 at *
  replace HS := Lib.hid (((((HS.out).alloc (B := w.heap.size) rfl (by rfl)).alloc (B := w.heap.size + 1) (by simp) (by rfl)).alloc (B := w.heap.size + 2) (by simp) (by rfl)).to hW1 (by (try simp only [nb5, nb6]); rfl))
  clear hW1
  refine (awake03_any _).mono ?_
  rintro e w2 ⟨rfl, hb2⟩
  replace HS := Lib.hid (HS.out.below hb2)
  clear hb2
  go_wp2_with fail
  refine (awake03_any _).mono ?_
  rintro e w3 ⟨rfl, hb3⟩
  replace HS := Lib.hid (HS.out.below hb3)
  clear hb3
  go_wp2_with fail
  go_ret
  exact ⟨by rfl, HS.out.bel⟩
 ·
  have t1 : decide ((l.length : Int) > 40) = false := decide_eq_false (by omega)
  have t1b : decide (40 < l.length) = false := decide_eq_false (by omega)
  clear hl
  go_enter Tryz.func4, Tryz.ntmps4
  go_wp2_with fail
  generalize hW4 : (((w).alloc (.cells _ _)).alloc (.cells _ _)).alloc (.cells _ _) = W4 at *
  replace HS := Lib.hid (((((HS.out).alloc (B := w.heap.size) rfl (by rfl)).alloc (B := w.heap.size + 1) (by simp) (by rfl)).alloc (B := w.heap.size + 2) (by simp) (by rfl)).to hW4 (by (try simp only [nb5, nb6]); rfl))
  clear hW4
  refine (awake03_any _).mono ?_
  rintro e w5 ⟨rfl, hb5⟩
  replace HS := Lib.hid (HS.out.below hb5)
  clear hb5
  have b0e := (HS.out.at 2 _ _ _ rfl)
  have b0c0 := blk_cell b0e 0 (.int .i64 au) rfl
  have b0c1 := blk_cell b0e 1 (.int .i64 av) rfl
  have b0f0 := blk_frozen b0e 0
  have b0f1 := blk_frozen b0e 1
  have b0l := blk_lt b0e
  clear b0e
  have b1e := (HS.out.at 1 _ _ _ rfl)
  have b1c0 := blk_cell b1e 0 (.int .i64 bu) rfl
  have b1c1 := blk_cell b1e 1 (.int .i64 bv) rfl
  have b1f0 := blk_frozen b1e 0
  have b1f1 := blk_frozen b1e 1
  have b1l := blk_lt b1e
  clear b1e
  have b2e := (HS.out.at 0 _ _ _ rfl)
  have b2c0 := blk_cell b2e 0 (.int .i64 cu) rfl
  have b2c1 := blk_cell b2e 1 (.int .i64 cv) rfl
  have b2f0 := blk_frozen b2e 0
  have b2f1 := blk_frozen b2e 1
  have b2l := blk_lt b2e
  clear b2e
  go_wp2_with fail
  clear b0c0 b0c1 b0f0 b0f1 b0l b1c0 b1c1 b1f0 b1f1 b1l b2c0 b2c1 b2f0 b2f1 b2l
  refine (HRP.out _).mono ?_
  rintro e w6 ⟨v6, rfl, hv6, hb6⟩
  obtain ⟨z6, rfl⟩ := hv6.open3
  replace HS := Lib.hid (HS.out.below hb6)
  clear hb6
  replace HS := Lib.hid (HS.out.addP hv6)
  clear hv6
  have b0e := (HS.out.at 2 _ _ _ rfl)
  have b0c0 := blk_cell b0e 0 (.int .i64 au) rfl
  have b0c1 := blk_cell b0e 1 (.int .i64 av) rfl
  have b0f0 := blk_frozen b0e 0
  have b0f1 := blk_frozen b0e 1
  have b0l := blk_lt b0e
  clear b0e
  have b1e := (HS.out.at 1 _ _ _ rfl)
  have b1c0 := blk_cell b1e 0 (.int .i64 bu) rfl
  have b1c1 := blk_cell b1e 1 (.int .i64 bv) rfl
  have b1f0 := blk_frozen b1e 0
  have b1f1 := blk_frozen b1e 1
  have b1l := blk_lt b1e
  clear b1e
  have b2e := (HS.out.at 0 _ _ _ rfl)
  have b2c0 := blk_cell b2e 0 (.int .i64 cu) rfl
  have b2c1 := blk_cell b2e 1 (.int .i64 cv) rfl
  have b2f0 := blk_frozen b2e 0
  have b2f1 := blk_frozen b2e 1
  have b2l := blk_lt b2e
  clear b2e
  go_wp2_with fail
  clear b0c0 b0c1 b0f0 b0f1 b0l b1c0 b1c1 b1f0 b1f1 b1l b2c0 b2c1 b2f0 b2f1 b2l
  generalize hW7 : (w6).alloc (.cells _ _) = W7 at *
  replace HS := Lib.hid (((HS.out).alloc (B := w6.heap.size) rfl (by rfl)).to hW7 (by (try simp only [nb5, nb6]); rfl))
  clear hW7
  refine (HRQ.out _).mono ?_
  rintro e w8 ⟨v8, rfl, hv8, hb8⟩
  obtain ⟨z8, rfl⟩ := hv8.open3
  replace HS := Lib.hid (HS.out.below hb8)
  clear hb8
  replace HS := Lib.hid (HS.out.addQ hv8)
  clear hv8
  go_wp2_with fail
  generalize hW9 : (w8).alloc (.cells _ _) = W9 at *
  replace HS := Lib.hid (((HS.out).alloc (B := w8.heap.size) rfl (by rfl)).to hW9 (by (try simp only [nb5, nb6]); rfl))
  clear hW9
  refine (HSP.out _ _ (HP.out.below HS.out.bel) HCP.out).mono ?_
  rintro e w10 ⟨rfl, hb10⟩
  replace HS := Lib.hid (HS.out.below hb10)
  clear hb10
  go_wp2_with fail
  refine (HSQ.out _ _ (HP.out.below HS.out.bel) HCP.out).mono ?_
  rintro e w11 ⟨rfl, hb11⟩
  replace HS := Lib.hid (HS.out.below hb11)
  clear hb11
  obtain ⟨b3c0, b3c1, b3c2, b3f0, b3f1, b3f2⟩ := fac3 (x := z6) (HS.out.at 1 _ _ _ rfl)
  have b3l := blk_lt (HS.out.at 1 _ _ _ rfl)
  obtain ⟨b4c0, b4c1, b4c2, b4f0, b4f1, b4f2⟩ := fac3 (x := z8) (HS.out.at 0 _ _ _ rfl)
  have b4l := blk_lt (HS.out.at 0 _ _ _ rfl)
  go_wp2_with fail
  clear b3c0 b3c1 b3c2 b3f0 b3f1 b3f2 b3l b4c0 b4c1 b4c2 b4f0 b4f1 b4f2 b4l
  refine (lis_any qr _ _ _ (HS.out.p 1 _ _ rfl) (HS.out.q 0 _ _ rfl) (szR_mono ZR.out (by omega))).mono ?_
  rintro e w12 ⟨rfl, hb12⟩
  replace HS := Lib.hid (HS.out.below hb12)
  clear hb12
  go_wp2_with fail
  go_ret
  exact ⟨by rfl, HS.out.bel⟩
end Go.Proofs.YtemkhgdhoingiaaGreat
