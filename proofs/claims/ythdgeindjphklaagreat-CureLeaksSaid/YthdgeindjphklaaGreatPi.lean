/- Part i of the lemmas and walks. -/
import Derived.Test.YthdgeindjphklaaGreatPh

namespace Go.Proofs.YthdgeindjphklaaGreat
open Go.RowKit

abbrev Raw4 := (Int × Int) × (Int × Int)
def Raw4At (w : World) (b o : Nat) (r : Raw4) : Prop :=
  w.cell? ⟨b, o, none⟩ = some (.int .i64 r.1.1) ∧ w.cell? ⟨b, o + 1, none⟩ = some (.int .i64 r.1.2) ∧ w.cell? ⟨b, o + 2, none⟩ = some (.int .i64 r.2.1) ∧ w.cell? ⟨b, o + 3, none⟩ = some (.int .i64 r.2.2)
def Raw4sOf (w : World) (v : Value) (rs : List Raw4) : Prop :=
  ∃ ao cap, v = .slice ao rs.length cap ∧ (0 < rs.length → ∃ b off, ao = some ⟨b, off, none⟩ ∧ b < w.heap.size ∧ ∀ i, i < rs.length → Raw4At w b (off + i * 4) (rs.getD i ((0, 0), (0, 0))))
def raw4P (r : Raw4) : Prop := i64P r.1 ∧ i64P r.2
def lo4r (r : Raw4) : Rat := loQ (fracQ r.1.1 r.1.2) (fracQ r.2.1 r.2.2)
def hi4r (r : Raw4) : Rat := hiQ (fracQ r.1.1 r.1.2) (fracQ r.2.1 r.2.2)
def rngsE (rs : List Raw4) : List (List Rat) := rs.map fun r => [lo4r r, hi4r r]
theorem rngsE_len (rs : List Raw4) : (rngsE rs).length = rs.length := by simp [rngsE]
theorem rngsE_tlen (rs : List Raw4) (i : Nat) (hi : i ≤ rs.length) : (rngsE (rs.take i)).length = i := by simp [rngsE]; omega
theorem rngsE_take (rs : List Raw4) (i : Nat) (hi : i < rs.length) : rngsE (rs.take (i + 1)) = rngsE (rs.take i) ++ [[lo4r (rs.getD i ((0, 0), (0, 0))), hi4r (rs.getD i ((0, 0), (0, 0)))]] := by
  unfold rngsE
  rw [List.take_add_one, List.map_append]
  simp [hi]
theorem rngsE_sz (rs : List Raw4) (h : ∀ i, i < rs.length → raw4P (rs.getD i ((0, 0), (0, 0)))) : recS (rngsE rs) := fun i j => by
  by_cases hi : i < rs.length
  · have e : (rngsE rs).getD i [] = [lo4r (rs.getD i ((0, 0), (0, 0))), hi4r (rs.getD i ((0, 0), (0, 0)))] := by
      unfold rngsE
      simp [List.getD, hi]
    rw [e]
    obtain ⟨h1, h2⟩ := h i hi
    match j with
    | 0 => exact szR_mono (loQ_sz (fracP_sz h1) (fracP_sz h2)) (by omega)
    | 1 => exact szR_mono (hiQ_sz (fracP_sz h1) (fracP_sz h2)) (by omega)
    | j + 2 => exact szR_zero _ (by omega)
  · have e : (rngsE rs).getD i [] = [] := by
      rw [List.getD_eq_getElem?_getD, List.getElem?_eq_none (by rw [rngsE_len]; omega)]
      rfl
    rw [e]
    exact szR_zero _ (by omega)
theorem light1_any (n d : Int) (v : Value) (w : World) (h : PairsOf w v [(n, d)]) : Calls Tryz.prog 13 #[v] w (RetBool (lightUp [(n, d)] 1) w) := light_any [(n, d)] v w h (by simp)
theorem pairs1 {W : World} {B T : Nat} {n0 d0 : Int} (h : W.heap[B]? = some (.cells #[.int .i64 n0, .int .i64 d0] T (0, 0))) : PairsOf W (.slice (some ⟨B, 0, none⟩) 1 1) [(n0, d0)] := by
  refine ⟨_, 1, rfl, fun _ => ⟨B, 0, rfl, blk_lt h, fun i hi => ?_⟩⟩
  match i, hi with
  | 0, _ => exact ⟨blk_cell h 0 _ rfl, blk_cell h 1 _ rfl⟩
  | i + 1, hi => simp at hi
theorem inf_ratio_Range : (Tryz.prog.info? 36).map (fun i => (i.zero, i.size, i.bytes)) = some (some (.agg #[.bool false, .slice none 0 0, .slice none 0 0, .bool false, .slice none 0 0, .slice none 0 0]), 6, 112) := by kernel_rfl
theorem inf_wingworksref01_S : (Tryz.prog.info? 42).map (fun i => (i.zero, i.size, i.bytes)) = some (some (.agg #[.bool false, .slice none 0 0, .slice none 0 0, .bool false, .slice none 0 0, .slice none 0 0]), 6, 112) := by kernel_rfl
set_option maxRecDepth 100000 in
set_option maxHeartbeats 4000000 in
theorem cureLeaks_any (n d : Int) (ps fs : List Raw4) (vp vf : Value) (w : World) (hV : i64P (n, d)) (hp : Raw4sOf w vp ps) (hf : Raw4sOf w vf fs) (rp : ∀ i, i < ps.length → raw4P (ps.getD i ((0, 0), (0, 0)))) (rf : ∀ i, i < fs.length → raw4P (fs.getD i ((0, 0), (0, 0)))) :
    Calls Tryz.prog 3 #[.agg #[.int .i64 n, .int .i64 d], vp, vf] w (RetBool true w) := by
  have HS := Lib.hid (Sx.init w)
  have HV := Lib.hid hV
  have HRps := Lib.hid rp
  have HRfs := Lib.hid rf
  obtain ⟨aps, cps, rfl, hEp⟩ := hp
  obtain ⟨afs, cfs, rfl, hEf⟩ := hf
  have HEps := Lib.hid hEp
  have HEfs := Lib.hid hEf
  clear hEp hEf hV rp rf
  by_cases h1 : 300 < ps.length
  ·
    have t1 : decide ((ps.length : Int) > 300) = true := decide_eq_true (by omega)
    have t1b : decide (300 < ps.length) = true := decide_eq_true (by omega)
    go_enter Tryz.func3, Tryz.ntmps3
    go_wp2_with fail
    generalize hW1 : (w).alloc (.cells _ _) = W1 at *
    replace HS : Hid (Sx w W1 [(w.heap.size, #[.int .i64 n, .int .i64 d], 23)] []) := by subst hW1; exact (HS.out).alloc (B := w.heap.size) rfl (by rfl)
    clear hW1
    refine (awake05_any _).mono ?_
    rintro e w2 ⟨rfl, hb2⟩
    replace HS := Lib.hid (HS.out.below hb2)
    clear hb2
    go_wp2_with fail
    go_ret
    exact ⟨by simp, HS.out.bel⟩
  by_cases h2 : 300 < fs.length
  ·
    have t1 : decide ((ps.length : Int) > 300) = false := decide_eq_false (by omega)
    have t1b : decide (300 < ps.length) = false := decide_eq_false (by omega)
    have t2 : decide ((fs.length : Int) > 300) = true := decide_eq_true (by omega)
    have t2b : decide (300 < fs.length) = true := decide_eq_true (by omega)
    clear h1
    go_enter Tryz.func3, Tryz.ntmps3
    go_wp2_with fail
    generalize hW3 : (w).alloc (.cells _ _) = W3 at *
    replace HS : Hid (Sx w W3 [(w.heap.size, #[.int .i64 n, .int .i64 d], 23)] []) := by subst hW3; exact (HS.out).alloc (B := w.heap.size) rfl (by rfl)
    clear hW3
    refine (awake05_any _).mono ?_
    rintro e w4 ⟨rfl, hb4⟩
    replace HS := Lib.hid (HS.out.below hb4)
    clear hb4
    go_wp2_with fail
    go_ret
    exact ⟨by simp, HS.out.bel⟩
  ·
    have t1 : decide ((ps.length : Int) > 300) = false := decide_eq_false (by omega)
    have t1b : decide (300 < ps.length) = false := decide_eq_false (by omega)
    have t2 : decide ((fs.length : Int) > 300) = false := decide_eq_false (by omega)
    have t2b : decide (300 < fs.length) = false := decide_eq_false (by omega)
    have hl1 : ps.length ≤ 300 := by omega
    have hl2 : fs.length ≤ 300 := by omega
    have hzp := rngsE_sz ps HRps.out
    have hzf := rngsE_sz fs HRfs.out
    have hzv : szR (fracQ n d) 1000 := szR_mono (fracP_sz HV.out) (by omega)
    have HLP : Hid (∀ W vV vp vf, IsRat W vV (fracQ n d) → RecsOf true 2 W vp (rngsE ps) → RecsOf true 2 W vf (rngsE fs) → Calls Tryz.prog 17 #[vV, vp, vf] W (RetRngE (lkOf (fracQ n d) (rngsE ps) (rngsE fs)).1 (lkOf (fracQ n d) (rngsE ps) (rngsE fs)).2.1 (lkOf (fracQ n d) (rngsE ps) (rngsE fs)).2.2 W)) := fun W vV vp vf k1 k2 k3 => leak_any (fracQ n d) (rngsE ps) (rngsE fs) vV vp vf W k1 k2 k3 (by rw [rngsE_len]; omega) (by rw [rngsE_len]; omega) hzv hzp hzf
    have HLQ : Hid (∀ W vV vp vf, IsR W vV (fracQ n d) → RecsOf false 2 W vp (rngsE ps) → RecsOf false 2 W vf (rngsE fs) → Calls Tryz.prog 19 #[vV, vp, vf] W (RetRngQE (lkOf (fracQ n d) (rngsE ps) (rngsE fs)).1 (lkOf (fracQ n d) (rngsE ps) (rngsE fs)).2.1 (lkOf (fracQ n d) (rngsE ps) (rngsE fs)).2.2 W)) := fun W vV vp vf k1 k2 k3 => qleak_any (fracQ n d) (rngsE ps) (rngsE fs) vV vp vf W k1 k2 k3 (by rw [rngsE_len]; omega) (by rw [rngsE_len]; omega) hzv hzp hzf
    have hz1 := lkOf_sz hzv hzp hzf
    have ZL1 := Lib.hid hz1.1
    have ZL2 := Lib.hid hz1.2
    clear hz1 hzp hzf hzv
    generalize lkOf (fracQ n d) (rngsE ps) (rngsE fs) = lk at *
    obtain ⟨lk1, lk2, lk3⟩ := lk
    clear h1 h2
    go_enter Tryz.func3, Tryz.ntmps3
    go_wp2_with fail
    generalize hW5 : ((w).alloc (.cells _ _)).alloc (.cells _ _) = W5 at *
    replace HS : Hid (Sx w W5 [(w.heap.size + 1, #[.int .i64 n, .int .i64 d], 23), (w.heap.size, #[.int .i64 n, .int .i64 d], 23)] []) := by subst hW5; exact ((HS.out).alloc (B := w.heap.size) rfl (by rfl)).alloc (B := w.heap.size + 1) (by simp) (by rfl)
    clear hW5
    cases t6 : lightUp [(n, d)] 1 with
    | true =>
      refine (light1_any n d _ _ (pairs1 (HS.out.at 0 _ _ _ rfl))).mono ?_
      rw [t6]
      rintro e w7 ⟨rfl, hb7⟩
      replace HS := Lib.hid (HS.out.below hb7)
      clear hb7
      go_wp2_with fail
      have HG := Lib.hid (((((GsR.nil w w7 [(w.heap.size + 1, #[.int .i64 n, .int .i64 d], 23), (w.heap.size, #[.int .i64 n, .int .i64 d], 23)]).add 36 true 2).add 36 true 2).add 42 false 2).add 42 false 2)
      go_wp2_with fail
      go_loopw [36, 7, 9] (fun u36 u7 u9 wr => ∃ (i : Nat) (va : Value) (xa : List Value) (vb : Value) (xb : List Value), i ≤ ps.length ∧ u36 = .int .i64 i ∧ va = u7 ∧ vb = u9 ∧ Hid (Sx w wr [(w.heap.size + 1, #[.int .i64 n, .int .i64 d], 23), (w.heap.size, #[.int .i64 n, .int .i64 d], 23)] []) ∧ Hid (GsR w wr [(w.heap.size + 1, #[.int .i64 n, .int .i64 d], 23), (w.heap.size, #[.int .i64 n, .int .i64 d], 23)] [⟨42, false, 2, .slice none 0 0, [], []⟩, ⟨42, false, 2, vb, xb, (rngsE (ps.take i))⟩, ⟨36, true, 2, .slice none 0 0, [], []⟩, ⟨36, true, 2, va, xa, (rngsE (ps.take i))⟩]))
        (fun u _ _ _ => ps.length - (intOf u).toNat)
      case atStart => exact ⟨0, .slice none 0 0, [], .slice none 0 0, [], Nat.zero_le _, rfl, rfl, rfl, Lib.hid (HS.out.bare), HG⟩
      case round =>
        obtain ⟨wr8, hwr8⟩ : ∃ z, z = wr := ⟨_, rfl⟩
        subst hwr8
        clear HS HG
        obtain ⟨i, va, xa, vb, xb, hi, rfl, rfl, rfl, HS, HG⟩ := hrel
        by_cases hlt : i < ps.length
        ·
          have hlt' : (i : Int) < ps.length := by omega
          have hge' : (0 : Int) ≤ i := by omega
          have HLT := Lib.hid hlt
          obtain ⟨bps, ops, rfl, hbps, hEE⟩ := HEps.out (by omega)
          have HBLps := Lib.hid hbps
          obtain ⟨g0, g1, g2, g3⟩ := hEE i hlt
          have HRW := Lib.hid (HRps.out i hlt)
          have HTK := Lib.hid (rngsE_take ps i hlt)
          have hln := rngsE_tlen ps i hi
          have E0 := Lib.hid g0
          have E1 := Lib.hid g1
          have E2 := Lib.hid g2
          have E3 := Lib.hid g3
          clear g0 g1 g2 g3 hEE hbps
          have HLO : Hid (lo4r (ps.getD i ((0, 0), (0, 0))) = loQ (fracQ (ps.getD i ((0, 0), (0, 0))).1.1 (ps.getD i ((0, 0), (0, 0))).1.2) (fracQ (ps.getD i ((0, 0), (0, 0))).2.1 (ps.getD i ((0, 0), (0, 0))).2.2)) := rfl
          have HHI : Hid (hi4r (ps.getD i ((0, 0), (0, 0))) = hiQ (fracQ (ps.getD i ((0, 0), (0, 0))).1.1 (ps.getD i ((0, 0), (0, 0))).1.2) (fracQ (ps.getD i ((0, 0), (0, 0))).2.1 (ps.getD i ((0, 0), (0, 0))).2.2)) := rfl
          obtain ⟨hr1, hr2⟩ := HRW.out
          have hr1 : i64P ((ps.getD i ((0, 0), (0, 0))).1.1, (ps.getD i ((0, 0), (0, 0))).1.2) := hr1
          have hr2 : i64P ((ps.getD i ((0, 0), (0, 0))).2.1, (ps.getD i ((0, 0), (0, 0))).2.2) := hr2
          generalize lo4r (ps.getD i ((0, 0), (0, 0))) = lo at *
          generalize hi4r (ps.getD i ((0, 0), (0, 0))) = hi2 at *
          generalize (ps.getD i ((0, 0), (0, 0))).1.1 = a0 at *
          generalize (ps.getD i ((0, 0), (0, 0))).1.2 = b0 at *
          generalize (ps.getD i ((0, 0), (0, 0))).2.1 = a1 at *
          generalize (ps.getD i ((0, 0), (0, 0))).2.2 = b1 at *
          have HRP : Hid (∀ W, Calls Tryz.prog 15 #[.agg #[.int .i64 a0, .int .i64 b0, .int .i64 a1, .int .i64 b1]] W (RetRng lo hi2 W)) := fun W => by rw [HLO.out, HHI.out]; exact lrange_any a0 b0 a1 b1 W hr1 hr2
          have HRQ : Hid (∀ W, Calls Tryz.prog 16 #[.agg #[.int .i64 a0, .int .i64 b0, .int .i64 a1, .int .i64 b1]] W (RetRngQ lo hi2 W)) := fun W => by rw [HLO.out, HHI.out]; exact refrange_any a0 b0 a1 b1 W hr1 hr2
          clear hr1 hr2 HLO HHI HRW hlt
          have Ec0 := (HS.out.bel.cell (p := ⟨bps, ops + i * 4, none⟩) HBLps.out).trans E0.out
          have Ec1 := (HS.out.bel.cell (p := ⟨bps, ops + i * 4 + 1, none⟩) HBLps.out).trans E1.out
          have Ec2 := (HS.out.bel.cell (p := ⟨bps, ops + i * 4 + 2, none⟩) HBLps.out).trans E2.out
          have Ec3 := (HS.out.bel.cell (p := ⟨bps, ops + i * 4 + 3, none⟩) HBLps.out).trans E3.out
          go_wp2_with fail
          clear Ec0 Ec1 Ec2 Ec3
          generalize hW9 : (wr8).alloc (.cells _ _) = W9 at *
          replace HG : Hid (GsR w W9 [(wr8.heap.size, #[.int .i64 a0, .int .i64 b0, .int .i64 a1, .int .i64 b1], 29), (w.heap.size + 1, #[.int .i64 n, .int .i64 d], 23), (w.heap.size, #[.int .i64 n, .int .i64 d], 23)] [⟨42, false, 2, .slice none 0 0, [], []⟩, ⟨42, false, 2, vb, xb, (rngsE (ps.take i))⟩, ⟨36, true, 2, .slice none 0 0, [], []⟩, ⟨36, true, 2, va, xa, (rngsE (ps.take i))⟩]) := by subst hW9; exact (HG.out).alloc (B := wr8.heap.size) rfl
          replace HS : Hid (Sx w W9 [(wr8.heap.size, #[.int .i64 a0, .int .i64 b0, .int .i64 a1, .int .i64 b1], 29), (w.heap.size + 1, #[.int .i64 n, .int .i64 d], 23), (w.heap.size, #[.int .i64 n, .int .i64 d], 23)] []) := by subst hW9; exact (HS.out).alloc (B := wr8.heap.size) rfl (by rfl)
          clear hW9
          cases t10 : lightUp [(a0, b0), (a1, b1)] 2 with
          | true =>
            refine (light2_any a0 b0 a1 b1 _ _ (pairsB (HS.out.at 0 _ _ _ rfl))).mono ?_
            rw [t10]
            rintro e w11 ⟨rfl, hb11⟩
            replace HS := Lib.hid (HS.out.below hb11)
            replace HG := Lib.hid (HG.out.below hb11)
            clear hb11
            go_wp2_with fail
            refine wp_region_held_drew (S := (fun w' => Sx w w' [(wr8.heap.size, #[.int .i64 a0, .int .i64 b0, .int .i64 a1, .int .i64 b1], 29), (w.heap.size + 1, #[.int .i64 n, .int .i64 d], 23), (w.heap.size, #[.int .i64 n, .int .i64 d], 23)] [])) (by kernel_rfl) ((HS.out.drew).bare) (fun hh => ?_)
            replace HS := Lib.hid HS.out.drew
            replace HG := Lib.hid (HG.out.below (Below.refl _ _).drew)
            refine tkA (i := 0) (v := ?vpr12_0_k14) rfl (Or.inl ⟨by first | rfl | kernel_rfl, ?hypr12_0_k14⟩) (by assumption) ?repr12_0_k14
            case hypr12_0_k14 => (intro u hSu; (first | (go_simp; done) | (go_simp; with_reducible rfl)))
            try simp only [nb1, nb2, nb3, Act.put, nb4, nb5, nb6]
            refine tkA (i := 1) (v := ?vpr12_1_k16) rfl (Or.inl ⟨by first | rfl | kernel_rfl, ?hypr12_1_k16⟩) (by assumption) ?repr12_1_k16
            case hypr12_1_k16 => (intro u hSu; (try dsimp only at hSu); have qb2e := (hSu.at 0 _ _ _ rfl); have qb2c0 := blk_cell qb2e 0 (.int .i64 a0) rfl; have qb2c1 := blk_cell qb2e 1 (.int .i64 b0) rfl; have qb2c2 := blk_cell qb2e 2 (.int .i64 a1) rfl; have qb2c3 := blk_cell qb2e 3 (.int .i64 b1) rfl; clear qb2e; clear hSu; (first | (go_simp; done) | (go_simp; with_reducible rfl)))
            try simp only [nb1, nb2, nb3, Act.put, nb4, nb5, nb6]
            refine tkA (i := 5) (v := ?vpr12_5_k18) rfl (Or.inl ⟨by first | rfl | kernel_rfl, ?hypr12_5_k18⟩) (by assumption) ?repr12_5_k18
            case hypr12_5_k18 => (intro u hSu; (first | (go_simp; done) | (go_simp; with_reducible rfl)))
            try simp only [nb1, nb2, nb3, Act.put, nb4, nb5, nb6]
            refine tkA (i := 6) (v := ?vpr12_6_k20) rfl (Or.inl ⟨by first | rfl | kernel_rfl, ?hypr12_6_k20⟩) (by assumption) ?repr12_6_k20
            case hypr12_6_k20 => (intro u hSu; (try dsimp only at hSu); have qb2e := (hSu.at 0 _ _ _ rfl); have qb2c0 := blk_cell qb2e 0 (.int .i64 a0) rfl; have qb2c1 := blk_cell qb2e 1 (.int .i64 b0) rfl; have qb2c2 := blk_cell qb2e 2 (.int .i64 a1) rfl; have qb2c3 := blk_cell qb2e 3 (.int .i64 b1) rfl; clear qb2e; clear hSu; (first | (go_simp; done) | (go_simp; with_reducible rfl)))
            try simp only [nb1, nb2, nb3, Act.put, nb4, nb5, nb6]
            refine rdA (i := 2) rfl (fun K hK => ?_)
            go_simp
            go_wp2_with (go_at_call 15; (with_reducible refine (HRP.out _).mono ?_); rintro e w21 ⟨v21, rfl, ⟨z21a, z21b, rfl, hv21, hw21⟩, hb21⟩)
            refine hK.out _ _ (Sx.below hh hb21) (fun hh => ?_)
            clear hK K
            try simp only [nb1, nb2, nb3, Act.put, nb4, nb5, nb6]
            replace HS := Lib.hid (HS.out.below hb21)
            replace HG := Lib.hid (HG.out.below hb21)
            clear hb21
            replace HS := Lib.hid (HS.out.addP hv21)
            clear hv21
            replace HS := Lib.hid (HS.out.addP hw21)
            clear hw21
            refine rdA (i := 3) rfl (fun K hK => ?_)
            go_simp
            refine hK.out _ _ (Sx.below hh ((Below.refl _ _).alloc (Nat.le_refl _) _)) (fun hh => ?_)
            clear hK K
            try simp only [nb1, nb2, nb3, Act.put, nb4, nb5, nb6]
            generalize hW22 : (w21).alloc (.cells _ _) = W22 at *
            replace HS : Hid (Sx w W22 [(w21.heap.size, arr6 z21a z21b, 36), (wr8.heap.size, #[.int .i64 a0, .int .i64 b0, .int .i64 a1, .int .i64 b1], 29), (w.heap.size + 1, #[.int .i64 n, .int .i64 d], 23), (w.heap.size, #[.int .i64 n, .int .i64 d], 23)] [(true, z21b.val, hi2), (true, z21a.val, lo)]) := by subst hW22; exact HS.out.alloc (B := w21.heap.size) rfl (by rfl)
            replace HG : Hid (GsR w W22 [(w21.heap.size, arr6 z21a z21b, 36), (wr8.heap.size, #[.int .i64 a0, .int .i64 b0, .int .i64 a1, .int .i64 b1], 29), (w.heap.size + 1, #[.int .i64 n, .int .i64 d], 23), (w.heap.size, #[.int .i64 n, .int .i64 d], 23)] [⟨42, false, 2, .slice none 0 0, [], []⟩, ⟨42, false, 2, vb, xb, (rngsE (ps.take i))⟩, ⟨36, true, 2, .slice none 0 0, [], []⟩, ⟨36, true, 2, va, xa, (rngsE (ps.take i))⟩]) := by subst hW22; exact HG.out.alloc (B := w21.heap.size) rfl
            clear hW22
            refine rdA (i := 4) rfl (fun K hK => ?_)
            obtain ⟨ii23, hi23, hz23, hs23, hy23⟩ := info_parts inf_ratio_Range
            have hzd23 : ∀ u ∈ (Value.agg #[.bool false, .slice none 0 0, .slice none 0 0, .bool false, .slice none 0 0, .slice none 0 0]).cells.toList, noDig u := by
              intro u hu
              have hu : u ∈ [.bool false, .slice none 0 0, .slice none 0 0, .bool false, .slice none 0 0, .slice none 0 0] := hu
              simp only [List.mem_cons, List.not_mem_nil, or_false] at hu
              rcases hu with rfl | rfl | rfl | rfl | rfl | rfl
              all_goals first | exact noDig_bool _ | exact noDig_slice _ _ _
            refine step_append_lrow _ rfl (.tmp 44) (.tmp 47) 27 rfl w.heap.size 36 ii23 _ 6 112 Tryz.underlying27 hi23 hz23 hs23 hy23 rfl (by decide) hzd23 _ _ _ rfl (HG.out.row 3 _ rfl) ⟨w21.heap.size, 0, none⟩ 1 1 [.bool z21a.b, .slice z21a.a z21a.n z21a.c, .slice z21a.d z21a.m z21a.e, .bool z21b.b, .slice z21b.a z21b.n z21b.c, .slice z21b.d z21b.m z21b.e] rfl rfl (cells_blk (HS.out.at 0 _ _ _ rfl)) (by simp [Value.oneCell']) (by intro u hu; simp only [List.mem_cons, List.not_mem_nil, or_false] at hu; rcases hu with rfl | rfl | rfl | rfl | rfl | rfl; all_goals first | exact noDig_bool _ | exact noDig_slice _ _ _) (by omega) (by dsimp only; unfold maxLen; omega) (by dsimp only; omega) HS.out.bel.size ?_
            intro g23 cap23 w23 hL23 hgr23 hat23
            obtain ⟨hs23', hg23'⟩ := Sx.append HS.out HG.out 3 rfl [z21a, z21b] [lo, hi2] rfl (fun j x hx => by match j, hx with
                | 0, hx => (simp at hx; subst hx; exact (HS.out.p 1 _ _ rfl))
                | 1, hx => (simp at hx; subst hx; exact (HS.out.p 0 _ _ rfl))
                | j + 2, hx => simp at hx) hL23 hgr23 (by intro c hc; simp [Value.ownBlock] at hc; subst hc; first | exact hat23 | simpa using hat23)
            replace HS : Hid (Sx w w23 [(w21.heap.size, arr6 z21a z21b, 36), (wr8.heap.size, #[.int .i64 a0, .int .i64 b0, .int .i64 a1, .int .i64 b1], 29), (w.heap.size + 1, #[.int .i64 n, .int .i64 d], 23), (w.heap.size, #[.int .i64 n, .int .i64 d], 23)] [(true, z21b.val, hi2), (true, z21a.val, lo)]) := hs23'
            replace HG : Hid (GsR w w23 [(w21.heap.size, arr6 z21a z21b, 36), (wr8.heap.size, #[.int .i64 a0, .int .i64 b0, .int .i64 a1, .int .i64 b1], 29), (w.heap.size + 1, #[.int .i64 n, .int .i64 d], 23), (w.heap.size, #[.int .i64 n, .int .i64 d], 23)] [⟨42, false, 2, .slice none 0 0, [], []⟩, ⟨42, false, 2, vb, xb, (rngsE (ps.take i))⟩, ⟨36, true, 2, .slice none 0 0, [], []⟩, ⟨36, true, 2, (.slice (some ⟨g23, 0, none⟩) ((rngsE (ps.take i)).length + 1) cap23), (xa ++ cellsR [z21a, z21b]), ((rngsE (ps.take i)) ++ [[lo, hi2]])⟩]) := hg23'
            clear hs23' hg23' hL23 hgr23 hat23 hzd23 hi23 hz23 hs23 hy23
            refine hK.out _ _ ((HS.out).erase 0) (fun hh => ?_)
            clear hK K
            try simp only [nb1, nb2, nb3, Act.put, nb4, nb5, nb6]
            refine rdA (i := 7) rfl (fun K hK => ?_)
            go_simp
            go_wp2_with (go_at_call 16; (with_reducible refine (HRQ.out _).mono ?_); rintro e w24 ⟨v24, rfl, ⟨z24a, z24b, rfl, hv24, hw24⟩, hb24⟩)
            refine hK.out _ _ (Sx.below hh hb24) (fun hh => ?_)
            clear hK K
            try simp only [nb1, nb2, nb3, Act.put, nb4, nb5, nb6]
            replace HS := Lib.hid (HS.out.below hb24)
            replace HG := Lib.hid (HG.out.below hb24)
            clear hb24
            replace HS := Lib.hid (HS.out.addQ hv24)
            clear hv24
            replace HS := Lib.hid (HS.out.addQ hw24)
            clear hw24
            refine rdA (i := 8) rfl (fun K hK => ?_)
            go_simp
            refine hK.out _ _ (Sx.below hh ((Below.refl _ _).alloc (Nat.le_refl _) _)) (fun hh => ?_)
            clear hK K
            try simp only [nb1, nb2, nb3, Act.put, nb4, nb5, nb6]
            generalize hW25 : (w24).alloc (.cells _ _) = W25 at *
            replace HS : Hid (Sx w W25 [(w24.heap.size, arr6 z24a z24b, 42), (w21.heap.size, arr6 z21a z21b, 36), (wr8.heap.size, #[.int .i64 a0, .int .i64 b0, .int .i64 a1, .int .i64 b1], 29), (w.heap.size + 1, #[.int .i64 n, .int .i64 d], 23), (w.heap.size, #[.int .i64 n, .int .i64 d], 23)] [(false, z24b.val, hi2), (false, z24a.val, lo), (true, z21b.val, hi2), (true, z21a.val, lo)]) := by subst hW25; exact HS.out.alloc (B := w24.heap.size) rfl (by rfl)
            replace HG : Hid (GsR w W25 [(w24.heap.size, arr6 z24a z24b, 42), (w21.heap.size, arr6 z21a z21b, 36), (wr8.heap.size, #[.int .i64 a0, .int .i64 b0, .int .i64 a1, .int .i64 b1], 29), (w.heap.size + 1, #[.int .i64 n, .int .i64 d], 23), (w.heap.size, #[.int .i64 n, .int .i64 d], 23)] [⟨42, false, 2, .slice none 0 0, [], []⟩, ⟨42, false, 2, vb, xb, (rngsE (ps.take i))⟩, ⟨36, true, 2, .slice none 0 0, [], []⟩, ⟨36, true, 2, (.slice (some ⟨g23, 0, none⟩) ((rngsE (ps.take i)).length + 1) cap23), (xa ++ cellsR [z21a, z21b]), ((rngsE (ps.take i)) ++ [[lo, hi2]])⟩]) := by subst hW25; exact HG.out.alloc (B := w24.heap.size) rfl
            clear hW25
            refine rdA (i := 9) rfl (fun K hK => ?_)
            obtain ⟨ii26, hi26, hz26, hs26, hy26⟩ := info_parts inf_wingworksref01_S
            have hzd26 : ∀ u ∈ (Value.agg #[.bool false, .slice none 0 0, .slice none 0 0, .bool false, .slice none 0 0, .slice none 0 0]).cells.toList, noDig u := by
              intro u hu
              have hu : u ∈ [.bool false, .slice none 0 0, .slice none 0 0, .bool false, .slice none 0 0, .slice none 0 0] := hu
              simp only [List.mem_cons, List.not_mem_nil, or_false] at hu
              rcases hu with rfl | rfl | rfl | rfl | rfl | rfl
              all_goals first | exact noDig_bool _ | exact noDig_slice _ _ _
            refine step_append_lrow _ rfl (.tmp 49) (.tmp 52) 28 rfl w.heap.size 42 ii26 _ 6 112 Tryz.underlying28 hi26 hz26 hs26 hy26 rfl (by decide) hzd26 _ _ _ rfl (HG.out.row 1 _ rfl) ⟨w24.heap.size, 0, none⟩ 1 1 [.bool z24a.b, .slice z24a.a z24a.n z24a.c, .slice z24a.d z24a.m z24a.e, .bool z24b.b, .slice z24b.a z24b.n z24b.c, .slice z24b.d z24b.m z24b.e] rfl rfl (cells_blk (HS.out.at 0 _ _ _ rfl)) (by simp [Value.oneCell']) (by intro u hu; simp only [List.mem_cons, List.not_mem_nil, or_false] at hu; rcases hu with rfl | rfl | rfl | rfl | rfl | rfl; all_goals first | exact noDig_bool _ | exact noDig_slice _ _ _) (by omega) (by dsimp only; unfold maxLen; omega) (by dsimp only; omega) HS.out.bel.size ?_
            intro g26 cap26 w26 hL26 hgr26 hat26
            obtain ⟨hs26', hg26'⟩ := Sx.append HS.out HG.out 1 rfl [z24a, z24b] [lo, hi2] rfl (fun j x hx => by match j, hx with
                | 0, hx => (simp at hx; subst hx; exact (HS.out.q 1 _ _ rfl))
                | 1, hx => (simp at hx; subst hx; exact (HS.out.q 0 _ _ rfl))
                | j + 2, hx => simp at hx) hL26 hgr26 (by intro c hc; simp [Value.ownBlock] at hc; subst hc; first | exact hat26 | simpa using hat26)
            replace HS : Hid (Sx w w26 [(w24.heap.size, arr6 z24a z24b, 42), (w21.heap.size, arr6 z21a z21b, 36), (wr8.heap.size, #[.int .i64 a0, .int .i64 b0, .int .i64 a1, .int .i64 b1], 29), (w.heap.size + 1, #[.int .i64 n, .int .i64 d], 23), (w.heap.size, #[.int .i64 n, .int .i64 d], 23)] [(false, z24b.val, hi2), (false, z24a.val, lo), (true, z21b.val, hi2), (true, z21a.val, lo)]) := hs26'
            replace HG : Hid (GsR w w26 [(w24.heap.size, arr6 z24a z24b, 42), (w21.heap.size, arr6 z21a z21b, 36), (wr8.heap.size, #[.int .i64 a0, .int .i64 b0, .int .i64 a1, .int .i64 b1], 29), (w.heap.size + 1, #[.int .i64 n, .int .i64 d], 23), (w.heap.size, #[.int .i64 n, .int .i64 d], 23)] [⟨42, false, 2, .slice none 0 0, [], []⟩, ⟨42, false, 2, (.slice (some ⟨g26, 0, none⟩) ((rngsE (ps.take i)).length + 1) cap26), (xb ++ cellsR [z24a, z24b]), ((rngsE (ps.take i)) ++ [[lo, hi2]])⟩, ⟨36, true, 2, .slice none 0 0, [], []⟩, ⟨36, true, 2, (.slice (some ⟨g23, 0, none⟩) ((rngsE (ps.take i)).length + 1) cap23), (xa ++ cellsR [z21a, z21b]), ((rngsE (ps.take i)) ++ [[lo, hi2]])⟩]) := hg26'
            clear hs26' hg26' hL26 hgr26 hat26 hzd26 hi26 hz26 hs26 hy26
            refine hK.out _ _ (((HS.out).erase 1).erase 0) (fun hh => ?_)
            clear hK K
            try simp only [nb1, nb2, nb3, Act.put, nb4, nb5, nb6]
            refine tkA (i := 10) (v := ?vpr12_10_k28) rfl (Or.inl ⟨by first | rfl | kernel_rfl, ?hypr12_10_k28⟩) (by assumption) ?repr12_10_k28
            case hypr12_10_k28 => (intro u hSu; (first | (go_simp; done) | (go_simp; with_reducible rfl)))
            try simp only [nb1, nb2, nb3, Act.put, nb4, nb5, nb6]
            refine tkA (i := 11) (v := ?vpr12_11_k30) rfl (Or.inl ⟨by first | rfl | kernel_rfl, ?hypr12_11_k30⟩) (by assumption) ?repr12_11_k30
            case hypr12_11_k30 => (intro u hSu; (first | (go_simp; done) | (go_simp; with_reducible rfl)))
            try simp only [nb1, nb2, nb3, Act.put, nb4, nb5, nb6]
            refine wpAnyH_done (by kernel_rfl) ?_ _
            go_wp2_with fail
            exact ⟨⟨i + 1, (.slice (some ⟨g23, 0, none⟩) ((rngsE (ps.take i)).length + 1) cap23), (xa ++ cellsR [z21a, z21b]), (.slice (some ⟨g26, 0, none⟩) ((rngsE (ps.take i)).length + 1) cap26), (xb ++ cellsR [z24a, z24b]), by have := HLT.out; omega, by go_num, by first | rfl | rw [hln], by first | rfl | rw [hln], Lib.hid ((((HS.out).erase 0).erase 0).erase 0), Lib.hid (by rw [HTK.out]; exact HG.out.mono (fun b hb => ⟨b, by simp only [List.mem_cons] at hb ⊢; first | exact hb | (repeat (first | exact hb | right)), rfl⟩))⟩, meas_up HLT.out⟩
          | false =>
            refine (light2_any a0 b0 a1 b1 _ _ (pairsB (HS.out.at 0 _ _ _ rfl))).mono ?_
            rw [t10]
            rintro e w31 ⟨rfl, hb31⟩
            replace HS := Lib.hid (HS.out.below hb31)
            replace HG := Lib.hid (HG.out.below hb31)
            clear hb31
            go_wp2_with fail
            refine (awake05_any _).mono ?_
            rintro e w32 ⟨rfl, hb32⟩
            replace HS := Lib.hid (HS.out.below hb32)
            replace HG := Lib.hid (HG.out.below hb32)
            clear hb32
            go_wp2_with fail
            go_ret
            exact ⟨by simp, HS.out.bel⟩
        ·
          obtain rfl : i = ps.length := by omega
          rw [List.take_length] at HG
          go_wp2_with fail
          go_wp2_with fail
          go_loopw [57, 8, 10] (fun u57 u8 u10 wr => ∃ (j : Nat) (vc : Value) (xc : List Value) (vd : Value) (xd : List Value), j ≤ fs.length ∧ u57 = .int .i64 j ∧ vc = u8 ∧ vd = u10 ∧ Hid (Sx w wr [(w.heap.size + 1, #[.int .i64 n, .int .i64 d], 23), (w.heap.size, #[.int .i64 n, .int .i64 d], 23)] []) ∧ Hid (GsR w wr [(w.heap.size + 1, #[.int .i64 n, .int .i64 d], 23), (w.heap.size, #[.int .i64 n, .int .i64 d], 23)] [⟨42, false, 2, vd, xd, (rngsE (fs.take j))⟩, ⟨42, false, 2, vb, xb, (rngsE ps)⟩, ⟨36, true, 2, vc, xc, (rngsE (fs.take j))⟩, ⟨36, true, 2, va, xa, (rngsE ps)⟩]))
            (fun u _ _ _ => fs.length - (intOf u).toNat)
          case atStart => exact ⟨0, .slice none 0 0, [], .slice none 0 0, [], Nat.zero_le _, rfl, rfl, rfl, Lib.hid (HS.out.bare), HG⟩
          case round =>
            obtain ⟨wr33, hwr33⟩ : ∃ z, z = wr := ⟨_, rfl⟩
            subst hwr33
            clear HS HG
            obtain ⟨j, vc, xc, vd, xd, hi, rfl, rfl, rfl, HS, HG⟩ := hrel
            by_cases hlt : j < fs.length
            ·
              have hlt' : (j : Int) < fs.length := by omega
              have hge' : (0 : Int) ≤ j := by omega
              have HLT := Lib.hid hlt
              obtain ⟨bfs, ofs, rfl, hbfs, hEE⟩ := HEfs.out (by omega)
              have HBLfs := Lib.hid hbfs
              obtain ⟨g0, g1, g2, g3⟩ := hEE j hlt
              have HRW := Lib.hid (HRfs.out j hlt)
              have HTK := Lib.hid (rngsE_take fs j hlt)
              have hln := rngsE_tlen fs j hi
              have E0 := Lib.hid g0
              have E1 := Lib.hid g1
              have E2 := Lib.hid g2
              have E3 := Lib.hid g3
              clear g0 g1 g2 g3 hEE hbfs
              have HLO : Hid (lo4r (fs.getD j ((0, 0), (0, 0))) = loQ (fracQ (fs.getD j ((0, 0), (0, 0))).1.1 (fs.getD j ((0, 0), (0, 0))).1.2) (fracQ (fs.getD j ((0, 0), (0, 0))).2.1 (fs.getD j ((0, 0), (0, 0))).2.2)) := rfl
              have HHI : Hid (hi4r (fs.getD j ((0, 0), (0, 0))) = hiQ (fracQ (fs.getD j ((0, 0), (0, 0))).1.1 (fs.getD j ((0, 0), (0, 0))).1.2) (fracQ (fs.getD j ((0, 0), (0, 0))).2.1 (fs.getD j ((0, 0), (0, 0))).2.2)) := rfl
              obtain ⟨hr1, hr2⟩ := HRW.out
              have hr1 : i64P ((fs.getD j ((0, 0), (0, 0))).1.1, (fs.getD j ((0, 0), (0, 0))).1.2) := hr1
              have hr2 : i64P ((fs.getD j ((0, 0), (0, 0))).2.1, (fs.getD j ((0, 0), (0, 0))).2.2) := hr2
              generalize lo4r (fs.getD j ((0, 0), (0, 0))) = lo at *
              generalize hi4r (fs.getD j ((0, 0), (0, 0))) = hi2 at *
              generalize (fs.getD j ((0, 0), (0, 0))).1.1 = a0 at *
              generalize (fs.getD j ((0, 0), (0, 0))).1.2 = b0 at *
              generalize (fs.getD j ((0, 0), (0, 0))).2.1 = a1 at *
              generalize (fs.getD j ((0, 0), (0, 0))).2.2 = b1 at *
              have HRP : Hid (∀ W, Calls Tryz.prog 15 #[.agg #[.int .i64 a0, .int .i64 b0, .int .i64 a1, .int .i64 b1]] W (RetRng lo hi2 W)) := fun W => by rw [HLO.out, HHI.out]; exact lrange_any a0 b0 a1 b1 W hr1 hr2
              have HRQ : Hid (∀ W, Calls Tryz.prog 16 #[.agg #[.int .i64 a0, .int .i64 b0, .int .i64 a1, .int .i64 b1]] W (RetRngQ lo hi2 W)) := fun W => by rw [HLO.out, HHI.out]; exact refrange_any a0 b0 a1 b1 W hr1 hr2
              clear hr1 hr2 HLO HHI HRW hlt
              have Ec0 := (HS.out.bel.cell (p := ⟨bfs, ofs + j * 4, none⟩) HBLfs.out).trans E0.out
              have Ec1 := (HS.out.bel.cell (p := ⟨bfs, ofs + j * 4 + 1, none⟩) HBLfs.out).trans E1.out
              have Ec2 := (HS.out.bel.cell (p := ⟨bfs, ofs + j * 4 + 2, none⟩) HBLfs.out).trans E2.out
              have Ec3 := (HS.out.bel.cell (p := ⟨bfs, ofs + j * 4 + 3, none⟩) HBLfs.out).trans E3.out
              go_wp2_with fail
              clear Ec0 Ec1 Ec2 Ec3
              generalize hW34 : (wr33).alloc (.cells _ _) = W34 at *
              replace HG : Hid (GsR w W34 [(wr33.heap.size, #[.int .i64 a0, .int .i64 b0, .int .i64 a1, .int .i64 b1], 29), (w.heap.size + 1, #[.int .i64 n, .int .i64 d], 23), (w.heap.size, #[.int .i64 n, .int .i64 d], 23)] [⟨42, false, 2, vd, xd, (rngsE (fs.take j))⟩, ⟨42, false, 2, vb, xb, (rngsE ps)⟩, ⟨36, true, 2, vc, xc, (rngsE (fs.take j))⟩, ⟨36, true, 2, va, xa, (rngsE ps)⟩]) := by subst hW34; exact (HG.out).alloc (B := wr33.heap.size) rfl
              replace HS : Hid (Sx w W34 [(wr33.heap.size, #[.int .i64 a0, .int .i64 b0, .int .i64 a1, .int .i64 b1], 29), (w.heap.size + 1, #[.int .i64 n, .int .i64 d], 23), (w.heap.size, #[.int .i64 n, .int .i64 d], 23)] []) := by subst hW34; exact (HS.out).alloc (B := wr33.heap.size) rfl (by rfl)
              clear hW34
              cases t35 : lightUp [(a0, b0), (a1, b1)] 2 with
              | true =>
                refine (light2_any a0 b0 a1 b1 _ _ (pairsB (HS.out.at 0 _ _ _ rfl))).mono ?_
                rw [t35]
                rintro e w36 ⟨rfl, hb36⟩
                replace HS := Lib.hid (HS.out.below hb36)
                replace HG := Lib.hid (HG.out.below hb36)
                clear hb36
                go_wp2_with fail
                refine wp_region_held_drew (S := (fun w' => Sx w w' [(wr33.heap.size, #[.int .i64 a0, .int .i64 b0, .int .i64 a1, .int .i64 b1], 29), (w.heap.size + 1, #[.int .i64 n, .int .i64 d], 23), (w.heap.size, #[.int .i64 n, .int .i64 d], 23)] [])) (by kernel_rfl) ((HS.out.drew).bare) (fun hh => ?_)
                replace HS := Lib.hid HS.out.drew
                replace HG := Lib.hid (HG.out.below (Below.refl _ _).drew)
                refine tkA (i := 0) (v := ?vpr37_0_k39) rfl (Or.inl ⟨by first | rfl | kernel_rfl, ?hypr37_0_k39⟩) (by assumption) ?repr37_0_k39
                case hypr37_0_k39 => (intro u hSu; (first | (go_simp; done) | (go_simp; with_reducible rfl)))
                try simp only [nb1, nb2, nb3, Act.put, nb4, nb5, nb6]
                refine tkA (i := 1) (v := ?vpr37_1_k41) rfl (Or.inl ⟨by first | rfl | kernel_rfl, ?hypr37_1_k41⟩) (by assumption) ?repr37_1_k41
                case hypr37_1_k41 => (intro u hSu; (try dsimp only at hSu); have qb2e := (hSu.at 0 _ _ _ rfl); have qb2c0 := blk_cell qb2e 0 (.int .i64 a0) rfl; have qb2c1 := blk_cell qb2e 1 (.int .i64 b0) rfl; have qb2c2 := blk_cell qb2e 2 (.int .i64 a1) rfl; have qb2c3 := blk_cell qb2e 3 (.int .i64 b1) rfl; clear qb2e; clear hSu; (first | (go_simp; done) | (go_simp; with_reducible rfl)))
                try simp only [nb1, nb2, nb3, Act.put, nb4, nb5, nb6]
                refine tkA (i := 5) (v := ?vpr37_5_k43) rfl (Or.inl ⟨by first | rfl | kernel_rfl, ?hypr37_5_k43⟩) (by assumption) ?repr37_5_k43
                case hypr37_5_k43 => (intro u hSu; (first | (go_simp; done) | (go_simp; with_reducible rfl)))
                try simp only [nb1, nb2, nb3, Act.put, nb4, nb5, nb6]
                refine tkA (i := 6) (v := ?vpr37_6_k45) rfl (Or.inl ⟨by first | rfl | kernel_rfl, ?hypr37_6_k45⟩) (by assumption) ?repr37_6_k45
                case hypr37_6_k45 => (intro u hSu; (try dsimp only at hSu); have qb2e := (hSu.at 0 _ _ _ rfl); have qb2c0 := blk_cell qb2e 0 (.int .i64 a0) rfl; have qb2c1 := blk_cell qb2e 1 (.int .i64 b0) rfl; have qb2c2 := blk_cell qb2e 2 (.int .i64 a1) rfl; have qb2c3 := blk_cell qb2e 3 (.int .i64 b1) rfl; clear qb2e; clear hSu; (first | (go_simp; done) | (go_simp; with_reducible rfl)))
                try simp only [nb1, nb2, nb3, Act.put, nb4, nb5, nb6]
                refine rdA (i := 2) rfl (fun K hK => ?_)
                go_simp
                go_wp2_with (go_at_call 15; (with_reducible refine (HRP.out _).mono ?_); rintro e w46 ⟨v46, rfl, ⟨z46a, z46b, rfl, hv46, hw46⟩, hb46⟩)
                refine hK.out _ _ (Sx.below hh hb46) (fun hh => ?_)
                clear hK K
                try simp only [nb1, nb2, nb3, Act.put, nb4, nb5, nb6]
                replace HS := Lib.hid (HS.out.below hb46)
                replace HG := Lib.hid (HG.out.below hb46)
                clear hb46
                replace HS := Lib.hid (HS.out.addP hv46)
                clear hv46
                replace HS := Lib.hid (HS.out.addP hw46)
                clear hw46
                refine rdA (i := 3) rfl (fun K hK => ?_)
                go_simp
                refine hK.out _ _ (Sx.below hh ((Below.refl _ _).alloc (Nat.le_refl _) _)) (fun hh => ?_)
                clear hK K
                try simp only [nb1, nb2, nb3, Act.put, nb4, nb5, nb6]
                generalize hW47 : (w46).alloc (.cells _ _) = W47 at *
                replace HS : Hid (Sx w W47 [(w46.heap.size, arr6 z46a z46b, 36), (wr33.heap.size, #[.int .i64 a0, .int .i64 b0, .int .i64 a1, .int .i64 b1], 29), (w.heap.size + 1, #[.int .i64 n, .int .i64 d], 23), (w.heap.size, #[.int .i64 n, .int .i64 d], 23)] [(true, z46b.val, hi2), (true, z46a.val, lo)]) := by subst hW47; exact HS.out.alloc (B := w46.heap.size) rfl (by rfl)
                replace HG : Hid (GsR w W47 [(w46.heap.size, arr6 z46a z46b, 36), (wr33.heap.size, #[.int .i64 a0, .int .i64 b0, .int .i64 a1, .int .i64 b1], 29), (w.heap.size + 1, #[.int .i64 n, .int .i64 d], 23), (w.heap.size, #[.int .i64 n, .int .i64 d], 23)] [⟨42, false, 2, vd, xd, (rngsE (fs.take j))⟩, ⟨42, false, 2, vb, xb, (rngsE ps)⟩, ⟨36, true, 2, vc, xc, (rngsE (fs.take j))⟩, ⟨36, true, 2, va, xa, (rngsE ps)⟩]) := by subst hW47; exact HG.out.alloc (B := w46.heap.size) rfl
                clear hW47
                refine rdA (i := 4) rfl (fun K hK => ?_)
                obtain ⟨ii48, hi48, hz48, hs48, hy48⟩ := info_parts inf_ratio_Range
                have hzd48 : ∀ u ∈ (Value.agg #[.bool false, .slice none 0 0, .slice none 0 0, .bool false, .slice none 0 0, .slice none 0 0]).cells.toList, noDig u := by
                  intro u hu
                  have hu : u ∈ [.bool false, .slice none 0 0, .slice none 0 0, .bool false, .slice none 0 0, .slice none 0 0] := hu
                  simp only [List.mem_cons, List.not_mem_nil, or_false] at hu
                  rcases hu with rfl | rfl | rfl | rfl | rfl | rfl
                  all_goals first | exact noDig_bool _ | exact noDig_slice _ _ _
                refine step_append_lrow _ rfl (.tmp 65) (.tmp 68) 27 rfl w.heap.size 36 ii48 _ 6 112 Tryz.underlying27 hi48 hz48 hs48 hy48 rfl (by decide) hzd48 _ _ _ rfl (HG.out.row 2 _ rfl) ⟨w46.heap.size, 0, none⟩ 1 1 [.bool z46a.b, .slice z46a.a z46a.n z46a.c, .slice z46a.d z46a.m z46a.e, .bool z46b.b, .slice z46b.a z46b.n z46b.c, .slice z46b.d z46b.m z46b.e] rfl rfl (cells_blk (HS.out.at 0 _ _ _ rfl)) (by simp [Value.oneCell']) (by intro u hu; simp only [List.mem_cons, List.not_mem_nil, or_false] at hu; rcases hu with rfl | rfl | rfl | rfl | rfl | rfl; all_goals first | exact noDig_bool _ | exact noDig_slice _ _ _) (by omega) (by dsimp only; unfold maxLen; omega) (by dsimp only; omega) HS.out.bel.size ?_
                intro g48 cap48 w48 hL48 hgr48 hat48
                obtain ⟨hs48', hg48'⟩ := Sx.append HS.out HG.out 2 rfl [z46a, z46b] [lo, hi2] rfl (fun j x hx => by match j, hx with
                    | 0, hx => (simp at hx; subst hx; exact (HS.out.p 1 _ _ rfl))
                    | 1, hx => (simp at hx; subst hx; exact (HS.out.p 0 _ _ rfl))
                    | j + 2, hx => simp at hx) hL48 hgr48 (by intro c hc; simp [Value.ownBlock] at hc; subst hc; first | exact hat48 | simpa using hat48)
                replace HS : Hid (Sx w w48 [(w46.heap.size, arr6 z46a z46b, 36), (wr33.heap.size, #[.int .i64 a0, .int .i64 b0, .int .i64 a1, .int .i64 b1], 29), (w.heap.size + 1, #[.int .i64 n, .int .i64 d], 23), (w.heap.size, #[.int .i64 n, .int .i64 d], 23)] [(true, z46b.val, hi2), (true, z46a.val, lo)]) := hs48'
                replace HG : Hid (GsR w w48 [(w46.heap.size, arr6 z46a z46b, 36), (wr33.heap.size, #[.int .i64 a0, .int .i64 b0, .int .i64 a1, .int .i64 b1], 29), (w.heap.size + 1, #[.int .i64 n, .int .i64 d], 23), (w.heap.size, #[.int .i64 n, .int .i64 d], 23)] [⟨42, false, 2, vd, xd, (rngsE (fs.take j))⟩, ⟨42, false, 2, vb, xb, (rngsE ps)⟩, ⟨36, true, 2, (.slice (some ⟨g48, 0, none⟩) ((rngsE (fs.take j)).length + 1) cap48), (xc ++ cellsR [z46a, z46b]), ((rngsE (fs.take j)) ++ [[lo, hi2]])⟩, ⟨36, true, 2, va, xa, (rngsE ps)⟩]) := hg48'
                clear hs48' hg48' hL48 hgr48 hat48 hzd48 hi48 hz48 hs48 hy48
                refine hK.out _ _ ((HS.out).erase 0) (fun hh => ?_)
                clear hK K
                try simp only [nb1, nb2, nb3, Act.put, nb4, nb5, nb6]
                refine rdA (i := 7) rfl (fun K hK => ?_)
                go_simp
                go_wp2_with (go_at_call 16; (with_reducible refine (HRQ.out _).mono ?_); rintro e w49 ⟨v49, rfl, ⟨z49a, z49b, rfl, hv49, hw49⟩, hb49⟩)
                refine hK.out _ _ (Sx.below hh hb49) (fun hh => ?_)
                clear hK K
                try simp only [nb1, nb2, nb3, Act.put, nb4, nb5, nb6]
                replace HS := Lib.hid (HS.out.below hb49)
                replace HG := Lib.hid (HG.out.below hb49)
                clear hb49
                replace HS := Lib.hid (HS.out.addQ hv49)
                clear hv49
                replace HS := Lib.hid (HS.out.addQ hw49)
                clear hw49
                refine rdA (i := 8) rfl (fun K hK => ?_)
                go_simp
                refine hK.out _ _ (Sx.below hh ((Below.refl _ _).alloc (Nat.le_refl _) _)) (fun hh => ?_)
                clear hK K
                try simp only [nb1, nb2, nb3, Act.put, nb4, nb5, nb6]
                generalize hW50 : (w49).alloc (.cells _ _) = W50 at *
                replace HS : Hid (Sx w W50 [(w49.heap.size, arr6 z49a z49b, 42), (w46.heap.size, arr6 z46a z46b, 36), (wr33.heap.size, #[.int .i64 a0, .int .i64 b0, .int .i64 a1, .int .i64 b1], 29), (w.heap.size + 1, #[.int .i64 n, .int .i64 d], 23), (w.heap.size, #[.int .i64 n, .int .i64 d], 23)] [(false, z49b.val, hi2), (false, z49a.val, lo), (true, z46b.val, hi2), (true, z46a.val, lo)]) := by subst hW50; exact HS.out.alloc (B := w49.heap.size) rfl (by rfl)
                replace HG : Hid (GsR w W50 [(w49.heap.size, arr6 z49a z49b, 42), (w46.heap.size, arr6 z46a z46b, 36), (wr33.heap.size, #[.int .i64 a0, .int .i64 b0, .int .i64 a1, .int .i64 b1], 29), (w.heap.size + 1, #[.int .i64 n, .int .i64 d], 23), (w.heap.size, #[.int .i64 n, .int .i64 d], 23)] [⟨42, false, 2, vd, xd, (rngsE (fs.take j))⟩, ⟨42, false, 2, vb, xb, (rngsE ps)⟩, ⟨36, true, 2, (.slice (some ⟨g48, 0, none⟩) ((rngsE (fs.take j)).length + 1) cap48), (xc ++ cellsR [z46a, z46b]), ((rngsE (fs.take j)) ++ [[lo, hi2]])⟩, ⟨36, true, 2, va, xa, (rngsE ps)⟩]) := by subst hW50; exact HG.out.alloc (B := w49.heap.size) rfl
                clear hW50
                refine rdA (i := 9) rfl (fun K hK => ?_)
                obtain ⟨ii51, hi51, hz51, hs51, hy51⟩ := info_parts inf_wingworksref01_S
                have hzd51 : ∀ u ∈ (Value.agg #[.bool false, .slice none 0 0, .slice none 0 0, .bool false, .slice none 0 0, .slice none 0 0]).cells.toList, noDig u := by
                  intro u hu
                  have hu : u ∈ [.bool false, .slice none 0 0, .slice none 0 0, .bool false, .slice none 0 0, .slice none 0 0] := hu
                  simp only [List.mem_cons, List.not_mem_nil, or_false] at hu
                  rcases hu with rfl | rfl | rfl | rfl | rfl | rfl
                  all_goals first | exact noDig_bool _ | exact noDig_slice _ _ _
                refine step_append_lrow _ rfl (.tmp 70) (.tmp 73) 28 rfl w.heap.size 42 ii51 _ 6 112 Tryz.underlying28 hi51 hz51 hs51 hy51 rfl (by decide) hzd51 _ _ _ rfl (HG.out.row 0 _ rfl) ⟨w49.heap.size, 0, none⟩ 1 1 [.bool z49a.b, .slice z49a.a z49a.n z49a.c, .slice z49a.d z49a.m z49a.e, .bool z49b.b, .slice z49b.a z49b.n z49b.c, .slice z49b.d z49b.m z49b.e] rfl rfl (cells_blk (HS.out.at 0 _ _ _ rfl)) (by simp [Value.oneCell']) (by intro u hu; simp only [List.mem_cons, List.not_mem_nil, or_false] at hu; rcases hu with rfl | rfl | rfl | rfl | rfl | rfl; all_goals first | exact noDig_bool _ | exact noDig_slice _ _ _) (by omega) (by dsimp only; unfold maxLen; omega) (by dsimp only; omega) HS.out.bel.size ?_
                intro g51 cap51 w51 hL51 hgr51 hat51
                obtain ⟨hs51', hg51'⟩ := Sx.append HS.out HG.out 0 rfl [z49a, z49b] [lo, hi2] rfl (fun j x hx => by match j, hx with
                    | 0, hx => (simp at hx; subst hx; exact (HS.out.q 1 _ _ rfl))
                    | 1, hx => (simp at hx; subst hx; exact (HS.out.q 0 _ _ rfl))
                    | j + 2, hx => simp at hx) hL51 hgr51 (by intro c hc; simp [Value.ownBlock] at hc; subst hc; first | exact hat51 | simpa using hat51)
                replace HS : Hid (Sx w w51 [(w49.heap.size, arr6 z49a z49b, 42), (w46.heap.size, arr6 z46a z46b, 36), (wr33.heap.size, #[.int .i64 a0, .int .i64 b0, .int .i64 a1, .int .i64 b1], 29), (w.heap.size + 1, #[.int .i64 n, .int .i64 d], 23), (w.heap.size, #[.int .i64 n, .int .i64 d], 23)] [(false, z49b.val, hi2), (false, z49a.val, lo), (true, z46b.val, hi2), (true, z46a.val, lo)]) := hs51'
                replace HG : Hid (GsR w w51 [(w49.heap.size, arr6 z49a z49b, 42), (w46.heap.size, arr6 z46a z46b, 36), (wr33.heap.size, #[.int .i64 a0, .int .i64 b0, .int .i64 a1, .int .i64 b1], 29), (w.heap.size + 1, #[.int .i64 n, .int .i64 d], 23), (w.heap.size, #[.int .i64 n, .int .i64 d], 23)] [⟨42, false, 2, (.slice (some ⟨g51, 0, none⟩) ((rngsE (fs.take j)).length + 1) cap51), (xd ++ cellsR [z49a, z49b]), ((rngsE (fs.take j)) ++ [[lo, hi2]])⟩, ⟨42, false, 2, vb, xb, (rngsE ps)⟩, ⟨36, true, 2, (.slice (some ⟨g48, 0, none⟩) ((rngsE (fs.take j)).length + 1) cap48), (xc ++ cellsR [z46a, z46b]), ((rngsE (fs.take j)) ++ [[lo, hi2]])⟩, ⟨36, true, 2, va, xa, (rngsE ps)⟩]) := hg51'
                clear hs51' hg51' hL51 hgr51 hat51 hzd51 hi51 hz51 hs51 hy51
                refine hK.out _ _ (((HS.out).erase 1).erase 0) (fun hh => ?_)
                clear hK K
                try simp only [nb1, nb2, nb3, Act.put, nb4, nb5, nb6]
                refine tkA (i := 10) (v := ?vpr37_10_k53) rfl (Or.inl ⟨by first | rfl | kernel_rfl, ?hypr37_10_k53⟩) (by assumption) ?repr37_10_k53
                case hypr37_10_k53 => (intro u hSu; (first | (go_simp; done) | (go_simp; with_reducible rfl)))
                try simp only [nb1, nb2, nb3, Act.put, nb4, nb5, nb6]
                refine tkA (i := 11) (v := ?vpr37_11_k55) rfl (Or.inl ⟨by first | rfl | kernel_rfl, ?hypr37_11_k55⟩) (by assumption) ?repr37_11_k55
                case hypr37_11_k55 => (intro u hSu; (first | (go_simp; done) | (go_simp; with_reducible rfl)))
                try simp only [nb1, nb2, nb3, Act.put, nb4, nb5, nb6]
                refine wpAnyH_done (by kernel_rfl) ?_ _
                go_wp2_with fail
                exact ⟨⟨j + 1, (.slice (some ⟨g48, 0, none⟩) ((rngsE (fs.take j)).length + 1) cap48), (xc ++ cellsR [z46a, z46b]), (.slice (some ⟨g51, 0, none⟩) ((rngsE (fs.take j)).length + 1) cap51), (xd ++ cellsR [z49a, z49b]), by have := HLT.out; omega, by go_num, by first | rfl | rw [hln], by first | rfl | rw [hln], Lib.hid ((((HS.out).erase 0).erase 0).erase 0), Lib.hid (by rw [HTK.out]; exact HG.out.mono (fun b hb => ⟨b, by simp only [List.mem_cons] at hb ⊢; first | exact hb | (repeat (first | exact hb | right)), rfl⟩))⟩, meas_up HLT.out⟩
              | false =>
                refine (light2_any a0 b0 a1 b1 _ _ (pairsB (HS.out.at 0 _ _ _ rfl))).mono ?_
                rw [t35]
                rintro e w56 ⟨rfl, hb56⟩
                replace HS := Lib.hid (HS.out.below hb56)
                replace HG := Lib.hid (HG.out.below hb56)
                clear hb56
                go_wp2_with fail
                refine (awake05_any _).mono ?_
                rintro e w57 ⟨rfl, hb57⟩
                replace HS := Lib.hid (HS.out.below hb57)
                replace HG := Lib.hid (HG.out.below hb57)
                clear hb57
                go_wp2_with fail
                go_ret
                exact ⟨by simp, HS.out.bel⟩
            ·
              obtain rfl : j = fs.length := by omega
              rw [List.take_length] at HG
              have b0e := (HS.out.at 1 _ _ _ rfl)
              have b0c0 := blk_cell b0e 0 (.int .i64 n) rfl
              have b0c1 := blk_cell b0e 1 (.int .i64 d) rfl
              have b0f0 := blk_frozen b0e 0
              have b0f1 := blk_frozen b0e 1
              have b0l := blk_lt b0e
              clear b0e
              go_wp2_with fail
              clear b0c0 b0c1 b0f0 b0f1 b0l
              refine (ofP_any n d _ HV.out).mono ?_
              rintro e w58 ⟨v58, rfl, hv58, hb58⟩
              obtain ⟨z58, rfl⟩ := hv58.open3
              replace HS := Lib.hid (HS.out.below hb58)
              replace HG := Lib.hid (HG.out.below hb58)
              clear hb58
              replace HS := Lib.hid (HS.out.addP hv58)
              clear hv58
              go_wp2_with fail
              refine (HLP.out _ _ _ _ (HS.out.p 0 _ _ rfl) (RecsOf.ofRow (HG.out.row 3 _ rfl) (HG.out.mean 3 _ rfl)) (RecsOf.ofRow (HG.out.row 2 _ rfl) (HG.out.mean 2 _ rfl))).mono ?_
              rintro e w59 ⟨v59, rfl, ⟨z59a, z59b, rfl, hv59, hw59⟩, hb59⟩
              replace HS := Lib.hid (HS.out.below hb59)
              replace HG := Lib.hid (HG.out.below hb59)
              clear hb59
              replace HS := Lib.hid (HS.out.addP hv59)
              clear hv59
              replace HS := Lib.hid (HS.out.addP hw59)
              clear hw59
              have b0e := (HS.out.at 1 _ _ _ rfl)
              have b0c0 := blk_cell b0e 0 (.int .i64 n) rfl
              have b0c1 := blk_cell b0e 1 (.int .i64 d) rfl
              have b0f0 := blk_frozen b0e 0
              have b0f1 := blk_frozen b0e 1
              have b0l := blk_lt b0e
              clear b0e
              go_wp2_with fail
              clear b0c0 b0c1 b0f0 b0f1 b0l
              generalize hW60 : (w59).alloc (.cells _ _) = W60 at *
              replace HG : Hid (GsR w W60 [(w59.heap.size, arr6 z59a z59b, 36), (w.heap.size + 1, #[.int .i64 n, .int .i64 d], 23), (w.heap.size, #[.int .i64 n, .int .i64 d], 23)] [⟨42, false, 2, vd, xd, (rngsE fs)⟩, ⟨42, false, 2, vb, xb, (rngsE ps)⟩, ⟨36, true, 2, vc, xc, (rngsE fs)⟩, ⟨36, true, 2, va, xa, (rngsE ps)⟩]) := by subst hW60; exact (HG.out).alloc (B := w59.heap.size) rfl
              replace HS : Hid (Sx w W60 [(w59.heap.size, arr6 z59a z59b, 36), (w.heap.size + 1, #[.int .i64 n, .int .i64 d], 23), (w.heap.size, #[.int .i64 n, .int .i64 d], 23)] [(true, z59b.val, lk2), (true, z59a.val, lk1), (true, z58.val, (fracQ n d))]) := by subst hW60; exact (HS.out).alloc (B := w59.heap.size) rfl (by rfl)
              clear hW60
              refine (qofP_any n d _ HV.out).mono ?_
              rintro e w61 ⟨v61, rfl, hv61, hb61⟩
              obtain ⟨z61, rfl⟩ := hv61.open3
              replace HS := Lib.hid (HS.out.below hb61)
              replace HG := Lib.hid (HG.out.below hb61)
              clear hb61
              replace HS := Lib.hid (HS.out.addQ hv61)
              clear hv61
              go_wp2_with fail
              refine (HLQ.out _ _ _ _ (HS.out.q 0 _ _ rfl) (RecsOf.ofRow (HG.out.row 1 _ rfl) (HG.out.mean 1 _ rfl)) (RecsOf.ofRow (HG.out.row 0 _ rfl) (HG.out.mean 0 _ rfl))).mono ?_
              rintro e w62 ⟨v62, rfl, ⟨z62a, z62b, rfl, hv62, hw62⟩, hb62⟩
              replace HS := Lib.hid (HS.out.below hb62)
              replace HG := Lib.hid (HG.out.below hb62)
              clear hb62
              replace HS := Lib.hid (HS.out.addQ hv62)
              clear hv62
              replace HS := Lib.hid (HS.out.addQ hw62)
              clear hw62
              obtain ⟨b2c0, b2c1, b2c2, b2c3, b2c4, b2c5, b2f0, b2f1, b2f2, b2f3, b2f4, b2f5⟩ := fac6 (x := z59a) (y := z59b) (HS.out.at 0 _ _ _ rfl)
              have b2l := blk_lt (HS.out.at 0 _ _ _ rfl)
              go_wp2_with fail
              clear b2c0 b2c1 b2c2 b2c3 b2c4 b2c5 b2f0 b2f1 b2f2 b2f3 b2f4 b2f5 b2l
              generalize hW63 : (w62).alloc (.cells _ _) = W63 at *
              replace HG : Hid (GsR w W63 [(w62.heap.size, arr6 z62a z62b, 42), (w59.heap.size, arr6 z59a z59b, 36), (w.heap.size + 1, #[.int .i64 n, .int .i64 d], 23), (w.heap.size, #[.int .i64 n, .int .i64 d], 23)] [⟨42, false, 2, vd, xd, (rngsE fs)⟩, ⟨42, false, 2, vb, xb, (rngsE ps)⟩, ⟨36, true, 2, vc, xc, (rngsE fs)⟩, ⟨36, true, 2, va, xa, (rngsE ps)⟩]) := by subst hW63; exact (HG.out).alloc (B := w62.heap.size) rfl
              replace HS : Hid (Sx w W63 [(w62.heap.size, arr6 z62a z62b, 42), (w59.heap.size, arr6 z59a z59b, 36), (w.heap.size + 1, #[.int .i64 n, .int .i64 d], 23), (w.heap.size, #[.int .i64 n, .int .i64 d], 23)] [(false, z62b.val, lk2), (false, z62a.val, lk1), (false, z61.val, (fracQ n d)), (true, z59b.val, lk2), (true, z59a.val, lk1), (true, z58.val, (fracQ n d))]) := by subst hW63; exact (HS.out).alloc (B := w62.heap.size) rfl (by rfl)
              clear hW63
              refine (isRange_any lk1 lk2 _ _ _ (rngP (HS.out.p 4 _ _ rfl) (HS.out.p 3 _ _ rfl)) (rngQ (HS.out.q 1 _ _ rfl) (HS.out.q 0 _ _ rfl)) (szR_mono ZL1.out (by omega)) (szR_mono ZL2.out (by omega))).mono ?_
              rintro e w64 ⟨rfl, hb64⟩
              replace HS := Lib.hid (HS.out.below hb64)
              replace HG := Lib.hid (HG.out.below hb64)
              clear hb64
              go_wp2_with fail
              refine (awake05_any _).mono ?_
              rintro e w65 ⟨rfl, hb65⟩
              replace HS := Lib.hid (HS.out.below hb65)
              replace HG := Lib.hid (HG.out.below hb65)
              clear hb65
              go_wp2_with fail
              go_ret
              exact ⟨by simp, HS.out.bel⟩
    | false =>
      refine (light1_any n d _ _ (pairs1 (HS.out.at 0 _ _ _ rfl))).mono ?_
      rw [t6]
      rintro e w66 ⟨rfl, hb66⟩
      replace HS := Lib.hid (HS.out.below hb66)
      clear hb66
      go_wp2_with fail
      refine (awake05_any _).mono ?_
      rintro e w67 ⟨rfl, hb67⟩
      replace HS := Lib.hid (HS.out.below hb67)
      clear hb67
      go_wp2_with fail
      go_ret
      exact ⟨by simp, HS.out.bel⟩
end Go.Proofs.YthdgeindjphklaaGreat
