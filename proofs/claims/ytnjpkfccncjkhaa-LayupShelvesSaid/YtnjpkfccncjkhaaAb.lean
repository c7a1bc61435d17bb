/- Part b of the lemmas and walks. -/
import Derived.Test.YtnjpkfccncjkhaaAa

namespace Go.Proofs.Ytnjpkfccncjkhaa
open Go.RowKit

theorem row_short {k : IntKind} {w : World} {m : Nat} {v : Value} (h : IsNat k b64 w v m) (hl : (dig b64 m).length ≤ 1) : (m = 0 ∧ ∃ ao cap, v = .slice ao 0 cap) ∨ (m ≠ 0 ∧ m < b64 ∧ ∃ b off cap, v = .slice (some ⟨b, off, none⟩) 1 cap ∧ w.cell? ⟨b, off, none⟩ = some (.int k m)) := by
 rcases h with ⟨h0, ao, cap, rfl, _⟩ | ⟨h0, b, off, cap, rfl, _, _, _, hc⟩
 ·
  exact .inl ⟨(dig_nil_iff b64_two m).1 h0, _, _, rfl⟩
 ·
  obtain ⟨hd, hm0, hmb⟩ := dig_length_one b64_two m (by omega)
  have := hc 0 (by omega)
  rw [hd] at this
  rw [hd]
  exact .inr ⟨by omega, hmb, b, off, cap, rfl, by simpa using this⟩

set_option maxHeartbeats 1000000 in
theorem small_any (m n : Nat) (va vb : Value) (w : World) (ha : IsNat .u64 b64 w va m) (hb : IsNat .u64 b64 w vb n) (hla : (dig b64 m).length ≤ 1) (hlb : (dig b64 n).length ≤ 1) (hn : 0 < n) :
  Calls Try.prog 72 #[va, vb] w (fun e w' => e = .returned (.int .u64 (Nat.gcd m n : Nat)) ∧ Quiet w w') := by
 rcases row_short hb hlb with ⟨h0, _⟩ | ⟨_, hnb, b, off, cap, rfl, hc⟩
 ·
  omega
 have hmb : m < b64 := by
  rcases row_short ha hla with ⟨h0, _⟩ | ⟨_, hmb, _⟩
  ·
   rw [h0]; exact b64_pos
  ·
   exact hmb
 clear hlb hla
 rcases row_short ha (by exact (show (dig b64 m).length ≤ 1 from dig_length_le b64_two 1 m (by simpa using hmb))) with ⟨h0, ao, cap', rfl⟩ | ⟨_, _, b', off', cap', rfl, hc'⟩
 all_goals
  clear ha hb
  go_enter Try.func72, Try.ntmps72
  go_wp2_with fail
  go_loopw [5, 6] (fun xv yv wr => ∃ x y : Nat, xv = .int .u64 x ∧ yv = .int .u64 y ∧ Hid (x < b64) ∧ Hid (y < b64) ∧ Hid (Nat.gcd x y = Nat.gcd m n) ∧ Quiet w wr) (fun _ yv _ => (intOf yv).toNat)
  case atStart => first | exact ⟨m, n, rfl, rfl, hmb, hnb, rfl, .refl _⟩ | exact ⟨0, n, rfl, rfl, b64_pos, hnb, by rw [h0]; rfl, .refl _⟩
  case round =>
   obtain ⟨x, y, rfl, rfl, hx, hy, hg, nq, rfl⟩ := hrel
   rcases Nat.eq_zero_or_pos y with rfl | hp
   ·
    go_wp2_with fail
    go_ret
    have := hg.out
    rw [Nat.gcd_zero_right] at this
    exact ⟨by rw [← this]; rfl, _, rfl⟩
   ·
    have c1 : (0 : Int) < y := by omega
    have c2 : ¬ y = 0 := by omega
    obtain ⟨z, hz⟩ : ∃ z, z = x % y := ⟨_, rfl⟩
    have HZ := Lib.hid hz
    have e1 : (x : Int).tmod y = (z : Int) := by rw [hz]; rfl
    have e2 : (x : Int) % y = (z : Int) := by rw [hz]; rfl
    clear hz
    go_wp2_with fail
    go_quiet (fail)
    go_wp2_with fail
    refine ⟨⟨y, z, rfl, by first | rfl | rw [e2] | rw [e1], hy, by show z < b64; rw [HZ.out]; exact Nat.lt_trans (Nat.mod_lt _ hp) hy.out, by show Nat.gcd y z = Nat.gcd m n; rw [HZ.out, ← hg.out, Nat.gcd_comm y, ← Nat.gcd_rec, Nat.gcd_comm], Quiet.step ⟨_, rfl⟩ _⟩, ?_⟩
    have := Nat.mod_lt x hp
    rw [← HZ.out] at this
    simp only [intOf, Int.toNat_natCast]
    first | omega | (rw [e2]; omega)


set_option maxHeartbeats 1000000 in
theorem gcd_any (m n : Nat) (va vb : Value) (w : World) (ha : IsNat .u64 b64 w va m) (hb : IsNat .u64 b64 w vb n) (hla : (dig b64 m).length ≤ 274877906944) (hlb : (dig b64 n).length ≤ 274877906944) :
  Calls Try.prog 61 #[va, vb] w (RetNat .u64 b64 (Nat.gcd m n) w) := by
 go_enter Try.func61, Try.ntmps61
 go_wp2_with fail
 go_loopg [0, 1] n (fun k av bv wr => ∃ x : Nat, IsNat .u64 b64 wr av x ∧ IsNat .u64 b64 wr bv k ∧ Hid (Nat.gcd x k = Nat.gcd m n) ∧ (dig b64 x).length ≤ 274877906944 ∧ (dig b64 k).length ≤ 274877906944 ∧ Below w.heap.size w wr)
 case atStart => exact ⟨m, ha, hb, rfl, hla, hlb, Below.refl _ _⟩
 case round =>
  clear ha hb hla hlb
  obtain ⟨x, ha, hb, hg, hla, hlb, hbel⟩ := hrel
  rcases Nat.eq_zero_or_pos gk with h0 | hp
  ·
   subst h0
   have hg' := hg.out
   rw [Nat.gcd_zero_right] at hg'
   rw [hg'] at ha
   have Ha := Lib.hid ha
   obtain ⟨ab, cb, rfl, _⟩ := IsRow.opened hb
   rw [dig_zero, List.length_nil]
   clear ha hb hg' 
   go_wp2_with fail
   go_ret
   exact ⟨_, rfl, Ha.out, hbel⟩
  ·
   have hk0 : 0 < (dig b64 gk).length := by
    rcases Nat.eq_zero_or_pos (dig b64 gk).length with h0 | h0
    ·
     have := (dig_nil_iff b64_two gk).1 (List.eq_nil_of_length_eq_zero h0); omega
    ·
     exact h0
   have Ha := Lib.hid ha
   have Hb := Lib.hid hb
   obtain ⟨aa, ca, rfl, _⟩ := IsRow.opened ha
   obtain ⟨ab, cb, rfl, _⟩ := IsRow.opened hb
   clear ha hb
   by_cases hs : (dig b64 x).length ≤ 1 ∧ (dig b64 gk).length ≤ 1
   ·
    obtain ⟨s1, s2⟩ := hs
    have t1 : decide (((dig b64 x).length : Int) ≤ 1) = true := by simp; omega
    have t2 : decide (((dig b64 gk).length : Int) ≤ 1) = true := by simp; omega
    have hgb : Nat.gcd x gk < b64 := by
     refine Nat.lt_of_le_of_lt (Nat.le_of_dvd hp (Nat.gcd_dvd_right x gk)) ?_
     have h1 := lt_pow_dig_length b64_two gk
     exact Nat.lt_of_lt_of_le h1 (by have := Nat.pow_le_pow_right b64_pos s2; simpa using this)
    go_wp2_with fail
    refine (small_any x gk _ _ _ Ha.out Hb.out s1 s2 hp).mono ?_
    rintro e w' ⟨rfl, nq, rfl⟩
    go_wp2_with fail
    refine (word_any (Nat.gcd x gk) _ hgb).mono ?_
    rintro e w2 ⟨v2, rfl, hv2, hb2⟩
    go_wp2_with fail
    go_ret
    rw [hg.out] at hv2
    exact ⟨_, rfl, hv2, ext_trans (below_dn hbel nq) hb2⟩
   ·
    by_cases s1 : (dig b64 x).length ≤ 1
    ·
     have t1 : decide (((dig b64 x).length : Int) ≤ 1) = true := by simp; omega
     have t2 : decide (((dig b64 gk).length : Int) ≤ 1) = false := by simp; omega
     clear hs
     go_wp2_with fail
     refine (divide_any x gk _ _ _ Ha.out Hb.out hp hla).mono ?_
     rintro e w2 ⟨v1, v2, rfl, _, hv2, hb2⟩
     have hb0 := Hb.out.below hb2
     go_wp2_with fail
     go_roundg (x % gk)
     case measure => exact Nat.mod_lt _ hp
     case rel => exact ⟨gk, hb0, hv2, by show Nat.gcd gk (x % gk) = Nat.gcd m n; rw [← hg.out, Nat.gcd_comm gk, ← Nat.gcd_rec, Nat.gcd_comm], hlb, Nat.le_trans (dig_length_mono b64_two (Nat.mod_le _ _)) hla, ext_trans hbel hb2⟩
    ·
     have t1 : decide (((dig b64 x).length : Int) ≤ 1) = false := by simp; omega
     clear hs
     go_wp2_with fail
     refine (divide_any x gk _ _ _ Ha.out Hb.out hp hla).mono ?_
     rintro e w2 ⟨v1, v2, rfl, _, hv2, hb2⟩
     have hb0 := Hb.out.below hb2
     go_wp2_with fail
     go_roundg (x % gk)
     case measure => exact Nat.mod_lt _ hp
     case rel => exact ⟨gk, hb0, hv2, by show Nat.gcd gk (x % gk) = Nat.gcd m n; rw [← hg.out, Nat.gcd_comm gk, ← Nat.gcd_rec, Nat.gcd_comm], hlb, Nat.le_trans (dig_length_mono b64_two (Nat.mod_le _ _)) hla, ext_trans hbel hb2⟩

end Go.Proofs.Ytnjpkfccncjkhaa

namespace Go.Proofs.Ytnjpkfccncjkhaa
open Go.RowKit

set_option maxHeartbeats 1000000 in
theorem under_any (d : Nat) (v : Value) (w : World) (h : IsNat .u64 b64 w v (dn d)) (hd : 0 < d) : Calls Try.prog 40 #[v] w (RetNat .u64 b64 d w) := by
 by_cases h1 : d = 1
 ·
  have hz : dn d = 0 := by simp [dn, h1]
  rw [hz] at h
  obtain ⟨ao, cap, rfl, _⟩ := IsRow.opened h
  rw [dig_zero, List.length_nil]
  have H1 := Lib.hid h1
  clear h hz h1
  go_enter Try.func40, Try.ntmps40
  go_wp2_with fail
  have hw := word_any 1 w (by unfold b64; omega)
  refine hw.mono ?_
  rintro e w' ⟨v, rfl, hv, hb⟩
  go_wp2_with fail
  go_ret
  rw [H1.out]
  exact ⟨_, rfl, hv, hb⟩
 ·
  have hz : dn d = d := by simp [dn, h1]
  rw [hz] at h
  have H := Lib.hid h
  obtain ⟨ao, cap, rfl, _⟩ := IsRow.opened h
  have hl : ((dig b64 d).length : Int) ≠ 0 := fun h0 => by
   have := (dig_nil_iff b64_two d).1 (List.eq_nil_of_length_eq_zero (by omega)); omega
  have hb : (((dig b64 d).length : Int) == 0) = false := beq_eq_false_iff_ne.2 hl
  clear h hl
  go_enter Try.func40, Try.ntmps40
  go_wp2_with fail
  go_ret
  exact ⟨_, rfl, H.out, Below.refl _ _⟩

set_option maxHeartbeats 2000000 in
theorem reduced_any (neg : Bool) (n d : Nat) (vn vd : Value) (w : World) (hn : IsNat .u64 b64 w vn n) (hd : IsNat .u64 b64 w vd d) (hd0 : 0 < d) (hla : (dig b64 n).length ≤ 274877906944) (hlb : (dig b64 d).length ≤ 274877906944) :
  Calls Try.prog 42 #[.bool neg, vn, vd] w (RetRat (mkQ neg n d) w) := by
 by_cases hn0 : n = 0
 ·
  have Hn := Lib.hid hn0
  rw [hn0] at hn
  obtain ⟨ao, cap, rfl, _⟩ := IsRow.opened hn
  rw [dig_zero, List.length_nil]
  clear hn hn0 hla
  go_enter Try.func42, Try.ntmps42
  go_wp2_with fail
  refine bodyPost_ret (v := .agg #[.bool false, .slice none 0 0, .slice none 0 0]) (by simp [results, Try.results42, go_sem]) rfl ⟨_, rfl, ?_, (Below.refl _ _).alloc (Nat.le_refl _) _⟩
  rw [Hn.out, mkQ_zero]
  exact IsRat.zero _
 ·
  have hg0 : 0 < Nat.gcd n d := Nat.gcd_pos_of_pos_right n hd0
  have Hneg := Lib.hid (mkQ_neg neg n d hd0 hn0)
  have Hnum := Lib.hid (mkQ_num neg n d hd0)
  have Hden := Lib.hid (mkQ_den neg n d hd0)
  have hl : ((dig b64 n).length : Int) ≠ 0 := fun h0 => by
   have := (dig_nil_iff b64_two n).1 (List.eq_nil_of_length_eq_zero (by omega)); omega
  have hlb0 : (((dig b64 n).length : Int) == 0) = false := beq_eq_false_iff_ne.2 hl
  have Hn := Lib.hid hn
  have Hd := Lib.hid hd
  obtain ⟨ao, cap, rfl, _⟩ := IsRow.opened hn
  obtain ⟨dd, hdd⟩ : ∃ dd, dd = d / Nat.gcd n d := ⟨_, rfl⟩
  obtain ⟨nn, hnn⟩ : ∃ nn, nn = n / Nat.gcd n d := ⟨_, rfl⟩
  have hdd0 : 0 < dd := by rw [hdd]; exact Nat.div_pos (Nat.le_of_dvd hd0 (Nat.gcd_dvd_right n d)) hg0
  rw [← hnn] at Hnum
  rw [← hdd] at Hden
  have Hdd := Lib.hid hdd
  have Hnn := Lib.hid hnn
  generalize hq : mkQ neg n d = q at *
  clear hn hd hl hdd hnn hq hn0
  by_cases hg1 : Nat.gcd n d = 1
  ·
   have t1 : decide (Nat.gcd n d = 1) = true := by simp [hg1]
   have hnn' : nn = n := by rw [Hnn.out, hg1, Nat.div_one]
   have hdd' : dd = d := by rw [Hdd.out, hg1, Nat.div_one]
   subst hnn' hdd'
   clear hg1
   have hal : Below w.heap.size w (w.alloc (.cells #[.bool false, .slice none 0 0, .slice none 0 0] 45)) := (Below.refl _ _).alloc (Nat.le_refl _) _
   have hB0 := blk_new w #[.bool false, .slice none 0 0, .slice none 0 0] 45
   obtain ⟨ad, cd, rfl, _⟩ := IsRow.opened Hd.out
   go_enter Try.func42, Try.ntmps42
   go_wp2_with fail
   refine (gcd_any nn dd _ _ _ (Hn.out.below hal) (Hd.out.below hal) hla hlb).mono ?_
   rintro e w3 ⟨vg, rfl, hvg, hb1⟩
   have hx3 := ext_trans hal hb1
   have hB3 := blk_keep hB0 hb1 (by simp)
   have hv13 := Hn.out.below hx3
   have hv3 := Hd.out.below hx3
   clear hal hB0 hb1
   have hBl := blk_lt hB3
   have c0 := blk_cell hB3 0 (.bool false) rfl
   have c1 := blk_cell hB3 1 (.slice none 0 0) rfl
   have c2 := blk_cell hB3 2 (.slice none 0 0) rfl
   have f0 := blk_frozen hB3 0
   have f1 := blk_frozen hB3 1
   have f2 := blk_frozen hB3 2
   go_wp2_with fail
   refine (isOne_any _ _ _ hvg).mono ?_
   rw [t1]
   rintro e w' ⟨rfl, rfl⟩
   go_wp2_with fail
   refine (isOne_any _ _ _ hv3).mono ?_
   have Hv13 := Lib.hid hv13
   have Hv3 := Lib.hid hv3
   have HB3 := Lib.hid hB3
   clear hv13 hv3 hB3
   by_cases hd1 : dd = 1
   ·
    have t2 : decide (dd = 1) = true := by simp [hd1]
    have Hd1 := Lib.hid hd1
    clear hd1
    rw [t2]
    rintro e w' ⟨rfl, rfl⟩
    clear t1 t2
    go_wp2_with fail
    refine bodyPost_ret (v := .agg #[.bool neg, .slice ao (dig b64 nn).length cap, .slice none 0 0]) (by simp [results, Try.results42, go_sem, c0, c1, c2]) rfl ⟨_, rfl, ?_, below_store3 hx3 (Nat.le_refl _)⟩
    refine ⟨_, _, by rw [Hneg.out], ?_, ?_⟩
    ·
     rw [Hnum.out]; exact store3 HB3.out Hv13.out
    ·
     rw [Hden.out, Hd1.out]; exact IsNat.zero _ _ _
   ·
    have t2 : decide (dd = 1) = false := by simp [hd1]
    have Hd1 : Hid (dn dd = dd) := by show dn dd = dd; simp [dn, hd1]
    clear hd1
    rw [t2]
    rintro e w' ⟨rfl, rfl⟩
    clear t1 t2
    go_wp2_with fail
    refine bodyPost_ret (v := .agg #[.bool neg, .slice ao (dig b64 nn).length cap, .slice ad (dig b64 dd).length cd]) (by simp [results, Try.results42, go_sem, c0, c1, c2]) rfl ⟨_, rfl, ?_, below_store3 hx3 (Nat.le_refl _)⟩
    refine ⟨_, _, by rw [Hneg.out], ?_, ?_⟩
    ·
     rw [Hnum.out]; exact store3 HB3.out Hv13.out
    ·
     rw [Hden.out, Hd1.out]; exact store3 HB3.out Hv3.out
  ·
   have t1 : decide (Nat.gcd n d = 1) = false := by simp [hg1]
   clear hg1
   have hal : Below w.heap.size w (w.alloc (.cells #[.bool false, .slice none 0 0, .slice none 0 0] 45)) := (Below.refl _ _).alloc (Nat.le_refl _) _
   have hB0 := blk_new w #[.bool false, .slice none 0 0, .slice none 0 0] 45
   go_enter Try.func42, Try.ntmps42
   go_wp2_with fail
   refine (gcd_any n d _ _ _ (Hn.out.below hal) (Hd.out.below hal) hla hlb).mono ?_
   rintro e w1 ⟨vg, rfl, hvg, hb1⟩
   have hx1 := ext_trans hal hb1
   have hB1 := blk_keep hB0 hb1 (by simp)
   clear hal hB0
   go_wp2_with fail
   refine (isOne_any _ _ _ hvg).mono ?_
   rw [t1]
   rintro e w' ⟨rfl, rfl⟩
   go_wp2_with fail
   refine (divide_any n _ _ _ _ (Hn.out.below hx1) hvg hg0 hla).mono ?_
   rintro e w2 ⟨v1, v2, rfl, hv1, _, hb2⟩
   have hx2 := ext_trans hx1 hb2
   have hB2 := blk_keep hB1 hb2 (blk_lt hB1)
   have hvg2 := hvg.below hb2
   clear hB1 hvg
   go_wp2_with fail
   refine (divide_any d _ _ _ _ (Hd.out.below hx2) hvg2 hg0 hlb).mono ?_
   rintro e w3 ⟨v3, v4, rfl, hv3, _, hb3⟩
   have hx3 := ext_trans hx2 hb3
   have hB3 := blk_keep hB2 hb3 (blk_lt hB2)
   have hv13 := hv1.below hb3
   rw [← Hnn.out] at hv13
   rw [← Hdd.out] at hv3
   clear hB2 hvg2 hx1 hx2 hb1 hb2 hb3 hv1
   have Hv13' := Lib.hid hv13
   have Hv3' := Lib.hid hv3
   obtain ⟨a1, c1', rfl, _⟩ := IsRow.opened hv13
   obtain ⟨a3, c3', rfl, _⟩ := IsRow.opened hv3
   clear hv13 hv3
   have hv13 := Hv13'.out
   have hv3 := Hv3'.out
   clear Hv13' Hv3'
   have hBl := blk_lt hB3
   have c0 := blk_cell hB3 0 (.bool false) rfl
   have c1 := blk_cell hB3 1 (.slice none 0 0) rfl
   have c2 := blk_cell hB3 2 (.slice none 0 0) rfl
   have f0 := blk_frozen hB3 0
   have f1 := blk_frozen hB3 1
   have f2 := blk_frozen hB3 2
   go_wp2_with fail
   refine (isOne_any _ _ _ hv3).mono ?_
   have Hv13 := Lib.hid hv13
   have Hv3 := Lib.hid hv3
   have HB3 := Lib.hid hB3
   clear hv13 hv3 hB3
   by_cases hd1 : dd = 1
   ·
    have t2 : decide (dd = 1) = true := by simp [hd1]
    have Hd1 := Lib.hid hd1
    clear hd1
    rw [t2]
    rintro e w' ⟨rfl, rfl⟩
    clear t1 t2
    go_wp2_with fail
    refine bodyPost_ret (v := .agg #[.bool neg, .slice a1 (dig b64 nn).length c1', .slice none 0 0]) (by simp [results, Try.results42, go_sem, c0, c1, c2]) rfl ⟨_, rfl, ?_, below_store3 hx3 (Nat.le_refl _)⟩
    refine ⟨_, _, by rw [Hneg.out], ?_, ?_⟩
    ·
     rw [Hnum.out]; exact store3 HB3.out Hv13.out
    ·
     rw [Hden.out, Hd1.out]; exact IsNat.zero _ _ _
   ·
    have t2 : decide (dd = 1) = false := by simp [hd1]
    have Hd1 : Hid (dn dd = dd) := by show dn dd = dd; simp [dn, hd1]
    clear hd1
    rw [t2]
    rintro e w' ⟨rfl, rfl⟩
    clear t1 t2
    go_wp2_with fail
    refine bodyPost_ret (v := .agg #[.bool neg, .slice a1 (dig b64 nn).length c1', .slice a3 (dig b64 dd).length c3']) (by simp [results, Try.results42, go_sem, c0, c1, c2]) rfl ⟨_, rfl, ?_, below_store3 hx3 (Nat.le_refl _)⟩
    refine ⟨_, _, by rw [Hneg.out], ?_, ?_⟩
    ·
     rw [Hnum.out]; exact store3 HB3.out Hv13.out
    ·
     rw [Hden.out, Hd1.out]; exact store3 HB3.out Hv3.out

end Go.Proofs.Ytnjpkfccncjkhaa

namespace Go.Proofs.Ytnjpkfccncjkhaa
open Go.RowKit

set_option maxHeartbeats 1000000 in
theorem size_any (n : Int) (w : World) (h1 : -9223372036854775808 ≤ n) (h2 : n ≤ 9223372036854775807) : Calls Try.prog 65 #[.int .i64 n] w (RetNat .u64 b64 n.natAbs w) := by
 have hb : n.natAbs < b64 := by unfold b64; omega
 by_cases hn : n < 0
 ·
  have e1 : IntKind.u64.wrap (-(IntKind.u64.wrap n)) = ((n.natAbs : Nat) : Int) := by
   rw [IntKind.wrap_u64, IntKind.wrap_u64]; omega
  go_enter Try.func65, Try.ntmps65
  go_wp2_with fail
  refine (word_any n.natAbs _ hb).mono ?_
  rintro e w' ⟨v, rfl, hv, hb'⟩
  go_wp2_with fail
  go_ret
  exact ⟨_, rfl, hv, hb'⟩
 ·
  have e1 : IntKind.u64.wrap n = ((n.natAbs : Nat) : Int) := by
   rw [IntKind.wrap_u64]; omega
  go_enter Try.func65, Try.ntmps65
  go_wp2_with fail
  refine (word_any n.natAbs _ hb).mono ?_
  rintro e w' ⟨v, rfl, hv, hb'⟩
  go_wp2_with fail
  go_ret
  exact ⟨_, rfl, hv, hb'⟩

set_option maxHeartbeats 1000000 in
theorem zero_any (b : Bool) (a1 : Option Addr) (n c1 : Nat) (a2 : Option Addr) (l2 c2 : Nat) (w : World) :
  Calls Try.prog 39 #[.agg #[.bool b, .slice a1 (dig b64 n).length c1, .slice a2 l2 c2]] w (RetBool (decide (n = 0)) w) := by
 have e : ((((dig b64 n).length : Nat) : Int) == 0) = decide (n = 0) := by
  rw [Bool.eq_iff_iff]
  simp only [beq_iff_eq, decide_eq_true_eq]
  rw [← dig_nil_iff b64_two n]
  constructor
  ·
   intro h; exact List.eq_nil_of_length_eq_zero (by omega)
  ·
   intro h; rw [h]; rfl
 rw [← e]
 clear e
 go_enter Try.func39, Try.ntmps39
 go_wp2_with fail
 go_ret
 exact ⟨rfl, (Below.refl _ _).alloc (Nat.le_refl _) _⟩

def sgnI (b : Bool) (n : Nat) : Int := if b then -1 else if n = 0 then 0 else 1

set_option maxHeartbeats 1000000 in
theorem sign_any (b : Bool) (a1 : Option Addr) (n c1 : Nat) (a2 : Option Addr) (l2 c2 : Nat) (w : World) :
  Calls Try.prog 25 #[.agg #[.bool b, .slice a1 (dig b64 n).length c1, .slice a2 l2 c2]] w (RetInt (sgnI b n) w) := by
 have hal : Below w.heap.size w (w.alloc (.cells #[.bool b, .slice a1 (dig b64 n).length c1, .slice a2 l2 c2] 45)) := (Below.refl _ _).alloc (Nat.le_refl _) _
 cases b with
 | true =>
  have Hs : Hid (sgnI true n = -1) := rfl
  go_enter Try.func25, Try.ntmps25
  go_wp2_with fail
  go_ret
  exact ⟨by rw [Hs.out]; rfl, hal⟩
 | false =>
  by_cases hn : n = 0
  ·
   have t : decide (n = 0) = true := by simp [hn]
   have Hs : Hid (sgnI false n = 0) := by show sgnI false n = 0; simp [sgnI, hn]
   clear hn
   go_enter Try.func25, Try.ntmps25
   go_wp2_with fail
   refine (zero_any _ _ n _ _ _ _ _).mono ?_
   rw [t]
   rintro e w' ⟨rfl, hb⟩
   go_wp2_with fail
   go_ret
   exact ⟨by rw [Hs.out]; rfl, ext_trans hal hb⟩
  ·
   have t : decide (n = 0) = false := by simp [hn]
   have Hs : Hid (sgnI false n = 1) := by show sgnI false n = 1; simp [sgnI, hn]
   clear hn
   go_enter Try.func25, Try.ntmps25
   go_wp2_with fail
   refine (zero_any _ _ n _ _ _ _ _).mono ?_
   rw [t]
   rintro e w' ⟨rfl, hb⟩
   go_wp2_with fail
   go_ret
   exact ⟨by rw [Hs.out]; rfl, ext_trans hal hb⟩


set_option maxHeartbeats 1000000 in
theorem int_any (n : Int) (w : World) (h1 : -9223372036854775808 ≤ n) (h2 : n ≤ 9223372036854775807) : Calls Try.prog 48 #[.int .i64 n] w (RetRat (n : Rat) w) := by
 have hal : Below w.heap.size w (w.alloc (.cells #[.bool false, .slice none 0 0, .slice none 0 0] 45)) := (Below.refl _ _).alloc (Nat.le_refl _) _
 have hB0 := blk_new w #[.bool false, .slice none 0 0, .slice none 0 0] 45
 go_enter Try.func48, Try.ntmps48
 go_wp2_with fail
 refine (size_any n _ h1 h2).mono ?_
 rintro e w3 ⟨v, rfl, hv, hb⟩
 have hx3 := ext_trans hal hb
 have hB3 := blk_keep hB0 hb (by simp)
 have Hv := Lib.hid hv
 obtain ⟨a1, c1, rfl, _⟩ := IsRow.opened hv
 clear hv hal hB0 hb
 have hBl := blk_lt hB3
 have c0 := blk_cell hB3 0 (.bool false) rfl
 have c1 := blk_cell hB3 1 (.slice none 0 0) rfl
 have c2 := blk_cell hB3 2 (.slice none 0 0) rfl
 have f0 := blk_frozen hB3 0
 have f1 := blk_frozen hB3 1
 have f2 := blk_frozen hB3 2
 have HB3 := Lib.hid hB3
 clear hB3
 go_wp2_with fail
 refine bodyPost_ret (v := .agg #[.bool (decide (n < 0)), .slice a1 (dig b64 n.natAbs).length _, .slice none 0 0]) (by simp [results, Try.results48, go_sem, c0, c1, c2]; first | done | exact ⟨rfl, rfl⟩ | rfl) rfl ⟨_, rfl, ?_, below_store3 hx3 (Nat.le_refl _)⟩
 refine ⟨_, _, rfl, ?_, ?_⟩
 ·
  exact store3 HB3.out Hv.out
 ·
  exact IsNat.zero _ _ _

end Go.Proofs.Ytnjpkfccncjkhaa

namespace Go.Proofs.Ytnjpkfccncjkhaa
open Go.RowKit

def RetRatE (q : Rat) (err : Int) (w : World) (e : Ending) (w' : World) : Prop :=
 ∃ v, e = .returned (.tuple #[v, .int .i64 err]) ∧ IsRat w' v q ∧ Below w.heap.size w w'

theorem new_plain (n d : Int) (hd : d ≠ 0) : mkQ (decide (n < 0) != decide (d < 0)) n.natAbs d.natAbs = (n : Rat) / (d : Rat) := by
 have hd' : (d : Rat) ≠ 0 := by simpa using hd
 have h1 : mkQ (decide (n < 0) != decide (d < 0)) n.natAbs d.natAbs = (sg (decide (n < 0) != decide (d < 0)) n.natAbs : Rat) / ((d.natAbs : Nat) : Rat) := by
  unfold mkQ; exact Rat.mkRat_eq_div _ _
 rw [h1]
 rcases Int.lt_or_le d 0 with hdn | hdn
 ·
  have e1 : ((d.natAbs : Nat) : Rat) = -(d : Rat) := by
   have : ((d.natAbs : Nat) : Int) = -d := by omega
   rw [← Rat.intCast_natCast, this, Rat.intCast_neg]
  rcases Int.lt_or_le n 0 with hnn | hnn
  ·
   have e2 : sg (decide (n < 0) != decide (d < 0)) n.natAbs = -n := by
    unfold sg; simp [hdn, hnn]; omega
   rw [e1, e2, Rat.intCast_neg]
   grind
  ·
   have e2 : sg (decide (n < 0) != decide (d < 0)) n.natAbs = -n := by
    have : ¬ n < 0 := by omega
    unfold sg; simp [hdn, this]; omega
   rw [e1, e2, Rat.intCast_neg]
   grind
 ·
  have e1 : ((d.natAbs : Nat) : Rat) = (d : Rat) := by
   have : ((d.natAbs : Nat) : Int) = d := by omega
   rw [← Rat.intCast_natCast, this]
  have hd2 : ¬ d < 0 := by omega
  rcases Int.lt_or_le n 0 with hnn | hnn
  ·
   have e2 : sg (decide (n < 0) != decide (d < 0)) n.natAbs = n := by
    unfold sg; simp [hd2, hnn]; omega
   rw [e1, e2]
  ·
   have e2 : sg (decide (n < 0) != decide (d < 0)) n.natAbs = n := by
    have : ¬ n < 0 := by omega
    unfold sg; simp [hd2, this]; omega
   rw [e1, e2]

end Go.Proofs.Ytnjpkfccncjkhaa

namespace Go.Proofs.Ytnjpkfccncjkhaa
open Go.RowKit

def IsDen (d' d : Nat) : Prop := d' = d ∨ (d' = 0 ∧ d = 1)

def IsR (w : World) (v : Value) (q : Rat) : Prop :=
 ∃ vn vd d', v = .agg #[.bool (decide (q.num < 0)), vn, vd] ∧ IsNat .u32 b32 w vn q.num.natAbs ∧ IsNat .u32 b32 w vd d' ∧ IsDen d' q.den
theorem IsR.below {w w' : World} {v : Value} {q : Rat} (h : IsR w v q) (hb : Below w.heap.size w w') : IsR w' v q := by
 obtain ⟨vn, vd, d', rfl, h1, h2, h3⟩ := h
 exact ⟨vn, vd, d', rfl, h1.below hb, h2.below hb, h3⟩
theorem IsR.zero (w : World) : IsR w (.agg #[.bool false, .slice none 0 0, .slice none 0 0]) 0 :=
 ⟨_, _, 0, rfl, IsNat.zero _ _ _, IsNat.zero _ _ _, .inr ⟨rfl, rfl⟩⟩
theorem IsR.opened {w : World} {v : Value} {q : Rat} (h : IsR w v q) : ∃ d' a1 c1 a2 c2, v = .agg #[.bool (decide (q.num < 0)), .slice a1 (dig b32 q.num.natAbs).length c1, .slice a2 (dig b32 d').length c2] ∧
  IsNat .u32 b32 w (.slice a1 (dig b32 q.num.natAbs).length c1) q.num.natAbs ∧ IsNat .u32 b32 w (.slice a2 (dig b32 d').length c2) d' ∧ IsDen d' q.den := by
 obtain ⟨vn, vd, d', rfl, h1, h2, h3⟩ := h
 have h1' := h1
 have h2' := h2
 obtain ⟨a1, c1, rfl, _⟩ := IsRow.opened h1
 obtain ⟨a2, c2, rfl, _⟩ := IsRow.opened h2
 exact ⟨d', a1, c1, a2, c2, rfl, h1', h2', h3⟩

end Go.Proofs.Ytnjpkfccncjkhaa

namespace Go.Proofs.Ytnjpkfccncjkhaa
open Go.RowKit

theorem neg_lt_num (q : Rat) : decide ((-q).num < 0) = (!decide (q.num < 0) && !decide (q.num.natAbs = 0)) := by
 have e : (-q).num = -q.num := rfl
 rw [e]
 by_cases h : q.num < 0
 ·
  have : ¬ 0 < q.num := by omega
  simp [h, this]
 ·
  by_cases h0 : q.num = 0
  ·
   simp [h0]
  ·
   have : 0 < q.num := by omega
   simp [h, h0, this]

def cellOf (w : World) (a : Addr) : Value := (w.cell? a).getD undef
def RB (w : World) (B : Nat) : Prop := ∃ b x i j y k l T, w.heap[B]? = some (.cells #[.bool b, .slice x i j, .slice y k l] T (0, 0))
theorem RB.lt {w : World} {B : Nat} (h : RB w B) : B < w.heap.size := by
 obtain ⟨b, x, i, j, y, k, l, T, h⟩ := h; exact blk_lt h
theorem RB.keep {a b : World} {B n : Nat} (h : RB a B) (hb : Below n a b) (hB : B < n) : RB b B := by
 obtain ⟨b, x, i, j, y, k, l, T, h⟩ := h
 exact ⟨b, x, i, j, y, k, l, T, blk_keep h hb hB⟩
theorem RB.store {w : World} {B : Nat} (h : RB w B) (neg : Bool) (x1 y1 : Option Addr) (i1 j1 k1 l1 : Nat) :
  RB (((w.setCell ⟨B, 0, none⟩ (.bool neg)).setCell ⟨B, 1, none⟩ (.slice x1 i1 j1)).setCell ⟨B, 2, none⟩ (.slice y1 k1 l1)) B := by
 obtain ⟨b, x, i, j, y, k, l, T, h⟩ := h
 exact ⟨neg, x1, i1, j1, y1, k1, l1, T, by exact blk_set (blk_set (blk_set h 0 (.bool neg)) 1 (.slice x1 i1 j1)) 2 (.slice y1 k1 l1)⟩
theorem RB.cell {w : World} {B : Nat} (h : RB w B) : w.cell? ⟨B, 0, none⟩ = some (cellOf w ⟨B, 0, none⟩) ∧ w.cell? ⟨B, 1, none⟩ = some (cellOf w ⟨B, 1, none⟩) ∧ w.cell? ⟨B, 2, none⟩ = some (cellOf w ⟨B, 2, none⟩) ∧
  w.frozen? ⟨B, 0, none⟩ = false ∧ w.frozen? ⟨B, 1, none⟩ = false ∧ w.frozen? ⟨B, 2, none⟩ = false := by
 obtain ⟨b, x, i, j, y, k, l, T, h⟩ := h
 have e : ∀ a v, w.cell? a = some v → w.cell? a = some (cellOf w a) := fun a v h => by unfold cellOf; rw [h]; rfl
 exact ⟨e _ _ (blk_cell h 0 (.bool b) rfl), e _ _ (blk_cell h 1 (.slice x i j) rfl), e _ _ (blk_cell h 2 (.slice y k l) rfl), blk_frozen h 0, blk_frozen h 1, blk_frozen h 2⟩

theorem hold3 {n : Nat} {w0 a : World} {B1 B : Nat} {v0 v1 v2 : Value} (h0 : Below n w0 a) (h1 : a.cell? ⟨B1, 0, none⟩ = some v0) (h2 : a.cell? ⟨B1, 1, none⟩ = some v1) (h3 : a.cell? ⟨B1, 2, none⟩ = some v2) (hB : RB a B) :
  Below n w0 a ∧ RB a B ∧ a.cell? ⟨B1, 0, none⟩ = some v0 ∧ a.cell? ⟨B1, 1, none⟩ = some v1 ∧ a.cell? ⟨B1, 2, none⟩ = some v2 ∧
   a.cell? ⟨B, 0, none⟩ = some (cellOf a ⟨B, 0, none⟩) ∧ a.cell? ⟨B, 1, none⟩ = some (cellOf a ⟨B, 1, none⟩) ∧ a.cell? ⟨B, 2, none⟩ = some (cellOf a ⟨B, 2, none⟩) ∧
   a.frozen? ⟨B, 0, none⟩ = false ∧ a.frozen? ⟨B, 1, none⟩ = false ∧ a.frozen? ⟨B, 2, none⟩ = false := ⟨h0, hB, h1, h2, h3, hB.cell⟩
theorem hold3_call {n : Nat} {w0 a b : World} {B1 B : Nat} {v0 v1 v2 : Value} {R : Prop} (hn : n ≤ w0.heap.size) (hb : Below a.heap.size a b)
  (h : Below n w0 a ∧ RB a B ∧ a.cell? ⟨B1, 0, none⟩ = some v0 ∧ a.cell? ⟨B1, 1, none⟩ = some v1 ∧ a.cell? ⟨B1, 2, none⟩ = some v2 ∧ R) :
  Below n w0 b ∧ RB b B ∧ b.cell? ⟨B1, 0, none⟩ = some v0 ∧ b.cell? ⟨B1, 1, none⟩ = some v1 ∧ b.cell? ⟨B1, 2, none⟩ = some v2 ∧
   b.cell? ⟨B, 0, none⟩ = some (cellOf b ⟨B, 0, none⟩) ∧ b.cell? ⟨B, 1, none⟩ = some (cellOf b ⟨B, 1, none⟩) ∧ b.cell? ⟨B, 2, none⟩ = some (cellOf b ⟨B, 2, none⟩) ∧
   b.frozen? ⟨B, 0, none⟩ = false ∧ b.frozen? ⟨B, 1, none⟩ = false ∧ b.frozen? ⟨B, 2, none⟩ = false := by
 obtain ⟨h0, hB, h1, h2, h3, _⟩ := h
 have hl := World.block_lt_of_cell? (h := h1)
 have e : ∀ j, b.cell? ⟨B1, j, none⟩ = a.cell? ⟨B1, j, none⟩ := fun j => hb.cell (p := ⟨B1, j, none⟩) hl
 have hs := h0.size
 exact hold3 (h0.trans (hb.mono (by omega))) ((e _).trans h1) ((e _).trans h2) ((e _).trans h3) (hB.keep hb hB.lt)
theorem hold3_store {n : Nat} {w0 a : World} {B1 B : Nat} {v0 v1 v2 : Value} {R : Prop} (neg : Bool) (x1 y1 : Option Addr) (i1 j1 k1 l1 : Nat) (hn : n ≤ B) (hne : B1 ≠ B)
  (h : Below n w0 a ∧ RB a B ∧ a.cell? ⟨B1, 0, none⟩ = some v0 ∧ a.cell? ⟨B1, 1, none⟩ = some v1 ∧ a.cell? ⟨B1, 2, none⟩ = some v2 ∧ R) (b : World)
  (hb : b = ((a.setCell ⟨B, 0, none⟩ (.bool neg)).setCell ⟨B, 1, none⟩ (.slice x1 i1 j1)).setCell ⟨B, 2, none⟩ (.slice y1 k1 l1)) :
  Below n w0 b ∧ RB b B ∧ b.cell? ⟨B1, 0, none⟩ = some v0 ∧ b.cell? ⟨B1, 1, none⟩ = some v1 ∧ b.cell? ⟨B1, 2, none⟩ = some v2 ∧
   b.cell? ⟨B, 0, none⟩ = some (cellOf b ⟨B, 0, none⟩) ∧ b.cell? ⟨B, 1, none⟩ = some (cellOf b ⟨B, 1, none⟩) ∧ b.cell? ⟨B, 2, none⟩ = some (cellOf b ⟨B, 2, none⟩) ∧
   b.frozen? ⟨B, 0, none⟩ = false ∧ b.frozen? ⟨B, 1, none⟩ = false ∧ b.frozen? ⟨B, 2, none⟩ = false := by
 obtain ⟨h0, hB, h1, h2, h3, _⟩ := h
 subst hb
 have e : ∀ j v, a.cell? ⟨B1, j, none⟩ = some v → (((a.setCell ⟨B, 0, none⟩ (.bool neg)).setCell ⟨B, 1, none⟩ (.slice x1 i1 j1)).setCell ⟨B, 2, none⟩ (.slice y1 k1 l1)).cell? ⟨B1, j, none⟩ = some v := fun j v h => by
  rw [World.cell?_setCell_other, World.cell?_setCell_other, World.cell?_setCell_other, h]
  all_goals intro e; cases e; exact hne rfl
 exact hold3 (below_store3 h0 hn) (e _ _ h1) (e _ _ h2) (e _ _ h3) (hB.store ..)

theorem natAbs_neg_num (q : Rat) : (-q).num.natAbs = q.num.natAbs := by show (-q.num).natAbs = _; exact Int.natAbs_neg _
theorem IsR.stored {w : World} {B : Nat} {neg : Bool} {x1 y1 : Option Addr} {i1 j1 k1 l1 n d' : Nat} {q : Rat}
  (hB : RB w B) (h1 : IsNat .u32 b32 w (.slice x1 i1 j1) n) (h2 : IsNat .u32 b32 w (.slice y1 k1 l1) d') (hd : IsDen d' q.den)
  (hn : decide (q.num < 0) = neg) (hm : q.num.natAbs = n) :
  IsR (((w.setCell ⟨B, 0, none⟩ (.bool neg)).setCell ⟨B, 1, none⟩ (.slice x1 i1 j1)).setCell ⟨B, 2, none⟩ (.slice y1 k1 l1)) (.agg #[.bool neg, .slice x1 i1 j1, .slice y1 k1 l1]) q := by
 subst hn hm
 obtain ⟨b, x, i, j, y, k, l, T, hB⟩ := hB
 exact ⟨_, _, d', rfl, store3 hB h1, store3 hB h2, hd⟩

end Go.Proofs.Ytnjpkfccncjkhaa

namespace Go.Proofs.Ytnjpkfccncjkhaa
open Go.RowKit

theorem hold6 {n : Nat} {w0 a : World} {B1 B2 B : Nat} {v0 v1 v2 v3 v4 v5 : Value} (h0 : Below n w0 a) (h1 : a.cell? ⟨B1, 0, none⟩ = some v0) (h2 : a.cell? ⟨B1, 1, none⟩ = some v1) (h3 : a.cell? ⟨B1, 2, none⟩ = some v2)
  (h4 : a.cell? ⟨B2, 0, none⟩ = some v3) (h5 : a.cell? ⟨B2, 1, none⟩ = some v4) (h6 : a.cell? ⟨B2, 2, none⟩ = some v5) (hB : RB a B) :
  Below n w0 a ∧ RB a B ∧ a.cell? ⟨B1, 0, none⟩ = some v0 ∧ a.cell? ⟨B1, 1, none⟩ = some v1 ∧ a.cell? ⟨B1, 2, none⟩ = some v2 ∧
   a.cell? ⟨B2, 0, none⟩ = some v3 ∧ a.cell? ⟨B2, 1, none⟩ = some v4 ∧ a.cell? ⟨B2, 2, none⟩ = some v5 ∧
   a.cell? ⟨B, 0, none⟩ = some (cellOf a ⟨B, 0, none⟩) ∧ a.cell? ⟨B, 1, none⟩ = some (cellOf a ⟨B, 1, none⟩) ∧ a.cell? ⟨B, 2, none⟩ = some (cellOf a ⟨B, 2, none⟩) ∧
   a.frozen? ⟨B, 0, none⟩ = false ∧ a.frozen? ⟨B, 1, none⟩ = false ∧ a.frozen? ⟨B, 2, none⟩ = false := ⟨h0, hB, h1, h2, h3, h4, h5, h6, hB.cell⟩
theorem hold6_call {n : Nat} {w0 a b : World} {B1 B2 B : Nat} {v0 v1 v2 v3 v4 v5 : Value} {R : Prop} (hn : n ≤ w0.heap.size) (hb : Below a.heap.size a b)
  (h : Below n w0 a ∧ RB a B ∧ a.cell? ⟨B1, 0, none⟩ = some v0 ∧ a.cell? ⟨B1, 1, none⟩ = some v1 ∧ a.cell? ⟨B1, 2, none⟩ = some v2 ∧
   a.cell? ⟨B2, 0, none⟩ = some v3 ∧ a.cell? ⟨B2, 1, none⟩ = some v4 ∧ a.cell? ⟨B2, 2, none⟩ = some v5 ∧ R) :
  Below n w0 b ∧ RB b B ∧ b.cell? ⟨B1, 0, none⟩ = some v0 ∧ b.cell? ⟨B1, 1, none⟩ = some v1 ∧ b.cell? ⟨B1, 2, none⟩ = some v2 ∧
   b.cell? ⟨B2, 0, none⟩ = some v3 ∧ b.cell? ⟨B2, 1, none⟩ = some v4 ∧ b.cell? ⟨B2, 2, none⟩ = some v5 ∧
   b.cell? ⟨B, 0, none⟩ = some (cellOf b ⟨B, 0, none⟩) ∧ b.cell? ⟨B, 1, none⟩ = some (cellOf b ⟨B, 1, none⟩) ∧ b.cell? ⟨B, 2, none⟩ = some (cellOf b ⟨B, 2, none⟩) ∧
   b.frozen? ⟨B, 0, none⟩ = false ∧ b.frozen? ⟨B, 1, none⟩ = false ∧ b.frozen? ⟨B, 2, none⟩ = false := by
 obtain ⟨h0, hB, h1, h2, h3, h4, h5, h6, _⟩ := h
 have e : ∀ B1 j v, a.cell? ⟨B1, j, none⟩ = some v → b.cell? ⟨B1, j, none⟩ = some v := fun B1 j v h => (hb.cell (p := ⟨B1, j, none⟩) (World.block_lt_of_cell? (h := h))).trans h
 have hs := h0.size
 exact hold6 (h0.trans (hb.mono (by omega))) (e _ _ _ h1) (e _ _ _ h2) (e _ _ _ h3) (e _ _ _ h4) (e _ _ _ h5) (e _ _ _ h6) (hB.keep hb hB.lt)
theorem hold6_store {n : Nat} {w0 a : World} {B1 B2 B : Nat} {v0 v1 v2 v3 v4 v5 : Value} {R : Prop} (neg : Bool) (x1 y1 : Option Addr) (i1 j1 k1 l1 : Nat) (hn : n ≤ B) (hne : B1 ≠ B) (hne2 : B2 ≠ B)
  (h : Below n w0 a ∧ RB a B ∧ a.cell? ⟨B1, 0, none⟩ = some v0 ∧ a.cell? ⟨B1, 1, none⟩ = some v1 ∧ a.cell? ⟨B1, 2, none⟩ = some v2 ∧
   a.cell? ⟨B2, 0, none⟩ = some v3 ∧ a.cell? ⟨B2, 1, none⟩ = some v4 ∧ a.cell? ⟨B2, 2, none⟩ = some v5 ∧ R) (b : World)
  (hb : b = ((a.setCell ⟨B, 0, none⟩ (.bool neg)).setCell ⟨B, 1, none⟩ (.slice x1 i1 j1)).setCell ⟨B, 2, none⟩ (.slice y1 k1 l1)) :
  Below n w0 b ∧ RB b B ∧ b.cell? ⟨B1, 0, none⟩ = some v0 ∧ b.cell? ⟨B1, 1, none⟩ = some v1 ∧ b.cell? ⟨B1, 2, none⟩ = some v2 ∧
   b.cell? ⟨B2, 0, none⟩ = some v3 ∧ b.cell? ⟨B2, 1, none⟩ = some v4 ∧ b.cell? ⟨B2, 2, none⟩ = some v5 ∧
   b.cell? ⟨B, 0, none⟩ = some (cellOf b ⟨B, 0, none⟩) ∧ b.cell? ⟨B, 1, none⟩ = some (cellOf b ⟨B, 1, none⟩) ∧ b.cell? ⟨B, 2, none⟩ = some (cellOf b ⟨B, 2, none⟩) ∧
   b.frozen? ⟨B, 0, none⟩ = false ∧ b.frozen? ⟨B, 1, none⟩ = false ∧ b.frozen? ⟨B, 2, none⟩ = false := by
 obtain ⟨h0, hB, h1, h2, h3, h4, h5, h6, _⟩ := h
 subst hb
 have e : ∀ B1 j v, B1 ≠ B → a.cell? ⟨B1, j, none⟩ = some v → (((a.setCell ⟨B, 0, none⟩ (.bool neg)).setCell ⟨B, 1, none⟩ (.slice x1 i1 j1)).setCell ⟨B, 2, none⟩ (.slice y1 k1 l1)).cell? ⟨B1, j, none⟩ = some v := fun B1 j v hne h => by
  rw [World.cell?_setCell_other, World.cell?_setCell_other, World.cell?_setCell_other, h]
  all_goals intro e; cases e; exact hne rfl
 exact hold6 (below_store3 h0 hn) (e _ _ _ hne h1) (e _ _ _ hne h2) (e _ _ _ hne h3) (e _ _ _ hne2 h4) (e _ _ _ hne2 h5) (e _ _ _ hne2 h6) (hB.store ..)

theorem boxes3 (w : World) (A1 A2 A3 : Array Value) (T : Nat) (W : World) (hW : W = ((w.alloc (.cells A1 T)).alloc (.cells A2 T)).alloc (.cells A3 T)) :
  Below w.heap.size w W ∧ W.heap[w.heap.size]? = some (.cells A1 T (0, 0)) ∧ W.heap[w.heap.size + 1]? = some (.cells A2 T (0, 0)) ∧ W.heap[w.heap.size + 2]? = some (.cells A3 T (0, 0)) := by
 subst hW
 refine ⟨(((Below.refl _ _).alloc (Nat.le_refl _) _).alloc (by simp) _).alloc (by simp; omega) _, ?_, ?_, ?_⟩
 ·
  rw [heap_alloc_old _ _ (by simp; omega), heap_alloc_old _ _ (by simp)]; exact blk_new w A1 T
 ·
  rw [heap_alloc_old _ _ (by simp)]; have := blk_new (w.alloc (.cells A1 T)) A2 T; rw [World.size_alloc] at this; exact this
 ·
  have := blk_new ((w.alloc (.cells A1 T)).alloc (.cells A2 T)) A3 T; rw [World.size_alloc, World.size_alloc] at this; exact this

theorem sg_mul (a b : Bool) (m n : Nat) : sg (!(a == b)) (m * n) = sg a m * sg b n := by
 cases a <;> cases b <;> simp [sg, Int.neg_mul, Int.mul_neg]
theorem sg_self (q : Rat) : sg (decide (q.num < 0)) q.num.natAbs = q.num := by
 unfold sg
 by_cases h : q.num < 0 <;> simp [h] <;> omega
theorem mkQ_mul (x y : Rat) : mkQ (!(decide (x.num < 0) == decide (y.num < 0))) (x.num.natAbs * y.num.natAbs) (x.den * y.den) = x * y := by
 unfold mkQ
 rw [sg_mul, sg_self, sg_self, Rat.mul_def, Rat.normalize_eq_mkRat]

end Go.Proofs.Ytnjpkfccncjkhaa

namespace Go.Proofs.Ytnjpkfccncjkhaa
open Go.RowKit

theorem mkQ_add (x y : Rat) (s : Bool) (n : Nat) (h : sg s n = sg (decide (x.num < 0)) (x.num.natAbs * y.den) + sg (decide (y.num < 0)) (y.num.natAbs * x.den)) : mkQ s n (x.den * y.den) = x + y := by
 unfold mkQ
 rw [h, Rat.add_def, Rat.normalize_eq_mkRat]
 have e : ∀ (b : Bool) (m k : Nat), sg b (m * k) = sg b m * (k : Int) := fun b m k => by cases b <;> simp [sg, Int.neg_mul]
 rw [e, e, sg_self, sg_self]
theorem sg_add (s : Bool) (m n : Nat) : sg s (m + n) = sg s m + sg s n := by
 cases s <;> simp [sg] <;> omega
theorem sg_sub {s t : Bool} (h : (s == t) = false) {m n : Nat} (hle : n ≤ m) : sg s (m - n) = sg s m + sg t n := by
 cases s <;> cases t <;> simp [sg] at h ⊢ <;> omega

end Go.Proofs.Ytnjpkfccncjkhaa

namespace Go.Proofs.Ytnjpkfccncjkhaa
open Go.RowKit

def sgnW : Nat := 9223372036854775808
def bin52 : Nat := 4503599627370496

end Go.Proofs.Ytnjpkfccncjkhaa

namespace Go.Proofs.Ytnjpkfccncjkhaa
open Go.RowKit

def fE (b : Nat) : Nat := b / bin52 % 2048
def fM0 (b : Nat) : Nat := b % bin52
def fM (b : Nat) : Nat := if fE b = 0 then fM0 b else fM0 b + bin52
def fE1 (b : Nat) : Nat := if fE b = 0 then 1 else fE b
def fS (b : Nat) : Bool := decide (b / sgnW = 1)
def fval (b : Nat) : Rat := mkQ (fS b) (fM b * 2 ^ (fE1 b - 1075)) (2 ^ (1075 - fE1 b))

end Go.Proofs.Ytnjpkfccncjkhaa

namespace Go.Proofs.Ytnjpkfccncjkhaa
open Go.RowKit

theorem RB.isRow {w : World} {B : Nat} (h : RB w B) {k : IntKind} {v : Value} {ds : List Nat} (hv : IsRow k w v ds) (neg : Bool) (x1 y1 : Option Addr) (i1 j1 k1 l1 : Nat) :
  IsRow k (((w.setCell ⟨B, 0, none⟩ (.bool neg)).setCell ⟨B, 1, none⟩ (.slice x1 i1 j1)).setCell ⟨B, 2, none⟩ (.slice y1 k1 l1)) v ds := by
 obtain ⟨b, x, i, j, y, k, l, T, h⟩ := h
 exact store3 h hv
theorem RB.far {w : World} {B B' : Nat} (h : RB w B) (hne : B' ≠ B) (neg : Bool) (x1 y1 : Option Addr) (i1 j1 k1 l1 : Nat) :
  RB (((w.setCell ⟨B', 0, none⟩ (.bool neg)).setCell ⟨B', 1, none⟩ (.slice x1 i1 j1)).setCell ⟨B', 2, none⟩ (.slice y1 k1 l1)) B := by
 obtain ⟨b, x, i, j, y, k, l, T, h⟩ := h
 exact ⟨b, x, i, j, y, k, l, T, by rw [heap_setCell_other _ _ _ _ (Ne.symm hne), heap_setCell_other _ _ _ _ (Ne.symm hne), heap_setCell_other _ _ _ _ (Ne.symm hne)]; exact h⟩
end Go.Proofs.Ytnjpkfccncjkhaa

namespace Go.Proofs.Ytnjpkfccncjkhaa
open Go.RowKit

def noDig (v : Value) : Prop := ∀ x : Int, v ≠ .int .u64 x ∧ v ≠ .int .u32 x
def NoDig (w : World) (g : Nat) : Prop := ∀ (j : Nat) (v : Value), w.cell? ⟨g, j, none⟩ = some v → noDig v

theorem noDig_bool (b : Bool) : noDig (.bool b) := fun _ => ⟨by simp, by simp⟩
theorem noDig_slice (a : Option Addr) (l c : Nat) : noDig (.slice a l c) := fun _ => ⟨by simp, by simp⟩
theorem noDig_i64 (x : Int) : noDig (.int .i64 x) := fun _ => ⟨by simp, by simp⟩
theorem NoDig.of_block {w : World} {g : Nat} {cs : Array Value} {t : TypeId} {fr : Nat × Nat} (hg : w.heap[g]? = some (.cells cs t fr)) (h : ∀ v ∈ cs.toList, noDig v) : NoDig w g := by
 intro j v hv
 rw [cell_of_row w g j cs t fr hg] at hv
 exact h v (by simpa using Array.mem_of_getElem? hv)

def LRow (w : World) (base : Nat) (e : TypeId) (size : Nat) (v : Value) (n : Nat) (xs : List Value) : Prop :=
 w.ownsRow base e size v n xs ∧ ∀ g, v.ownBlock = some g → NoDig w g

theorem LRow.nil (w : World) (base : Nat) (e : TypeId) (size : Nat) : LRow w base e size (.slice none 0 0) 0 [] :=
 ⟨World.ownsRow_nil w base e size, fun g h => by simp [Value.ownBlock] at h⟩
theorem LRow.lt {w : World} {base : Nat} {e : TypeId} {size : Nat} {v : Value} {n : Nat} {xs : List Value} (h : LRow w base e size v n xs) {g : Nat} (hg : v.ownBlock = some g) : g < w.heap.size ∧ base ≤ g := by
 rcases h.1.2 with ⟨rfl, _⟩ | ⟨g', cap, cur, rfl, hb, hh, _⟩
 ·
  simp [Value.ownBlock] at hg
 ·
  simp [Value.ownBlock] at hg
  subst hg
  exact ⟨(Array.getElem?_eq_some_iff.1 hh).1, hb⟩
theorem LRow.keep {w w' : World} {base : Nat} {e : TypeId} {size : Nat} {v : Value} {n : Nat} {xs : List Value} (h : LRow w base e size v n xs) (hk : ∀ g, v.ownBlock = some g → w'.heap[g]? = w.heap[g]?) : LRow w' base e size v n xs := by
 refine ⟨⟨h.1.1, ?_⟩, fun g hg j u hu => h.2 g hg j u ?_⟩
 ·
  rcases h.1.2 with h1 | ⟨g, cap, cur, rfl, hb, hh, h2⟩
  ·
   exact .inl h1
  ·
   exact .inr ⟨g, cap, cur, rfl, hb, (hk g rfl).trans hh, h2⟩
 ·
  rw [← hu]
  exact (World.cell?_of_block (a := ⟨g, j, none⟩) (hk g hg)).symm
theorem LRow.below {w w' : World} {base : Nat} {e : TypeId} {size : Nat} {v : Value} {n : Nat} {xs : List Value} (h : LRow w base e size v n xs) (hb : Below w.heap.size w w') : LRow w' base e size v n xs :=
 h.keep fun g hg => hb.block g (h.lt hg).1
theorem LRow.grown {w w' : World} {base : Nat} {e : TypeId} {size : Nat} {v : Value} {n : Nat} {xs : List Value} {row : Option Nat} (h : LRow w base e size v n xs) (hb : w.grownBy w' row) (hne : ∀ g, v.ownBlock = some g → some g ≠ row) : LRow w' base e size v n xs :=
 h.keep fun g hg => hb.block g (h.lt hg).1 (hne g hg)

theorem IsRow.grown {k : IntKind} (hk : k = .u64 ∨ k = .u32) {w w' : World} {v : Value} {ds : List Nat} {row : Option Nat} (h : IsRow k w v ds) (hg : w.grownBy w' row) (hr : ∀ g, row = some g → NoDig w g) : IsRow k w' v ds := by
 rcases h with ⟨rfl, ao, cap, rfl, h2, h3⟩ | ⟨h0, b, off, cap, rfl, h1, h2, h3, h4⟩
 ·
  exact .inl ⟨rfl, ao, cap, rfl, h2, h3⟩
 ·
  have hne : some b ≠ row := by
   intro e
   have := hr b e.symm off _ (h4 0 h0)
   rcases hk with rfl | rfl
   ·
    exact (this _).1 rfl
   ·
    exact (this _).2 rfl
  refine .inr ⟨h0, b, off, cap, rfl, h1, h2, Nat.lt_of_lt_of_le h3 hg.size, fun j hj => ?_⟩
  rw [← h4 j hj]
  exact World.cell?_of_block (a := ⟨b, off + j, none⟩) (hg.block b h3 hne)

theorem run_append_lrow {P : Program} (w : World) (t ty : TypeId) (base : Nat) (e : TypeId) (i : TypeInfo) (z : Value) (size bytes : Nat) (ht : P.underlying t = some (.slice e)) (hi : P.info? e = some i) (hz : i.zero = some z)
  (hsize : i.size = size) (hby : i.bytes = bytes) (hzs : z.cells.size = size) (hsz : 0 < size) (hzd : ∀ u ∈ z.cells.toList, noDig u)
  (v : Value) (n : Nat) (xs : List Value) (hown : LRow w base e size v n xs)
  (ad : Addr) (m c : Nat) (news : List Value) (hl : news.length = m * size) (hnews : ∀ j u, news[j]? = some u → w.cell? (ad.add j) = some u) (h1 : ∀ u ∈ news, u.oneCell' = true) (hnd : ∀ u ∈ news, noDig u)
  (hm : 0 < m) (h63 : n + m ≤ maxLen) (hbytes : (n + m) * bytes ≤ 140737488355328) (hbase : base ≤ w.heap.size) :
  ∃ g cap w', (Builtin.append_ #[t, t] ty #[v, .slice (some ad) m c]).run P w = .ok (.slice (some ⟨g, 0, none⟩) (n + m) cap) w' ∧
   LRow w' base e size (.slice (some ⟨g, 0, none⟩) (n + m) cap) (n + m) (xs ++ news) ∧ w.grownBy w' v.ownBlock ∧ (v.ownBlock = some g ∨ g = w.heap.size) := by
 obtain ⟨g, cap, w', hr, h2, h3, h4, h5⟩ := run_append_lies (P := P) w t ty base e i z size bytes ht hi hz hsize hby hzs hsz v n xs hown.1 ad m c news hl hnews h1 hm h63 hbytes hbase w.heap.size rfl
 refine ⟨g, cap, w', hr, ⟨h2, ?_⟩, h3, h4⟩
 intro g' hg'
 obtain rfl : g = g' := by simpa [Value.ownBlock] using hg'
 subst hsize
 subst hby
 have h63' : n + m ≤ 9223372036854775807 := by unfold maxLen at h63; omega
 have hzc : ∀ k, ∀ u ∈ (Builtin.zeroCells z.cells k).toList, noDig u := by
  intro k u hu
  refine hzd u ?_
  simp only [Builtin.zeroCells] at hu
  simp at hu
  obtain ⟨j, h1, h2⟩ := hu
  have hp : 0 < z.cells.size := by omega
  have hlt : j % z.cells.size < z.cells.size := Nat.mod_lt _ hp
  rw [← h2, getElem!_pos z.cells _ hlt]
  simp
 rcases hown.1.2 with ⟨rfl, rfl⟩ | ⟨g1, cap1, cur, rfl, hbg, hg, hnc, hcm, hcs, htake⟩
 ·
  have hr2 := run_append_nil (P := P) w t ty e i z ht hi hz ad m c news hl hnews hm (by omega) (by have hb := hbytes; simp only [Nat.zero_add] at hb; omega)
  rw [hr2] at hr
  simp only [Result.ok.injEq, Value.slice.injEq, Option.some.injEq, Addr.mk.injEq] at hr
  obtain ⟨⟨⟨rfl, _⟩, _⟩, rfl⟩ := hr
  refine NoDig.of_block (heap_alloc_new w.drew _) ?_
  intro u hu
  simp only [Array.toList_append, List.mem_append] at hu
  rcases hu with hu | hu
  ·
   exact hnd u (by simpa using hu)
  ·
   exact hzc _ u hu
 ·
  by_cases hroom : n + m ≤ cap1
  ·
   have hfit : n * i.size + news.length ≤ cur.size := by rw [hl, hcs, ← Nat.add_mul]; exact Nat.mul_le_mul_right _ hroom
   have hr2 := run_append_room (P := P) w t ty e i ht hi g1 n cap1 cur hg ad m c news hl hnews h1 hroom hfit
   rw [hr2] at hr
   simp only [Result.ok.injEq, Value.slice.injEq, Option.some.injEq, Addr.mk.injEq] at hr
   obtain ⟨⟨⟨rfl, _⟩, _⟩, rfl⟩ := hr
   have hold : ∀ u ∈ cur.toList, noDig u := by
    intro u hu
    obtain ⟨j, hj, rfl⟩ := List.getElem_of_mem hu
    refine hown.2 g1 rfl j _ ?_
    rw [cell_of_row w g1 j cur e (0, 0) hg]
    simp at hj
    simp [hj]
   refine NoDig.of_block (setRow_heap w g1 cur _ e _ hg) ?_
   intro u hu
   simp only [List.append_assoc, List.mem_append] at hu
   rcases hu with hu | hu | hu
   ·
    exact hold u (List.mem_of_mem_take hu)
   ·
    exact hnd u hu
   ·
    exact hold u (List.mem_of_mem_drop hu)
  ·
   have holds : ∀ j u, xs[j]? = some u → w.cell? ((⟨g1, 0, none⟩ : Addr).add j) = some u := hown.1.cells (g := g1) rfl
   have hr2 := run_append_grow (P := P) w t ty e i z ht hi hz ⟨g1, 0, none⟩ n cap1 xs hown.1.1 holds ad m c news hl hnews (by omega) (by omega) (growslice_fits (by omega) hbytes)
   rw [hr2] at hr
   simp only [Result.ok.injEq, Value.slice.injEq, Option.some.injEq, Addr.mk.injEq] at hr
   obtain ⟨⟨⟨rfl, _⟩, _⟩, rfl⟩ := hr
   have hold : ∀ u ∈ xs, noDig u := by
    intro u hu
    obtain ⟨j, hj, rfl⟩ := List.getElem_of_mem hu
    have hx := holds j xs[j] (by simp [hj])
    have ha : (⟨g1, 0, none⟩ : Addr).add j = ⟨g1, j, none⟩ := by unfold Addr.add; split <;> simp_all
    rw [ha] at hx
    exact hown.2 g1 rfl j _ hx
   refine NoDig.of_block (heap_alloc_new w.drew _) ?_
   intro u hu
   simp only [Array.toList_append, List.mem_append] at hu
   rcases hu with (hu | hu) | hu
   ·
    exact hold u hu
   ·
    exact hnd u hu
   ·
    exact hzc _ u hu

theorem wp_append_lrow {P : Program} (w : World) {o : Oper} {a : Act} {K : Act → World → Prop} {Q : Exit → Act → World → Prop} (s x : Operand) (t : TypeId)
  (ho : o.op = .call { callee := .builtin .append, args := #[s, x], argTypes := #[t, t] })
  (base : Nat) (e : TypeId) (i : TypeInfo) (z : Value) (size bytes : Nat) (ht : P.underlying t = some (.slice e)) (hi : P.info? e = some i) (hz : i.zero = some z)
  (hsize : i.size = size) (hby : i.bytes = bytes) (hzs : z.cells.size = size) (hsz : 0 < size) (hzd : ∀ u ∈ z.cells.toList, noDig u)
  (v : Value) (n : Nat) (xs : List Value) (hs : a.eval s = v) (hown : LRow w base e size v n xs)
  (ad : Addr) (m c : Nat) (news : List Value) (hx : a.eval x = .slice (some ad) m c) (hl : news.length = m * size) (hnews : ∀ j u, news[j]? = some u → w.cell? (ad.add j) = some u) (h1 : ∀ u ∈ news, u.oneCell' = true) (hnd : ∀ u ∈ news, noDig u)
  (hm : 0 < m) (h63 : n + m ≤ maxLen) (hbytes : (n + m) * bytes ≤ 140737488355328) (hbase : base ≤ w.heap.size)
  (h : ∀ g cap w', LRow w' base e size (.slice (some ⟨g, 0, none⟩) (n + m) cap) (n + m) (xs ++ news) → w.grownBy w' v.ownBlock → (v.ownBlock = some g ∨ g = w.heap.size) → K (a.put o.dst (.slice (some ⟨g, 0, none⟩) (n + m) cap)) w') : o.wp P a w K Q := by
 obtain ⟨g, cap, w', hr, h2, h3, h4⟩ := run_append_lrow (P := P) w t o.type base e i z size bytes ht hi hz hsize hby hzs hsz hzd v n xs hown ad m c news hl hnews h1 hnd hm h63 hbytes hbase
 unfold Oper.wp execOp
 simp only [ho, resolve, invoke, builtin, Sem.run_bind, Sem.run_pure, Result.andThen_ok, List.map_toArray, List.map_cons, List.map_nil, hs, hx, hr]
 exact h g cap w' h2 h3 h4

theorem wpList_append_lrow {P : Program} (w : World) {ops : Array Oper} {rest : List Oper} {o : Oper} {a : Act} {Q : Exit → Act → World → Prop} (hgd : o.guard = none) (s x : Operand) (t : TypeId)
  (ho : o.op = .call { callee := .builtin .append, args := #[s, x], argTypes := #[t, t] })
  (base : Nat) (e : TypeId) (i : TypeInfo) (z : Value) (size bytes : Nat) (ht : P.underlying t = some (.slice e)) (hi : P.info? e = some i) (hz : i.zero = some z)
  (hsize : i.size = size) (hby : i.bytes = bytes) (hzs : z.cells.size = size) (hsz : 0 < size) (hzd : ∀ u ∈ z.cells.toList, noDig u)
  (v : Value) (n : Nat) (xs : List Value) (hs : a.eval s = v) (hown : LRow w base e size v n xs)
  (ad : Addr) (m c : Nat) (news : List Value) (hx : a.eval x = .slice (some ad) m c) (hl : news.length = m * size) (hnews : ∀ j u, news[j]? = some u → w.cell? (ad.add j) = some u) (h1 : ∀ u ∈ news, u.oneCell' = true) (hnd : ∀ u ∈ news, noDig u)
  (hm : 0 < m) (h63 : n + m ≤ maxLen) (hbytes : (n + m) * bytes ≤ 140737488355328) (hbase : base ≤ w.heap.size)
  (h : ∀ g cap w', LRow w' base e size (.slice (some ⟨g, 0, none⟩) (n + m) cap) (n + m) (xs ++ news) → w.grownBy w' v.ownBlock → (v.ownBlock = some g ∨ g = w.heap.size) → wpList P ops Q rest (a.put o.dst (.slice (some ⟨g, 0, none⟩) (n + m) cap)) w') : wpList P ops Q (o :: rest) a w :=
 wpList_plain hgd fun _ hK => wp_append_lrow w s x t ho base e i z size bytes ht hi hz hsize hby hzs hsz hzd v n xs hs hown ad m c news hx hl hnews h1 hnd hm h63 hbytes hbase fun g cap w' h2 h3 h4 => hK _ _ (h g cap w' h2 h3 h4)

theorem step_append_lrow {P : Program} (w : World) {ops : Array Oper} {o : Oper} {a : Act} {K : Act → World → Prop} {Q : Exit → Act → World → Prop} {E : Prop} (hgd : o.guard = none) (s x : Operand) (t : TypeId)
  (ho : o.op = .call { callee := .builtin .append, args := #[s, x], argTypes := #[t, t] })
  (base : Nat) (e : TypeId) (i : TypeInfo) (z : Value) (size bytes : Nat) (ht : P.underlying t = some (.slice e)) (hi : P.info? e = some i) (hz : i.zero = some z)
  (hsize : i.size = size) (hby : i.bytes = bytes) (hzs : z.cells.size = size) (hsz : 0 < size) (hzd : ∀ u ∈ z.cells.toList, noDig u)
  (v : Value) (n : Nat) (xs : List Value) (hs : a.eval s = v) (hown : LRow w base e size v n xs)
  (ad : Addr) (m c : Nat) (news : List Value) (hx : a.eval x = .slice (some ad) m c) (hl : news.length = m * size) (hnews : ∀ j u, news[j]? = some u → w.cell? (ad.add j) = some u) (h1 : ∀ u ∈ news, u.oneCell' = true) (hnd : ∀ u ∈ news, noDig u)
  (hm : 0 < m) (h63 : n + m ≤ maxLen) (hbytes : (n + m) * bytes ≤ 140737488355328) (hbase : base ≤ w.heap.size)
  (h : ∀ g cap w', LRow w' base e size (.slice (some ⟨g, 0, none⟩) (n + m) cap) (n + m) (xs ++ news) → w.grownBy w' v.ownBlock → (v.ownBlock = some g ∨ g = w.heap.size) → K (a.put o.dst (.slice (some ⟨g, 0, none⟩) (n + m) cap)) w') :
  if Region.wanted o (yielded ops a.tmps) = true then Oper.wp P o a w K Q else E := by
 have hw : Region.wanted o (yielded ops a.tmps) = true := by simp [Region.wanted, hgd]
 rw [if_pos hw]
 exact wp_append_lrow w s x t ho base e i z size bytes ht hi hz hsize hby hzs hsz hzd v n xs hs hown ad m c news hx hl hnews h1 hnd hm h63 hbytes hbase h

end Go.Proofs.Ytnjpkfccncjkhaa

namespace Go.Proofs.Ytnjpkfccncjkhaa
open Go.RowKit

def EntAt (R : World → Value → Rat → Prop) (w : World) (b o : Nat) (e : Rat × Int) : Prop :=
 ∃ v0 vn vd, w.cell? ⟨b, o, none⟩ = some v0 ∧ w.cell? ⟨b, o + 1, none⟩ = some vn ∧ w.cell? ⟨b, o + 2, none⟩ = some vd ∧ w.cell? ⟨b, o + 3, none⟩ = some (.int .i64 e.2) ∧ R w (.agg #[v0, vn, vd]) e.1
def EntsOf (R : World → Value → Rat → Prop) (w : World) (v : Value) (es : List (Rat × Int)) : Prop :=
 ∃ ao cap, v = .slice ao es.length cap ∧ (0 < es.length → ∃ b off, ao = some ⟨b, off, none⟩ ∧ b < w.heap.size ∧ ∀ i, i < es.length → EntAt R w b (off + i * 4) (es.getD i (0, 0)))

theorem EntAt.below {R : World → Value → Rat → Prop} (hR : ∀ w w' v q, R w v q → Below w.heap.size w w' → R w' v q) {w w' : World} {b o : Nat} {e : Rat × Int} (h : EntAt R w b o e) (hb : Below w.heap.size w w') (hl : b < w.heap.size) : EntAt R w' b o e := by
 obtain ⟨v0, vn, vd, h0, h1, h2, h3, h4⟩ := h
 have c : ∀ j v, w.cell? ⟨b, j, none⟩ = some v → w'.cell? ⟨b, j, none⟩ = some v := fun j v h => (hb.cell (p := ⟨b, j, none⟩) hl).trans h
 exact ⟨v0, vn, vd, c _ _ h0, c _ _ h1, c _ _ h2, c _ _ h3, hR _ _ _ _ h4 hb⟩
theorem EntsOf.below {R : World → Value → Rat → Prop} (hR : ∀ w w' v q, R w v q → Below w.heap.size w w' → R w' v q) {w w' : World} {v : Value} {es : List (Rat × Int)} (h : EntsOf R w v es) (hb : Below w.heap.size w w') : EntsOf R w' v es := by
 obtain ⟨ao, cap, rfl, h⟩ := h
 refine ⟨ao, cap, rfl, fun hl => ?_⟩
 obtain ⟨b, off, rfl, hlt, h⟩ := h hl
 exact ⟨b, off, rfl, Nat.lt_of_lt_of_le hlt hb.size, fun i hi => (h i hi).below hR hb hlt⟩

def rateUp (es : List (Rat × Int)) (T : Rat) : Int := es.foldl (fun acc e => if cmpR e.1 T ≤ 0 then e.2 else acc) 0
theorem rateUp_take (es : List (Rat × Int)) (T : Rat) (i : Nat) (hi : i < es.length) :
  rateUp (es.take (i + 1)) T = if cmpR (es.getD i (0, 0)).1 T ≤ 0 then (es.getD i (0, 0)).2 else rateUp (es.take i) T := by
 unfold rateUp
 rw [List.take_add_one, List.foldl_append]
 simp [hi]

end Go.Proofs.Ytnjpkfccncjkhaa

namespace Go.Proofs.Ytnjpkfccncjkhaa
open Go.RowKit

def firstErr (f : Nat → Int) : Nat → Int
 | 0 => 0
 | k + 1 => if firstErr f k = 0 then f k else firstErr f k
theorem firstErr_step {f : Nat → Int} {i : Nat} (h : firstErr f i = 0) : firstErr f (i + 1) = f i := by simp [firstErr, h]
theorem firstErr_stay {f : Nat → Int} {i n : Nat} (h : firstErr f i ≠ 0) (hn : i ≤ n) : firstErr f n = firstErr f i := by
 obtain ⟨k, rfl⟩ : ∃ k, n = i + k := ⟨n - i, by omega⟩
 induction k with
 | zero => rfl
 | succ k ih =>
  have := ih (by omega)
  show (if firstErr f (i + k) = 0 then f (i + k) else firstErr f (i + k)) = _
  rw [this, if_neg h]

def entErr (es : List (Rat × Int)) (i : Nat) : Int :=
 if 0 < i ∧ cmpR (es.getD i (0, 0)).1 (es.getD (i - 1) (0, 0)).1 ≤ 0 then 7
 else if (es.getD i (0, 0)).2 < 0 ∨ 1000 < (es.getD i (0, 0)).2 ∨ (0 < i ∧ (es.getD i (0, 0)).2 < (es.getD (i - 1) (0, 0)).2) then 1 else 0
def tabErr (es : List (Rat × Int)) : Int := if es.length < 1 ∨ 16 < es.length then 4 else firstErr (entErr es) es.length

end Go.Proofs.Ytnjpkfccncjkhaa

namespace Go.Proofs.Ytnjpkfccncjkhaa
open Go.RowKit

def PairAt (w : World) (b o : Nat) (r : Int × Int) : Prop := w.cell? ⟨b, o, none⟩ = some (.int .i64 r.1) ∧ w.cell? ⟨b, o + 1, none⟩ = some (.int .i64 r.2)
def PairsOf (w : World) (v : Value) (ps : List (Int × Int)) : Prop :=
 ∃ ao cap, v = .slice ao ps.length cap ∧ (0 < ps.length → ∃ b off, ao = some ⟨b, off, none⟩ ∧ b < w.heap.size ∧ ∀ i, i < ps.length → PairAt w b (off + i * 2) (ps.getD i (0, 0)))
theorem PairAt.below {w w' : World} {b o : Nat} {r : Int × Int} (h : PairAt w b o r) (hb : Below w.heap.size w w') (hl : b < w.heap.size) : PairAt w' b o r :=
 ⟨(hb.cell (p := ⟨b, o, none⟩) hl).trans h.1, (hb.cell (p := ⟨b, o + 1, none⟩) hl).trans h.2⟩
theorem PairsOf.below {w w' : World} {v : Value} {ps : List (Int × Int)} (h : PairsOf w v ps) (hb : Below w.heap.size w w') : PairsOf w' v ps := by
 obtain ⟨ao, cap, rfl, h⟩ := h
 refine ⟨ao, cap, rfl, fun hl => ?_⟩
 obtain ⟨b, off, rfl, hlt, h⟩ := h hl
 exact ⟨b, off, rfl, Nat.lt_of_lt_of_le hlt hb.size, fun i hi => (h i hi).below hb hlt⟩

end Go.Proofs.Ytnjpkfccncjkhaa

namespace Go.Proofs.Ytnjpkfccncjkhaa
open Go.RowKit

def timeB (n : Int) : Bool := decide (0 ≤ n) && decide (n ≤ 1073741824)
end Go.Proofs.Ytnjpkfccncjkhaa

namespace Go.Proofs.Ytnjpkfccncjkhaa
open Go.RowKit

def sgn32 : Nat := 2147483648
def inf32 : Nat := 2139095040
def tempOk (b : Nat) : Bool := decide (b % sgn32 < inf32)

end Go.Proofs.Ytnjpkfccncjkhaa

namespace Go.Proofs.Ytnjpkfccncjkhaa
open Go.RowKit

def tempQ (b : Nat) : Rat := if tempOk b = true then fval ((floatToFloatBits .f32 b .f64).getD 0) else 0
end Go.Proofs.Ytnjpkfccncjkhaa

namespace Go.Proofs.Ytnjpkfccncjkhaa
open Go.RowKit

def RdAt (w : World) (b o : Nat) (r : Int × Nat) : Prop := w.cell? ⟨b, o, none⟩ = some (.int .i64 r.1) ∧ w.cell? ⟨b, o + 1, none⟩ = some (.float .f32 r.2)
def LogOf (w : World) (v : Value) (ls : List (Int × Nat)) : Prop :=
 ∃ ao cap, v = .slice ao ls.length cap ∧ (0 < ls.length → ∃ b off, ao = some ⟨b, off, none⟩ ∧ b < w.heap.size ∧ ∀ i, i < ls.length → RdAt w b (off + i * 2) (ls.getD i (0, 0)))
theorem RdAt.below {w w' : World} {b o : Nat} {r : Int × Nat} (h : RdAt w b o r) (hb : Below w.heap.size w w') (hl : b < w.heap.size) : RdAt w' b o r :=
 ⟨(hb.cell (p := ⟨b, o, none⟩) hl).trans h.1, (hb.cell (p := ⟨b, o + 1, none⟩) hl).trans h.2⟩
theorem LogOf.below {w w' : World} {v : Value} {ls : List (Int × Nat)} (h : LogOf w v ls) (hb : Below w.heap.size w w') : LogOf w' v ls := by
 obtain ⟨ao, cap, rfl, h⟩ := h
 refine ⟨ao, cap, rfl, fun hl => ?_⟩
 obtain ⟨b, off, rfl, hlt, h⟩ := h hl
 exact ⟨b, off, rfl, Nat.lt_of_lt_of_le hlt hb.size, fun i hi => (h i hi).below hb hlt⟩

def rdErr (ls : List (Int × Nat)) (i : Nat) : Int :=
 if timeB (ls.getD i (0, 0)).1 = false ∨ tempOk (ls.getD i (0, 0)).2 = false then 1
 else if 0 < i ∧ (ls.getD i (0, 0)).1 ≤ (ls.getD (i - 1) (0, 0)).1 then 7 else 0
def logErr (ls : List (Int × Nat)) : Int := if 256 < ls.length then 4 else firstErr (rdErr ls) ls.length

end Go.Proofs.Ytnjpkfccncjkhaa

namespace Go.Proofs.Ytnjpkfccncjkhaa
open Go.RowKit

def bothI (f t a b : Int) : Int := max 0 (min t b - max f a)

end Go.Proofs.Ytnjpkfccncjkhaa

namespace Go.Proofs.Ytnjpkfccncjkhaa
open Go.RowKit

theorem firstErr_all {f : Nat → Int} {n : Nat} (h : firstErr f n = 0) : ∀ i, i < n → f i = 0 := by
 induction n with
 | zero => intro i hi; omega
 | succ n ih =>
  intro i hi
  have h0 : firstErr f n = 0 := by
   rcases Classical.em (firstErr f n = 0) with h1 | h1
   ·
    exact h1
   ·
    have := firstErr_stay h1 (Nat.le_succ n)
    rw [this] at h
    exact absurd h h1
  rw [firstErr_step h0] at h
  rcases Nat.lt_or_ge i n with h1 | h1
  ·
   exact ih h0 i h1
  ·
   obtain rfl : i = n := by omega
   exact h

theorem tab_ok {es : List (Rat × Int)} (h : tabErr es = 0) : 0 < es.length ∧ es.length ≤ 16 ∧ ∀ i, i < es.length → 0 ≤ (es.getD i (0, 0)).2 ∧ (es.getD i (0, 0)).2 ≤ 1000 := by
 unfold tabErr at h
 split at h
 ·
  omega
 ·
  rename_i hl
  refine ⟨by omega, by omega, fun i hi => ?_⟩
  have := firstErr_all h i hi
  unfold entErr at this
  split at this
  ·
   omega
  ·
   split at this
   ·
    omega
   ·
    omega

theorem rateUp_range {es : List (Rat × Int)} (h : ∀ i, i < es.length → 0 ≤ (es.getD i (0, 0)).2 ∧ (es.getD i (0, 0)).2 ≤ 1000) (T : Rat) : 0 ≤ rateUp es T ∧ rateUp es T ≤ 1000 := by
 have key : ∀ i, i ≤ es.length → 0 ≤ rateUp (es.take i) T ∧ rateUp (es.take i) T ≤ 1000 := by
  intro i
  induction i with
  | zero => intro _; simp [rateUp]
  | succ i ih =>
   intro hi
   rw [rateUp_take es T i (by omega)]
   split
   ·
    exact h i (by omega)
   ·
    exact ih (by omega)
 have := key es.length (Nat.le_refl _)
 rwa [List.take_length] at this

theorem log_ok {ls : List (Int × Nat)} (h : logErr ls = 0) : ls.length ≤ 256 ∧ ∀ i, i < ls.length → 0 ≤ (ls.getD i (0, 0)).1 ∧ (ls.getD i (0, 0)).1 ≤ 1073741824 ∧ tempOk (ls.getD i (0, 0)).2 = true := by
 unfold logErr at h
 split at h
 ·
  omega
 ·
  refine ⟨by omega, fun i hi => ?_⟩
  have := firstErr_all h i hi
  unfold rdErr at this
  split at this
  ·
   omega
  ·
   rename_i hn
   have h1 : timeB (ls.getD i (0, 0)).1 = true := by
    cases h : timeB (ls.getD i (0, 0)).1
    ·
     exact absurd (.inl h) hn
    ·
     rfl
   have h2 : tempOk (ls.getD i (0, 0)).2 = true := by
    cases h : tempOk (ls.getD i (0, 0)).2
    ·
     exact absurd (.inr h) hn
    ·
     rfl
   unfold timeB at h1
   simp at h1
   exact ⟨h1.1, h1.2, h2⟩

def hotI (es : List (Rat × Int)) : Int := (es.getD (es.length - 1) (0, 0)).2
def rateI (es : List (Rat × Int)) (gap : Int) (ls : List (Int × Nat)) (i : Nat) : Int :=
 if 0 < i ∧ (ls.getD i (0, 0)).1 - (ls.getD (i - 1) (0, 0)).1 ≤ gap then max (rateUp es (tempQ (ls.getD (i - 1) (0, 0)).2)) (rateUp es (tempQ (ls.getD i (0, 0)).2)) else hotI es
def lastT (ls : List (Int × Nat)) (i : Nat) : Int := if i = 0 then 0 else (ls.getD (i - 1) (0, 0)).1
structure GoodLog (es : List (Rat × Int)) (ls : List (Int × Nat)) (f t : Int) : Prop where
 tab : tabErr es = 0
 log : logErr ls = 0
 f0 : 0 ≤ f
 f1 : f ≤ 1073741824
 t0 : 0 ≤ t
 t1 : t ≤ 1073741824

theorem GoodLog.hot {es : List (Rat × Int)} {ls : List (Int × Nat)} {f t : Int} (h : GoodLog es ls f t) : 0 ≤ hotI es ∧ hotI es ≤ 1000 := by
 obtain ⟨h1, h2, h3⟩ := tab_ok h.tab
 exact h3 _ (by omega)
theorem GoodLog.up {es : List (Rat × Int)} {ls : List (Int × Nat)} {f t : Int} (h : GoodLog es ls f t) (T : Rat) : 0 ≤ rateUp es T ∧ rateUp es T ≤ 1000 := rateUp_range (tab_ok h.tab).2.2 T
theorem GoodLog.rate {es : List (Rat × Int)} {ls : List (Int × Nat)} {f t : Int} (h : GoodLog es ls f t) (gap : Int) (i : Nat) : 0 ≤ rateI es gap ls i ∧ rateI es gap ls i ≤ 1000 := by
 unfold rateI
 split
 ·
  have a := h.up (tempQ (ls.getD (i - 1) (0, 0)).2)
  have b := h.up (tempQ (ls.getD i (0, 0)).2)
  omega
 ·
  exact h.hot
theorem GoodLog.last {es : List (Rat × Int)} {ls : List (Int × Nat)} {f t : Int} (h : GoodLog es ls f t) (i : Nat) (hi : i ≤ ls.length) : 0 ≤ lastT ls i ∧ lastT ls i ≤ 1073741824 := by
 unfold lastT
 split
 ·
  omega
 ·
  have := (log_ok h.log).2 (i - 1) (by omega)
  omega
theorem GoodLog.both {es : List (Rat × Int)} {ls : List (Int × Nat)} {f t : Int} (h : GoodLog es ls f t) (a b : Int) : 0 ≤ bothI f t a b ∧ bothI f t a b ≤ 1073741824 := by
 have := h.f0
 have := h.t1
 unfold bothI
 omega
end Go.Proofs.Ytnjpkfccncjkhaa

namespace Go.Proofs.Ytnjpkfccncjkhaa
open Go.RowKit

theorem info_int : (Try.prog.info? 3).map (fun i => (i.zero, i.size, i.bytes)) = some (some (.int .i64 0), 1, 8) := by kernel_rfl
def idxCells (l : List Nat) : List Value := l.map (fun j : Nat => Value.int .i64 (j : Int))

theorem LRow.isRow {w : World} {base : Nat} {e : TypeId} {v : Value} {l : List Nat} (h : LRow w base e 1 v l.length (idxCells l)) : IsRow .i64 w v l := by
 rcases Nat.eq_zero_or_pos l.length with h0 | hp
 ·
  left
  have hl := List.eq_nil_of_length_eq_zero h0
  refine ⟨hl, ?_⟩
  rcases h.1.2 with ⟨rfl, _⟩ | ⟨g, cap, cur, rfl, _, _, _, hcm, _⟩
  ·
   exact ⟨_, _, rfl, by unfold maxLen; omega, fun _ => rfl⟩
  ·
   exact ⟨_, _, by rw [h0], hcm, by simp⟩
 ·
  obtain ⟨g, cap, rfl⟩ := ownsRow_some h.1 hp
  obtain ⟨ho, h1, h2, _⟩ := Own.of_ownsRow (k := .i64) (ds := l) rfl h.1
  exact ho.isRowCap cap h1 h2

theorem ownBlock_base {w : World} {base : Nat} {e : TypeId} {size : Nat} {v : Value} {n : Nat} {xs : List Value} (h : w.ownsRow base e size v n xs) : ∀ k, v.ownBlock = some k → base ≤ k := by
 intro k hk
 rcases h.2 with ⟨rfl, _⟩ | ⟨g, cap, cur, rfl, hb, _⟩
 ·
  simp [Value.ownBlock] at hk
 ·
  simp [Value.ownBlock] at hk
  omega

end Go.Proofs.Ytnjpkfccncjkhaa

namespace Go.Proofs.Ytnjpkfccncjkhaa
open Go.RowKit

theorem IsRat.grown {w w' : World} {v : Value} {q : Rat} {row : Option Nat} (h : IsRat w v q) (hg : w.grownBy w' row) (hr : ∀ g, row = some g → NoDig w g) : IsRat w' v q := by
 obtain ⟨vn, vd, rfl, h1, h2⟩ := h
 exact ⟨vn, vd, rfl, IsRow.grown (.inl rfl) h1 hg hr, IsRow.grown (.inl rfl) h2 hg hr⟩
theorem IsR.grown {w w' : World} {v : Value} {q : Rat} {row : Option Nat} (h : IsR w v q) (hg : w.grownBy w' row) (hr : ∀ g, row = some g → NoDig w g) : IsR w' v q := by
 obtain ⟨vn, vd, d', rfl, h1, h2, h3⟩ := h
 exact ⟨vn, vd, d', rfl, IsRow.grown (.inr rfl) h1 hg hr, IsRow.grown (.inr rfl) h2 hg hr, h3⟩

def TabRow (R : World → Value → Rat → Prop) (w : World) (xs : List Value) (es : List (Rat × Int)) : Prop :=
 xs.length = es.length * 4 ∧ ∀ j, j < es.length → ∃ v0 vn vd, xs[j * 4]? = some v0 ∧ xs[j * 4 + 1]? = some vn ∧ xs[j * 4 + 2]? = some vd ∧ xs[j * 4 + 3]? = some (.int .i64 (es.getD j (0, 0)).2) ∧ R w (.agg #[v0, vn, vd]) (es.getD j (0, 0)).1
theorem TabRow.mono {R : World → Value → Rat → Prop} {w w' : World} {xs : List Value} {es : List (Rat × Int)} (h : TabRow R w xs es) (hr : ∀ v q, R w v q → R w' v q) : TabRow R w' xs es :=
 ⟨h.1, fun j hj => by obtain ⟨v0, vn, vd, h0, h1, h2, h3, h4⟩ := h.2 j hj; exact ⟨v0, vn, vd, h0, h1, h2, h3, hr _ _ h4⟩⟩
theorem TabRow.nil (R : World → Value → Rat → Prop) (w : World) : TabRow R w [] [] := ⟨rfl, fun j hj => absurd hj (by simp)⟩
theorem TabRow.snoc {R : World → Value → Rat → Prop} {w : World} {xs : List Value} {es : List (Rat × Int)} (h : TabRow R w xs es) {v0 vn vd : Value} {q : Rat} {r : Int} (hq : R w (.agg #[v0, vn, vd]) q) :
  TabRow R w (xs ++ [v0, vn, vd, .int .i64 r]) (es ++ [(q, r)]) := by
 obtain ⟨hl, h⟩ := h
 refine ⟨by simp [hl]; omega, fun j hj => ?_⟩
 rcases Nat.lt_or_ge j es.length with h1 | h1
 ·
  obtain ⟨u0, un, ud, h0, h2, h3, h4, h5⟩ := h j h1
  have e : ∀ k, k < 4 → (xs ++ [v0, vn, vd, .int .i64 r])[j * 4 + k]? = xs[j * 4 + k]? := fun k hk => List.getElem?_append_left (by omega)
  have e2 : (es ++ [(q, r)]).getD j (0, 0) = es.getD j (0, 0) := by simp [List.getD, List.getElem?_append_left h1]
  rw [e2]
  exact ⟨u0, un, ud, by rw [← h0]; exact e 0 (by omega), by rw [← h2]; exact e 1 (by omega), by rw [← h3]; exact e 2 (by omega), by rw [← h4]; exact e 3 (by omega), h5⟩
 ·
  obtain rfl : j = es.length := by simp at hj; omega
  have e : ∀ k, (xs ++ [v0, vn, vd, .int .i64 r])[es.length * 4 + k]? = ([v0, vn, vd, .int .i64 r] : List Value)[k]? := fun k => by rw [List.getElem?_append_right (by omega), hl]; congr 1; omega
  have e2 : (es ++ [(q, r)]).getD es.length (0, 0) = (q, r) := by simp [List.getD]
  rw [e2]
  exact ⟨v0, vn, vd, e 0, e 1, e 2, e 3, hq⟩
theorem EntsOf.ofRow {R : World → Value → Rat → Prop} {w : World} {base : Nat} {e : TypeId} {v : Value} {xs : List Value} {es : List (Rat × Int)} (h : LRow w base e 4 v es.length xs) (ht : TabRow R w xs es) : EntsOf R w v es := by
 rcases Nat.eq_zero_or_pos es.length with h0 | hp
 ·
  rcases h.1.2 with ⟨rfl, _⟩ | ⟨g, cap, cur, rfl, _⟩
  ·
   exact ⟨none, 0, by rw [h0], fun h => absurd h (by omega)⟩
  ·
   exact ⟨_, _, rfl, fun h => absurd h (by omega)⟩
 ·
  obtain ⟨g, cap, rfl⟩ := ownsRow_some h.1 hp
  have hc : ∀ j u, xs[j]? = some u → w.cell? ((⟨g, 0, none⟩ : Addr).add j) = some u := h.1.cells (g := g) rfl
  have hlt : g < w.heap.size := (h.lt rfl).1
  refine ⟨_, _, rfl, fun _ => ⟨g, 0, rfl, hlt, fun i hi => ?_⟩⟩
  obtain ⟨v0, vn, vd, h0, h1, h2, h3, h4⟩ := ht.2 i hi
  have ea : ∀ j, (⟨g, 0, none⟩ : Addr).add j = ⟨g, 0 + j, none⟩ := fun j => by unfold Addr.add; split <;> simp_all
  refine ⟨v0, vn, vd, ?_, ?_, ?_, ?_, h4⟩
  ·
   rw [← ea]; exact hc _ _ h0
  ·
   rw [show 0 + i * 4 + 1 = 0 + (i * 4 + 1) by omega, ← ea]; exact hc _ _ h1
  ·
   rw [show 0 + i * 4 + 2 = 0 + (i * 4 + 2) by omega, ← ea]; exact hc _ _ h2
  ·
   rw [show 0 + i * 4 + 3 = 0 + (i * 4 + 3) by omega, ← ea]; exact hc _ _ h3

def LawAt (w : World) (b o : Nat) (t : Int × Int × Int) : Prop := w.cell? ⟨b, o, none⟩ = some (.int .i64 t.1) ∧ w.cell? ⟨b, o + 1, none⟩ = some (.int .i64 t.2.1) ∧ w.cell? ⟨b, o + 2, none⟩ = some (.int .i64 t.2.2)
def LawsOf (w : World) (v : Value) (ts : List (Int × Int × Int)) : Prop :=
 ∃ ao cap, v = .slice ao ts.length cap ∧ (0 < ts.length → ∃ b off, ao = some ⟨b, off, none⟩ ∧ b < w.heap.size ∧ ∀ i, i < ts.length → LawAt w b (off + i * 3) (ts.getD i (0, 0, 0)))
theorem LawAt.below {w w' : World} {b o : Nat} {r : Int × Int × Int} (h : LawAt w b o r) (hb : Below w.heap.size w w') (hl : b < w.heap.size) : LawAt w' b o r :=
 ⟨(hb.cell (p := ⟨b, o, none⟩) hl).trans h.1, (hb.cell (p := ⟨b, o + 1, none⟩) hl).trans h.2.1, (hb.cell (p := ⟨b, o + 2, none⟩) hl).trans h.2.2⟩
theorem LawsOf.below {w w' : World} {v : Value} {ps : List (Int × Int × Int)} (h : LawsOf w v ps) (hb : Below w.heap.size w w') : LawsOf w' v ps := by
 obtain ⟨ao, cap, rfl, h⟩ := h
 refine ⟨ao, cap, rfl, fun hl => ?_⟩
 obtain ⟨b, off, rfl, hlt, h⟩ := h hl
 exact ⟨b, off, rfl, Nat.lt_of_lt_of_le hlt hb.size, fun i hi => (h i hi).below hb hlt⟩
end Go.Proofs.Ytnjpkfccncjkhaa

namespace Go.Proofs.Ytnjpkfccncjkhaa
open Go.ChangeShapes Go.WideShapes Go.ChangeAt Go.RowKit

section
variable {H : Type} {enc : TypeId × Value → H} {P : Program} {w : World} {base : Nat} {spare : Nat → Bool} {held : Bool}
theorem trod_float {t : TypeId} {fuel : Nat} {cs : List Value} {x : DataW H × List MemPlace} {k : FloatKind} (ht : P.underlying t = some (.float k)) (h : DataW.trod enc P w base spare held fuel t cs = some x) :
  ∃ n, cs = [.float k n] ∧ x = (.lit (.float k n), []) ∧ (Lit.float k n).wf = true := by
 cases fuel with
 | zero => simp [DataW.trod] at h
 | succ n =>
  unfold DataW.trod at h
  rw [ht] at h
  split at h <;> simp_all

theorem open_rows {r : Reach} {b0 : Nat} {t e : TypeId} {k : Nat} {v : Value} {d : DataW H} {p : List MemPlace} (ht : P.underlying t = some (.slice e)) (hk : P.cellsOf e = k) (hk0 : 0 < k) (Law : List Value → Prop)
  (hlaw : ∀ n cs y, DataW.trod enc P w 0 (fun _ => true) true n e cs = some y → Law cs) (hv : Value.okWide P w r b0 t v) (h : DataW.Trod enc P w 0 (fun _ => true) true t v d p) :
  ∃ ao len cap, v = .slice ao len cap ∧ len ≤ cap ∧ cap ≤ maxLen ∧ (0 < len → ∃ b off, ao = some ⟨b, off, none⟩ ∧ b < w.heap.size ∧ ∀ i, i < len → ∃ cs : List Value, cs.length = k ∧ Law cs ∧ ∀ j, j < k → w.cell? ⟨b, off + i * k + j, none⟩ = cs[j]?) := by
 obtain ⟨ao, len, cap, rfl⟩ := okWide_slice ht hv
 refine ⟨ao, len, cap, rfl, ?_⟩
 obtain ⟨fuel, hf⟩ := h
 rcases Deep.open_slice ht hf with ⟨hcs, _⟩ | ⟨a, len', cap', m, n, D, Pl, hcs, _, hl, hm, hmm, _, hi⟩
 ·
  simp [Value.cells] at hcs
  obtain ⟨rfl, rfl, rfl⟩ := hcs
  exact ⟨Nat.le_refl _, by unfold maxLen; omega, fun h => absurd h (by omega)⟩
 ·
  simp [Value.cells] at hcs
  obtain ⟨rfl, rfl, rfl⟩ := hcs
  refine ⟨hl, hm, fun hlen => ?_⟩
  simp only [if_true] at hmm
  subst hmm
  have key : ∀ i, i < len → ∃ cs : List Value, cs.length = k ∧ Law cs ∧ ∀ j, j < k → w.cell? (a.add (i * k + j)) = cs[j]? := by
   intro i hlt
   obtain ⟨cs', hc, hT⟩ := hi i (by omega)
   rw [hk] at hc
   obtain ⟨_, hcl, hat⟩ := World.cells?_some hc
   exact ⟨cs', hcl, hlaw _ _ _ hT, fun j hj => by rw [← hat j hj, Deep.add_add]⟩
  obtain ⟨b, off, spot⟩ := a
  have hsp : spot = none := by
   obtain ⟨cs, hcl, _, hat⟩ := key 0 hlen
   have h0 := hat 0 hk0
   rw [List.getElem?_eq_getElem (by omega)] at h0
   have := World.cell?_spot h0
   simpa [Addr.add] using this
  subst hsp
  have ea : ∀ j, (⟨b, off, none⟩ : Addr).add j = ⟨b, off + j, none⟩ := fun j => by unfold Addr.add; split <;> simp_all
  refine ⟨b, off, rfl, ?_, fun i hlt => ?_⟩
  ·
   obtain ⟨cs, hcl, _, hat⟩ := key 0 hlen
   have h0 := hat 0 hk0
   rw [List.getElem?_eq_getElem (by omega), ea] at h0
   exact World.block_lt_of_cell? (h := h0)
  ·
   obtain ⟨cs, hcl, hL, hat⟩ := key i hlt
   exact ⟨cs, hcl, hL, fun j hj => by rw [← hat j hj, ea, Nat.add_assoc]⟩
end

theorem choose_list {α : Type} (n : Nat) (d : α) (p : Nat → α → Prop) (h : ∀ i, i < n → ∃ x, p i x) : ∃ l : List α, l.length = n ∧ ∀ i, i < n → p i (l.getD i d) := by
 have h2 : ∀ i, ∃ x, i < n → p i x := fun i => by
  by_cases hi : i < n
  ·
   obtain ⟨x, hx⟩ := h i hi
   exact ⟨x, fun _ => hx⟩
  ·
   exact ⟨d, fun h => absurd h hi⟩
 refine ⟨(List.range n).map fun i => Classical.choose (h2 i), by simp, fun i hi => ?_⟩
 have e : ((List.range n).map fun i => Classical.choose (h2 i)).getD i d = Classical.choose (h2 i) := by simp [hi]
 rw [e]
 exact Classical.choose_spec (h2 i) hi

section
variable {H : Type} {enc : TypeId × Value → H} {w : World}
end

theorem own_knob : ownKnob Try.prog.godebug = none := by kernel_rfl
theorem laid_out : laidOutB Try.prog = true := by kernel_rfl

end Go.Proofs.Ytnjpkfccncjkhaa

namespace Go.Proofs.Ytnjpkfccncjkhaa
open Go.ChangeShapes Go.WideShapes Go.ChangeAt Go.RowKit

inductive Leaf where
 | int (k : IntKind) | float (k : FloatKind) | bool | string
def leafOk : Leaf → Value → Prop
 | .int k, v => ∃ n, v = .int k n ∧ (Lit.int k n).wf = true
 | .float k, v => ∃ n, v = .float k n ∧ (Lit.float k n).wf = true
 | .bool, v => ∃ b, v = .bool b
 | .string, v => ∃ s : ByteArray, v = .string s ∧ s.size ≤ maxLen
def allLeaf : List Leaf → List Value → Prop
 | [], [] => True
 | l :: ls, v :: vs => leafOk l v ∧ allLeaf ls vs
 | _, _ => False
theorem allLeaf_append : ∀ {ls : List Leaf} {vs : List Value} {ls' : List Leaf} {vs' : List Value}, allLeaf ls vs → allLeaf ls' vs' → allLeaf (ls ++ ls') (vs ++ vs')
 | [], [], _, _, _, h => h
 | _ :: _, _ :: _, _, _, ⟨h1, h2⟩, h => ⟨h1, allLeaf_append h2 h⟩
section
variable (P : Program)
def flatFs (fl : TypeId → Option (List Leaf)) : List Field → Nat → Option (List Leaf)
 | [], _ => some []
 | f :: fs, o => if f.offset = o then (fl f.type).bind fun l => if P.cellsOf f.type = l.length then (flatFs fl fs (o + l.length)).map (l ++ ·) else none else none
def flatN (l : List Leaf) : Nat → List Leaf
 | 0 => []
 | n + 1 => flatN l n ++ l
def flat : Nat → TypeId → Option (List Leaf)
 | 0, _ => none
 | n + 1, t => match P.underlying t with
  | some .bool => some [.bool]
  | some (.int k) => some [.int k]
  | some (.float k) => some [.float k]
  | some .string => some [.string]
  | some (.struct fs) => (flatFs P (flat n) fs.toList 0).bind fun l => if P.cellsOf t = l.length then some l else none
  | some (.array m e) => (flat n e).bind fun l => if P.cellsOf e = l.length ∧ P.cellsOf t = m * l.length then some (flatN l m) else none
  | _ => none
end
section
variable {H : Type} {enc : TypeId × Value → H} {P : Program} {w : World}
theorem flatFs_law (fl : TypeId → Option (List Leaf)) (n : Nat) (cs : List Value) (ih : ∀ t l cs y, fl t = some l → DataW.trod enc P w 0 (fun _ => true) true n t cs = some y → allLeaf l cs) :
  ∀ (fs : List Field) (o : Nat) (ls : List Leaf), flatFs P fl fs o = some ls → (∀ f ∈ fs, ∃ y, DataW.trod enc P w 0 (fun _ => true) true n f.type ((cs.drop f.offset).take (P.cellsOf f.type)) = some y) →
   allLeaf ls ((cs.drop o).take ls.length)
 | [], o, ls, h, _ => by
  simp [flatFs] at h
  subst h
  simp [allLeaf]
 | f :: fs, o, ls, h, hf => by
  unfold flatFs at h
  split at h
  ·
   rename_i ho
   subst ho
   rw [Option.bind_eq_some_iff] at h
   obtain ⟨l, h1, h2⟩ := h
   split at h2
   ·
    rename_i hc
    rw [Option.map_eq_some_iff] at h2
    obtain ⟨l2, h3, rfl⟩ := h2
    obtain ⟨y, hy⟩ := hf f (by simp)
    have a1 := ih _ _ _ _ h1 hy
    rw [hc] at a1
    have a2 := flatFs_law fl n cs ih fs _ _ h3 (fun g hg => hf g (by simp [hg]))
    rw [List.length_append, List.take_add, List.drop_drop]
    exact allLeaf_append a1 a2
   ·
    cases h2
  ·
   cases h
theorem trod_array {t e : TypeId} {fuel m : Nat} {cs : List Value} {x : DataW H × List MemPlace} (ht : P.underlying t = some (.array m e)) (h : DataW.trod enc P w 0 (fun _ => true) true fuel t cs = some x) :
  ∃ n, fuel = n + 1 ∧ cs.length = P.cellsOf t ∧ ∀ i, i < m → ∃ y, DataW.trod enc P w 0 (fun _ => true) true n e ((cs.drop (i * P.cellsOf e)).take (P.cellsOf e)) = some y := by
 cases fuel with
 | zero => simp [DataW.trod] at h
 | succ n =>
  unfold DataW.trod at h
  rw [ht] at h
  split at h <;> simp_all
  obtain ⟨hl, xs, hp, hd⟩ := h
  intro i hi
  have hlen := mapM_some_length hp
  have := mapM_some_get hp i i (by simp [hi])
  rw [this]
  simp at hlen
  exact ⟨xs[i].1, xs[i].2, by simp [hlen, hi]⟩
theorem flat_law : ∀ (k : Nat) (t : TypeId) (ls : List Leaf) (n : Nat) (cs : List Value) (y : DataW H × List MemPlace), flat P k t = some ls → DataW.trod enc P w 0 (fun _ => true) true n t cs = some y → allLeaf ls cs := by
 intro k
 induction k with
 | zero => intro t ls n cs y h; simp [flat] at h
 | succ k ih =>
  intro t ls n cs y h ht
  unfold flat at h
  split at h
  ·
   rename_i hu
   obtain ⟨b, rfl, _⟩ := DataW.trod_bool hu ht
   obtain rfl : [Leaf.bool] = ls := by simpa using h
   exact ⟨⟨b, rfl⟩, trivial⟩
  ·
   rename_i kk hu
   obtain ⟨b, rfl, _, hw⟩ := DataW.trod_int hu ht
   obtain rfl : [Leaf.int kk] = ls := by simpa using h
   exact ⟨⟨b, rfl, hw⟩, trivial⟩
  ·
   rename_i kk hu
   obtain ⟨b, rfl, _, hw⟩ := trod_float hu ht
   obtain rfl : [Leaf.float kk] = ls := by simpa using h
   exact ⟨⟨b, rfl, hw⟩, trivial⟩
  ·
   rename_i hu
   obtain ⟨s, rfl, _, hw⟩ := DataW.trod_string hu ht
   obtain rfl : [Leaf.string] = ls := by simpa using h
   exact ⟨⟨s, rfl, hw⟩, trivial⟩
  ·
   rename_i fs hu
   rw [Option.bind_eq_some_iff] at h
   obtain ⟨l, h1, h2⟩ := h
   split at h2
   ·
    rename_i hc
    obtain rfl : l = ls := by simpa using h2
    obtain ⟨xs, m, _, _, hcl, hxl, hf⟩ := DataW.trod_struct hu ht
    have := flatFs_law (enc := enc) (w := w) (flat P k) m cs (fun t l cs y a b => ih t l m cs y a b) fs.toList 0 l h1 (fun f hf' => by
     obtain ⟨i, hi, rfl⟩ := List.getElem_of_mem hf'
     simp at hi
     have e := hf i fs[i] (by simp [hi])
     exact ⟨xs[i], by simp at e ⊢; rw [e]; simp [hxl, hi]⟩)
    rw [List.drop_zero, List.take_of_length_le (by rw [hcl, hc]; exact Nat.le_refl _)] at this
    exact this
   ·
    cases h2
  ·
   rename_i m e hu
   rw [Option.bind_eq_some_iff] at h
   obtain ⟨l, h1, h2⟩ := h
   split at h2
   ·
    rename_i hc
    obtain ⟨hc1, hc2⟩ := hc
    obtain rfl : flatN l m = ls := by simpa using h2
    obtain ⟨n', _, hcl, hE⟩ := trod_array hu ht
    have key : ∀ j, j ≤ m → allLeaf (flatN l j) (cs.take (j * l.length)) := by
     intro j hj
     induction j with
     | zero => simp [flatN, allLeaf]
     | succ j ihj =>
      obtain ⟨y, hy⟩ := hE j (by omega)
      have a1 := ih _ _ _ _ _ h1 hy
      rw [hc1] at a1
      rw [Nat.succ_mul, List.take_add]
      exact allLeaf_append (ihj (by omega)) a1
    have := key m (Nat.le_refl _)
    rw [List.take_of_length_le (by rw [hcl, hc2]; exact Nat.le_refl _)] at this
    exact this
   ·
    cases h2
  ·
   cases h

theorem open_flats {r : Reach} {b0 : Nat} {t e : TypeId} {k : Nat} {ls : List Leaf} {v : Value} {d : DataW H} {p : List MemPlace} (ht : P.underlying t = some (.slice e)) (hk : P.cellsOf e = k) (hk0 : 0 < k) (hfl : flat P 8 e = some ls)
  (hv : Value.okWide P w r b0 t v) (h : DataW.Trod enc P w 0 (fun _ => true) true t v d p) :
  ∃ ao len cap, v = .slice ao len cap ∧ len ≤ cap ∧ cap ≤ maxLen ∧ (0 < len → ∃ b off, ao = some ⟨b, off, none⟩ ∧ b < w.heap.size ∧ ∀ i, i < len → ∃ cs : List Value, cs.length = k ∧ allLeaf ls cs ∧ ∀ j, j < k → w.cell? ⟨b, off + i * k + j, none⟩ = cs[j]?) :=
 open_rows ht hk hk0 (allLeaf ls) (fun n cs y hy => flat_law 8 e ls n cs y hfl hy) hv h
end

end Go.Proofs.Ytnjpkfccncjkhaa

namespace Go.Proofs.Ytnjpkfccncjkhaa

/-! ### Sums -/
def sumZ (f : Nat → Int) : Nat → Int
 | 0 => 0
 | k + 1 => sumZ f k + f k
theorem sumZ_zero (f : Nat → Int) (n : Nat) (h : ∀ i, i < n → f i = 0) : sumZ f n = 0 := by
 induction n with
 | zero => rfl
 | succ n ih => simp only [sumZ]; rw [ih (fun i hi => h i (by omega)), h n (by omega)]; rfl
theorem sumZ_add (f g : Nat → Int) (n : Nat) : sumZ (fun i => f i + g i) n = sumZ f n + sumZ g n := by
 induction n with
 | zero => rfl
 | succ n ih => simp only [sumZ]; rw [ih]; omega
theorem sumZ_mul (c : Int) (f : Nat → Int) (n : Nat) : sumZ (fun i => c * f i) n = c * sumZ f n := by
 induction n with
 | zero => simp [sumZ]
 | succ n ih => simp only [sumZ]; rw [ih, Int.mul_add]
theorem sumZ_le (f g : Nat → Int) (n : Nat) (h : ∀ i, i < n → f i ≤ g i) : sumZ f n ≤ sumZ g n := by
 induction n with
 | zero => exact Int.le_refl _
 | succ n ih => have := ih (fun i hi => h i (by omega)); have := h n (by omega); simp only [sumZ]; omega
theorem sumZ_congr (f g : Nat → Int) (n : Nat) (h : ∀ i, i < n → f i = g i) : sumZ f n = sumZ g n :=
 Int.le_antisymm (sumZ_le f g n fun i hi => by rw [h i hi]; exact Int.le_refl _) (sumZ_le g f n fun i hi => by rw [h i hi]; exact Int.le_refl _)
theorem sumZ_const (c : Int) (n : Nat) : sumZ (fun _ => c) n = n * c := by
 induction n with
 | zero => simp [sumZ]
 | succ n ih => simp only [sumZ]; rw [ih]; rw [show ((n + 1 : Nat) : Int) = n + 1 by omega, Int.add_mul]; omega
theorem sumZ_swap (f : Nat → Nat → Int) (m n : Nat) : sumZ (fun i => sumZ (fun t => f i t) n) m = sumZ (fun t => sumZ (fun i => f i t) m) n := by
 induction m with
 | zero => simp only [sumZ]; exact (sumZ_zero _ _ fun _ _ => rfl).symm
 | succ m ih => simp only [sumZ]; rw [ih, ← sumZ_add]
theorem sumZ_nonneg (f : Nat → Int) (n : Nat) (h : ∀ i, i < n → 0 ≤ f i) : 0 ≤ sumZ f n := by
 have := sumZ_le (fun _ => 0) f n h
 rw [sumZ_const] at this
 omega
theorem sumZ_one (f : Nat → Bool) (n : Nat) (h : ∀ i j, i < n → j < i → f i = true → f j = true → False) : sumZ (fun i => if f i = true then 1 else 0) n ≤ 1 := by
 have key : ∀ k, k ≤ n → sumZ (fun i => if f i = true then 1 else 0) k ≤ 1 ∧ ((∀ j, j < k → f j = false) → sumZ (fun i => if f i = true then 1 else 0) k = 0) := by
  intro k hk
  induction k with
  | zero => simp [sumZ]
  | succ k ih =>
   obtain ⟨h1, h2⟩ := ih (by omega)
   simp only [sumZ]
   by_cases hf : f k = true
   ·
    have h0 := h2 (fun j hj => by
     cases hj2 : f j
     ·
      rfl
     ·
      exact absurd (h k j (by omega) hj hf hj2) id)
    rw [h0, if_pos hf]
    exact ⟨by omega, fun h3 => by rw [h3 k (by omega)] at hf; cases hf⟩
   ·
    rw [if_neg hf]
    exact ⟨by omega, fun h3 => by rw [h2 (fun j hj => h3 j (by omega))]; rfl⟩
 exact (key n (Nat.le_refl _)).1
theorem sumZ_span (a l : Int) (n : Nat) (h0 : 0 ≤ a) (h1 : 0 ≤ l) (h2 : a + l ≤ n) : sumZ (fun t => if a ≤ (t : Int) ∧ (t : Int) < a + l then 1 else 0) n = l := by
 have key : ∀ k : Nat, k ≤ n → sumZ (fun t => if a ≤ (t : Int) ∧ (t : Int) < a + l then 1 else 0) k = max 0 (min (k : Int) (a + l) - a) := by
  intro k hk
  induction k with
  | zero => simp only [sumZ]; omega
  | succ k ih =>
   simp only [sumZ]
   rw [ih (by omega)]
   split <;> omega
 rw [key n (Nat.le_refl _)]
 omega

/-! ### No accepted placement is shorter -/
section
variable {n E w : Nat} {X Y L W : Nat → Int}
theorem area_le (hx : ∀ i, i < n → 0 ≤ X i ∧ 0 ≤ L i ∧ X i + L i ≤ E) (hy : ∀ i, i < n → 0 ≤ Y i ∧ 0 ≤ W i ∧ Y i + W i ≤ w)
  (ha : ∀ i k, i < n → k < i → ¬ (X i < X k + L k ∧ X k < X i + L i ∧ Y i < Y k + W k ∧ Y k < Y i + W i)) : sumZ (fun i => L i * W i) n ≤ (E : Int) * w := by
 let fx : Nat → Nat → Int := fun i x => if X i ≤ (x : Int) ∧ (x : Int) < X i + L i then 1 else 0
 let fy : Nat → Nat → Int := fun i y => if Y i ≤ (y : Int) ∧ (y : Int) < Y i + W i then 1 else 0
 have e1 : sumZ (fun i => L i * W i) n = sumZ (fun i => sumZ (fun x => sumZ (fun y => fx i x * fy i y) w) E) n := by
  refine sumZ_congr _ _ _ fun i hi => ?_
  have a1 : sumZ (fx i) E = L i := sumZ_span _ _ _ (hx i hi).1 (hx i hi).2.1 (hx i hi).2.2
  have a2 : sumZ (fy i) w = W i := sumZ_span _ _ _ (hy i hi).1 (hy i hi).2.1 (hy i hi).2.2
  have a3 : sumZ (fun x => sumZ (fun y => fx i x * fy i y) w) E = sumZ (fun x => W i * fx i x) E := sumZ_congr _ _ _ fun x _ => by
   show sumZ (fun y => fx i x * fy i y) w = W i * fx i x
   rw [sumZ_mul, a2, Int.mul_comm]
  rw [a3, sumZ_mul, a1, Int.mul_comm]
 rw [e1, sumZ_swap (fun i x => sumZ (fun y => fx i x * fy i y) w) n E]
 have e2 : sumZ (fun x => sumZ (fun i => sumZ (fun y => fx i x * fy i y) w) n) E ≤ sumZ (fun _ => (w : Int)) E := by
  refine sumZ_le _ _ _ fun x _ => ?_
  rw [sumZ_swap (fun i y => fx i x * fy i y) n w]
  have e3 : sumZ (fun y => sumZ (fun i => fx i x * fy i y) n) w ≤ sumZ (fun _ => (1 : Int)) w := by
   refine sumZ_le _ _ _ fun y _ => ?_
   have e4 : sumZ (fun i => fx i x * fy i y) n = sumZ (fun i => if decide (X i ≤ (x : Int) ∧ (x : Int) < X i + L i ∧ Y i ≤ (y : Int) ∧ (y : Int) < Y i + W i) = true then 1 else 0) n := by
    refine sumZ_congr _ _ _ fun i _ => ?_
    show (if X i ≤ (x : Int) ∧ (x : Int) < X i + L i then (1 : Int) else 0) * (if Y i ≤ (y : Int) ∧ (y : Int) < Y i + W i then 1 else 0) = _
    by_cases c1 : X i ≤ (x : Int) ∧ (x : Int) < X i + L i
    ·
     by_cases c2 : Y i ≤ (y : Int) ∧ (y : Int) < Y i + W i
     ·
      rw [if_pos c1, if_pos c2, if_pos (decide_eq_true ⟨c1.1, c1.2, c2.1, c2.2⟩)]; rfl
     ·
      rw [if_pos c1, if_neg c2, if_neg (fun h => c2 ⟨(of_decide_eq_true h).2.2.1, (of_decide_eq_true h).2.2.2⟩)]; rfl
    ·
     rw [if_neg c1, Int.zero_mul, if_neg (fun h => c1 ⟨(of_decide_eq_true h).1, (of_decide_eq_true h).2.1⟩)]
   rw [e4]
   refine sumZ_one _ _ fun i k hi hk h1 h2 => ?_
   have h1 := of_decide_eq_true h1
   have h2 := of_decide_eq_true h2
   exact ha i k hi hk ⟨by omega, by omega, by omega, by omega⟩
  rw [sumZ_const] at e3
  omega
 rw [sumZ_const] at e2
 exact e2
theorem alone_le (hx : ∀ i, i < n → 0 ≤ X i ∧ 0 ≤ L i ∧ X i + L i ≤ E) (hy : ∀ i, i < n → 0 ≤ Y i ∧ 0 ≤ W i ∧ Y i + W i ≤ w)
  (ha : ∀ i k, i < n → k < i → ¬ (X i < X k + L k ∧ X k < X i + L i ∧ Y i < Y k + W k ∧ Y k < Y i + W i)) : sumZ (fun i => if 2 * W i > (w : Int) then L i else 0) n ≤ (E : Int) := by
 have e1 : sumZ (fun i => if 2 * W i > (w : Int) then L i else 0) n = sumZ (fun i => sumZ (fun x => if decide (2 * W i > (w : Int) ∧ X i ≤ (x : Int) ∧ (x : Int) < X i + L i) = true then 1 else 0) E) n := by
  refine sumZ_congr _ _ _ fun i hi => ?_
  by_cases c : 2 * W i > (w : Int)
  ·
   rw [if_pos c]
   have a1 := sumZ_span _ _ _ (hx i hi).1 (hx i hi).2.1 (hx i hi).2.2
   refine a1.symm.trans (sumZ_congr _ _ _ fun x _ => ?_)
   by_cases c1 : X i ≤ (x : Int) ∧ (x : Int) < X i + L i
   ·
    rw [if_pos c1, if_pos (decide_eq_true ⟨c, c1⟩)]
   ·
    rw [if_neg c1, if_neg (fun h => c1 (of_decide_eq_true h).2)]
  ·
   rw [if_neg c]
   exact (sumZ_zero _ _ fun x _ => by rw [if_neg (fun h => c (of_decide_eq_true h).1)]).symm
 rw [e1, sumZ_swap]
 have e2 : sumZ (fun x => sumZ (fun i => if decide (2 * W i > (w : Int) ∧ X i ≤ (x : Int) ∧ (x : Int) < X i + L i) = true then (1 : Int) else 0) n) E ≤ sumZ (fun _ => (1 : Int)) E := by
  refine sumZ_le _ _ _ fun x _ => sumZ_one _ _ fun i k hi hk h1 h2 => ?_
  have h1 := of_decide_eq_true h1
  have h2 := of_decide_eq_true h2
  have := hy i hi
  have := hy k (by omega)
  exact ha i k hi hk ⟨by omega, by omega, by omega, by omega⟩
 rw [sumZ_const] at e2
 omega
end

/-! ### Shelves -/
def gP (l : List (Int × Int)) (i : Nat) : Int × Int := l.getD i (0, 0)
theorem gP_set (l : List (Int × Int)) (b : Nat) (x : Int × Int) (k : Nat) (hb : b < l.length) : gP (l.set b x) k = if k = b then x else gP l k := by
 simp only [gP, List.getD, List.getElem?_set]
 by_cases h : b = k
 ·
  subst h; simp [hb]
 ·
  have h2 : ¬ k = b := fun e => h e.symm
  simp [h, h2]
theorem gP_app (l : List (Int × Int)) (x : Int × Int) (k : Nat) (hk : k ≤ l.length) : gP (l ++ [x]) k = if k = l.length then x else gP l k := by
 simp only [gP, List.getD, List.getElem?_append]
 by_cases h : k = l.length
 ·
  subst h; simp
 ·
  rw [if_pos (by omega), if_neg h]
theorem mul_le3 {a b c : Int} (h : a ≤ b) (hc : 0 ≤ c) : a * c ≤ b * c := Int.mul_le_mul_of_nonneg_right h hc
def areaU (l : List (Int × Int)) (ord : Nat → Nat) (m : Nat) : Int := sumZ (fun j => (gP l (ord j)).1 * (gP l (ord j)).2) m
structure NestInv (l : List (Int × Int)) (w : Int) (ord : Nat → Nat) (m : Nat) (sh out : List (Int × Int)) (e : Int) : Prop where
 outlen : out.length = l.length
 some : 0 < m ↔ 0 < sh.length
 few : sh.length ≤ m
 ex : ∃ (s : Nat → Nat) (h : Nat → Int) (B aL : Int),
  (∀ k, k < sh.length → 0 ≤ (gP sh k).1 ∧ 1 ≤ (gP sh k).2 ∧ (gP sh k).2 ≤ w ∧ 1 ≤ h k ∧ (gP sh k).1 + h k ≤ e) ∧
  (∀ k k', k < k' → k' < sh.length → (gP sh k).1 + h k ≤ (gP sh k').1) ∧
  (∀ j, j < m → s j < sh.length ∧ (gP out (ord j)).1 = (gP sh (s j)).1 ∧ 0 ≤ (gP out (ord j)).2 ∧ (gP out (ord j)).2 + (gP l (ord j)).2 ≤ (gP sh (s j)).2 ∧ (gP l (ord j)).1 ≤ h (s j)) ∧
  (∀ j j', j < m → j' < j → s j = s j' → (gP out (ord j')).2 + (gP l (ord j')).2 ≤ (gP out (ord j)).2) ∧
  (0 < m → ∃ j, j < m ∧ (gP out (ord j)).1 + (gP l (ord j)).1 = e) ∧ (m = 0 → e = 0) ∧
  (w * (e - (gP l (ord 0)).1) ≤ B ∨ m = 0) ∧ B + aL ≤ 2 * areaU l ord m ∧
  (∀ q, 0 ≤ q → (∀ j, j < m → q ≤ (gP l (ord j)).1) → 0 < sh.length → (gP sh (sh.length - 1)).2 * q ≤ aL) ∧
  (∀ q, (∀ j, j < m → q ≤ (gP l (ord j)).1) → ∀ k, k < sh.length → q ≤ h k)
section
variable {l : List (Int × Int)} {w : Int} {ord : Nat → Nat} {m : Nat} {sh out : List (Int × Int)} {e : Int}
theorem nest_zero (l : List (Int × Int)) (w : Int) (ord : Nat → Nat) (out : List (Int × Int)) (h : out.length = l.length) : NestInv l w ord 0 [] out 0 := by
 refine ⟨h, by simp, by simp, fun _ => 0, fun _ => 0, 0, 0, fun k hk => absurd hk (by simp), fun k k' _ hk => absurd hk (by simp), fun j hj => by omega, fun j j' hj => by omega, fun h => by omega, fun _ => rfl, .inr rfl, ?_, fun q _ _ h => absurd h (by simp), fun q _ k hk => absurd hk (by simp)⟩
 show (0 : Int) + 0 ≤ 2 * 0
 omega
theorem nest_fit (H : NestInv l w ord m sh out e) (hi : ord m < l.length) (hinj : ∀ j, j < m → ord j ≠ ord m) (h1 : 1 ≤ (gP l (ord m)).1) (h2 : 1 ≤ (gP l (ord m)).2) (hd : ∀ j, j < m → (gP l (ord m)).1 ≤ (gP l (ord j)).1)
  {k : Nat} (hk : k < sh.length) (hf : (gP sh k).2 + (gP l (ord m)).2 ≤ w) :
  NestInv l w ord (m + 1) (sh.set k ((gP sh k).1, (gP sh k).2 + (gP l (ord m)).2)) (out.set (ord m) (gP sh k)) e := by
 obtain ⟨ol, so, few, s, h, B, aL, a1, a2, a3, a4, a5, a6, a7, a8, a9, a10⟩ := H
 have hm : 0 < m := so.2 (by omega)
 have hio : ord m < out.length := by rw [ol]; exact hi
 have eo : ∀ j, j < m → gP (out.set (ord m) (gP sh k)) (ord j) = gP out (ord j) := fun j hj => by rw [gP_set _ _ _ _ hio, if_neg (hinj j hj)]
 have en : gP (out.set (ord m) (gP sh k)) (ord m) = gP sh k := by rw [gP_set _ _ _ _ hio, if_pos rfl]
 have es : ∀ q, gP (sh.set k ((gP sh k).1, (gP sh k).2 + (gP l (ord m)).2)) q = if q = k then ((gP sh k).1, (gP sh k).2 + (gP l (ord m)).2) else gP sh q := fun q => gP_set _ _ _ _ hk
 have e1 : ∀ q, (gP (sh.set k ((gP sh k).1, (gP sh k).2 + (gP l (ord m)).2)) q).1 = (gP sh q).1 := fun q => by
  rw [es q]; split
  ·
   rename_i c; rw [c]
  ·
   rfl
 have e2 : ∀ q, (gP (sh.set k ((gP sh k).1, (gP sh k).2 + (gP l (ord m)).2)) q).2 = (gP sh q).2 + if q = k then (gP l (ord m)).2 else 0 := fun q => by
  rw [es q]; split
  ·
   rename_i c; rw [c]
  ·
   simp
 have hk1 := a1 k hk
 have ea : areaU l ord (m + 1) = areaU l ord m + (gP l (ord m)).1 * (gP l (ord m)).2 := rfl
 have hpos : 0 ≤ (gP l (ord m)).1 * (gP l (ord m)).2 := Int.mul_nonneg (by omega) (by omega)
 have hL : (gP l (ord m)).1 ≤ h k := a10 _ hd k hk
 have hlen : (sh.set k ((gP sh k).1, (gP sh k).2 + (gP l (ord m)).2)).length = sh.length := by simp
 generalize sh.set k ((gP sh k).1, (gP sh k).2 + (gP l (ord m)).2) = sh' at *
 have hol : (out.set (ord m) (gP sh k)).length = out.length := by simp
 generalize out.set (ord m) (gP sh k) = out' at *
 have ss : ∀ j, (if j = m then k else s j) = if j = m then k else s j := fun _ => rfl
 refine ⟨by rw [hol, ol], by rw [hlen]; omega, by rw [hlen]; omega, fun j => if j = m then k else s j, h, (if k = sh.length - 1 then B else B + (gP l (ord m)).1 * (gP l (ord m)).2), (if k = sh.length - 1 then aL + (gP l (ord m)).1 * (gP l (ord m)).2 else aL), ?_, ?_, ?_, ?_, ?_, ?_, ?_, ?_, ?_, ?_⟩
 ·
  intro q hq
  rw [hlen] at hq
  have := a1 q hq
  rw [e1, e2]
  refine ⟨this.1, ?_, ?_, this.2.2.2⟩
  ·
   split <;> omega
  ·
   split
   ·
    rename_i c; rw [c]; omega
   ·
    omega
 ·
  intro q q' hqq hq'
  rw [hlen] at hq'
  rw [e1, e1]
  exact a2 q q' hqq hq'
 ·
  intro j hj
  dsimp only
  rw [hlen, e1, e2]
  by_cases c : j = m
  ·
   subst c
   rw [en]
   simp only [if_true]
   exact ⟨hk, by first | trivial | rfl, by omega, by omega, hL⟩
  ·
   have := a3 j (by omega)
   rw [if_neg c, eo j (by omega)]
   refine ⟨this.1, this.2.1, this.2.2.1, ?_, this.2.2.2.2⟩
   split <;> omega
 ·
  intro j j' hj hjj hs
  dsimp only at hs
  have cj' : ¬ j' = m := by omega
  rw [if_neg cj'] at hs
  rw [eo j' (by omega)]
  by_cases c : j = m
  ·
   subst c
   rw [if_pos rfl] at hs
   have := a3 j' (by omega)
   rw [en, hs]
   exact this.2.2.2.1
  ·
   rw [if_neg c] at hs
   rw [eo j (by omega)]
   exact a4 j j' (by omega) hjj hs
 ·
  intro _
  obtain ⟨j, hj, he⟩ := a5 hm
  exact ⟨j, by omega, by rw [eo j hj]; exact he⟩
 ·
  intro h0; omega
 ·
  left
  have := a7.resolve_right (by omega)
  split <;> omega
 ·
  rw [ea]
  split <;> omega
 ·
  intro q hq0 hq _
  have hr := a9 q hq0 (fun j hj => hq j (by omega)) (by omega)
  have hqm := hq m (by omega)
  rw [hlen, e2]
  by_cases c : k = sh.length - 1
  ·
   rw [if_pos c.symm, if_pos c, Int.add_mul]
   have := mul_le3 hqm (show 0 ≤ (gP l (ord m)).2 by omega)
   rw [Int.mul_comm (gP l (ord m)).2 q]
   omega
  ·
   rw [if_neg (fun h => c h.symm), if_neg c, Int.add_zero]
   exact hr
 ·
  intro q hq k' hk'
  rw [hlen] at hk'
  exact a10 q (fun j hj => hq j (by omega)) k' hk'
theorem nest_new (H : NestInv l w ord m sh out e) (hi : ord m < l.length) (hinj : ∀ j, j < m → ord j ≠ ord m) (h1 : 1 ≤ (gP l (ord m)).1) (h2 : 1 ≤ (gP l (ord m)).2) (h3 : (gP l (ord m)).2 ≤ w) (hd : ∀ j, j < m → (gP l (ord m)).1 ≤ (gP l (ord j)).1)
  (hf : ∀ k, k < sh.length → w < (gP sh k).2 + (gP l (ord m)).2) :
  NestInv l w ord (m + 1) (sh ++ [(e, (gP l (ord m)).2)]) (out.set (ord m) (e, 0)) (e + (gP l (ord m)).1) := by
 obtain ⟨ol, so, few, s, h, B, aL, a1, a2, a3, a4, a5, a6, a7, a8, a9, a10⟩ := H
 have hio : ord m < out.length := by rw [ol]; exact hi
 have eo : ∀ j, j < m → gP (out.set (ord m) (e, 0)) (ord j) = gP out (ord j) := fun j hj => by rw [gP_set _ _ _ _ hio, if_neg (hinj j hj)]
 have en : gP (out.set (ord m) (e, 0)) (ord m) = (e, 0) := by rw [gP_set _ _ _ _ hio, if_pos rfl]
 have es : ∀ q, q < sh.length → gP (sh ++ [(e, (gP l (ord m)).2)]) q = gP sh q := fun q hq => by rw [gP_app _ _ _ (by omega), if_neg (by omega)]
 have el : gP (sh ++ [(e, (gP l (ord m)).2)]) sh.length = (e, (gP l (ord m)).2) := by rw [gP_app _ _ _ (Nat.le_refl _), if_pos rfl]
 have ea : areaU l ord (m + 1) = areaU l ord m + (gP l (ord m)).1 * (gP l (ord m)).2 := rfl
 have hpos : 0 ≤ (gP l (ord m)).1 * (gP l (ord m)).2 := Int.mul_nonneg (by omega) (by omega)
 have hlen : (sh ++ [(e, (gP l (ord m)).2)]).length = sh.length + 1 := by simp
 have hol : (out.set (ord m) (e, 0)).length = out.length := by simp
 have he0 : 0 ≤ e := by
  rcases Nat.eq_zero_or_pos m with c | c
  ·
   rw [a6 c]; exact Int.le_refl _
  ·
   have := a1 0 (so.1 c); omega
 generalize sh ++ [(e, (gP l (ord m)).2)] = sh' at *
 generalize out.set (ord m) (e, 0) = out' at *
 refine ⟨by rw [hol, ol], by rw [hlen]; omega, by rw [hlen]; omega, fun j => if j = m then sh.length else s j, fun q => if q = sh.length then (gP l (ord m)).1 else h q, (if m = 0 then 0 else B + aL + (gP l (ord m)).1 * (gP l (ord m)).2), (gP l (ord m)).1 * (gP l (ord m)).2, ?_, ?_, ?_, ?_, ?_, ?_, ?_, ?_, ?_, ?_⟩
 ·
  intro q hq
  dsimp only
  rw [hlen] at hq
  by_cases c : q = sh.length
  ·
   subst c
   rw [el]
   simp only [if_true]
   exact ⟨he0, h2, h3, h1, by omega⟩
  ·
   have := a1 q (by omega)
   rw [es q (by omega), if_neg c]
   exact ⟨this.1, this.2.1, this.2.2.1, this.2.2.2.1, by omega⟩
 ·
  intro q q' hqq hq'
  dsimp only
  rw [hlen] at hq'
  rw [es q (by omega), if_neg (by omega)]
  by_cases c : q' = sh.length
  ·
   subst c
   rw [el]
   exact (a1 q (by omega)).2.2.2.2
  ·
   rw [es q' (by omega)]
   exact a2 q q' hqq (by omega)
 ·
  intro j hj
  dsimp only
  rw [hlen]
  by_cases c : j = m
  ·
   subst c
   simp only [if_true]
   rw [el, en]
   exact ⟨by omega, by first | trivial | rfl, by first | trivial | omega, by first | trivial | (simp; done) | omega, by first | trivial | omega⟩
  ·
   have := a3 j (by omega)
   rw [if_neg c, eo j (by omega), es _ this.1, if_neg (by omega)]
   exact ⟨by omega, this.2⟩
 ·
  intro j j' hj hjj hs
  dsimp only at hs
  have cj' : ¬ j' = m := by omega
  rw [if_neg cj'] at hs
  have b := a3 j' (by omega)
  by_cases c : j = m
  ·
   rw [if_pos c] at hs
   omega
  ·
   rw [if_neg c] at hs
   rw [eo j (by omega), eo j' (by omega)]
   exact a4 j j' (by omega) hjj hs
 ·
  intro _
  exact ⟨m, by omega, by rw [en]⟩
 ·
  intro h0; omega
 ·
  left
  by_cases c : m = 0
  ·
   subst c
   rw [if_pos rfl, a6 rfl, Int.zero_add, Int.sub_self, Int.mul_zero]
   exact Int.le_refl _
  ·
   rw [if_neg c]
   have b1 := a7.resolve_right c
   have hlen0 : 0 < sh.length := so.1 (by omega)
   have b2 := a9 (gP l (ord m)).1 (by omega) hd hlen0
   have b3 := hf (sh.length - 1) (by omega)
   have b4 := mul_le3 (show w ≤ (gP sh (sh.length - 1)).2 + (gP l (ord m)).2 by omega) (show 0 ≤ (gP l (ord m)).1 by omega)
   rw [Int.add_mul] at b4
   have b5 : w * (e + (gP l (ord m)).1 - (gP l (ord 0)).1) = w * (e - (gP l (ord 0)).1) + w * (gP l (ord m)).1 := by
    rw [show e + (gP l (ord m)).1 - (gP l (ord 0)).1 = (e - (gP l (ord 0)).1) + (gP l (ord m)).1 by omega, Int.mul_add]
   rw [b5, Int.mul_comm (gP l (ord m)).1 (gP l (ord m)).2]
   omega
 ·
  rw [ea]
  by_cases c : m = 0
  ·
   rw [if_pos c]
   have : 0 ≤ areaU l ord m := by subst c; exact Int.le_refl _
   omega
  ·
   rw [if_neg c]
   omega
 ·
  intro q hq0 hq _
  rw [hlen, Nat.add_sub_cancel, el]
  have := mul_le3 (hq m (by omega)) (show 0 ≤ (gP l (ord m)).2 by omega)
  rw [Int.mul_comm (gP l (ord m)).2 q]
  exact this
 ·
  intro q hq k' hk'
  dsimp only
  rw [hlen] at hk'
  by_cases c : k' = sh.length
  ·
   rw [if_pos c]
   exact hq m (by omega)
  ·
   rw [if_neg c]
   exact a10 q (fun j hj => hq j (by omega)) k' (by omega)
end

end Go.Proofs.Ytnjpkfccncjkhaa

namespace Go.Proofs.Ytnjpkfccncjkhaa

structure PermI (ord : Nat → Nat) (n : Nat) : Prop where
 lt : ∀ j, j < n → ord j < n
 inj : ∀ j k, j < n → k < n → ord j = ord k → j = k
 surj : ∀ i, i < n → ∃ j, j < n ∧ ord j = i
theorem PermI.id (n : Nat) : PermI (fun j => j) n := ⟨fun _ h => h, fun _ _ _ _ h => h, fun i h => ⟨i, h, rfl⟩⟩
theorem sumZ_ge_one (f : Nat → Int) (n : Nat) (h : ∀ i, i < n → 0 ≤ f i) (j : Nat) (hj : j < n) : f j ≤ sumZ f n := by
 induction n with
 | zero => omega
 | succ n ih =>
  simp only [sumZ]
  by_cases c : j = n
  ·
   subst c
   have := sumZ_nonneg f j (fun i hi => h i (by omega))
   omega
  ·
   have := ih (fun i hi => h i (by omega)) (by omega)
   have := h n (by omega)
   omega
theorem sumZ_perm {ord : Nat → Nat} {n : Nat} (hp : PermI ord n) (f : Nat → Int) : sumZ (fun j => f (ord j)) n = sumZ f n := by
 have one : ∀ i, i < n → sumZ (fun j => if decide (ord j = i) = true then (1 : Int) else 0) n = 1 := fun i hi => by
  have h1 := sumZ_one (fun j => decide (ord j = i)) n fun a b ha hb h1 h2 => by
   have h1 := of_decide_eq_true h1
   have h2 := of_decide_eq_true h2
   have := hp.inj a b ha (by omega) (by rw [h1, h2])
   omega
  obtain ⟨j, hj, hji⟩ := hp.surj i hi
  have h2 := sumZ_ge_one (fun j => if decide (ord j = i) = true then (1 : Int) else 0) n (fun k _ => by split <;> omega) j hj
  rw [if_pos (decide_eq_true hji)] at h2
  omega
 have e1 : sumZ (fun j => f (ord j)) n = sumZ (fun j => sumZ (fun i => f i * (if decide (ord j = i) = true then (1 : Int) else 0)) n) n := by
  refine sumZ_congr _ _ _ fun j hj => ?_
  have key : ∀ k, k ≤ n → sumZ (fun i => f i * (if decide (ord j = i) = true then (1 : Int) else 0)) k = if ord j < k then f (ord j) else 0 := by
   intro k hk
   induction k with
   | zero => rw [if_neg (by omega)]; rfl
   | succ k ih =>
    simp only [sumZ]
    rw [ih (by omega)]
    by_cases c : ord j = k
    ·
     rw [if_neg (by omega), if_pos (decide_eq_true c), if_pos (by omega), c]; omega
    ·
     rw [if_neg (fun h => c (of_decide_eq_true h)), Int.mul_zero]
     by_cases c2 : ord j < k
     ·
      rw [if_pos c2, if_pos (by omega)]; omega
     ·
      rw [if_neg c2, if_neg (by omega)]; rfl
  rw [key n (Nat.le_refl _), if_pos (hp.lt j hj)]
 rw [e1, sumZ_swap]
 refine sumZ_congr _ _ _ fun i hi => ?_
 rw [sumZ_mul, one i hi, Int.mul_one]

/-! ### What CheckNest tells -/
def overlapB (l at_ : List (Int × Int)) (i k : Nat) : Bool :=
 decide ((gP at_ i).1 < (gP at_ k).1 + (gP l k).1) && (decide ((gP at_ k).1 < (gP at_ i).1 + (gP l i).1) && (decide ((gP at_ i).2 < (gP at_ k).2 + (gP l k).2) && decide ((gP at_ k).2 < (gP at_ i).2 + (gP l i).2)))
def overTo (l at_ : List (Int × Int)) (i : Nat) : Nat → Bool
 | 0 => false
 | k + 1 => overTo l at_ i k || overlapB l at_ i k
def outB (l : List (Int × Int)) (w : Int) (at_ : List (Int × Int)) (i : Nat) : Bool :=
 !(decide (0 ≤ (gP at_ i).1) && decide ((gP at_ i).1 ≤ 1099511627776)) || (decide ((gP at_ i).2 < 0) || decide ((gP at_ i).2 > w - (gP l i).2))
def accB (l : List (Int × Int)) (w : Int) (at_ : List (Int × Int)) : Nat → Bool
 | 0 => true
 | i + 1 => accB l w at_ i && (!outB l w at_ i && !overTo l at_ i i)
def endZ (l at_ : List (Int × Int)) : Nat → Int
 | 0 => 0
 | i + 1 => max (endZ l at_ i) ((gP at_ i).1 + (gP l i).1)
theorem overTo_iff (l at_ : List (Int × Int)) (i n : Nat) : overTo l at_ i n = false ↔ ∀ k, k < n → overlapB l at_ i k = false := by
 induction n with
 | zero => simp [overTo]
 | succ n ih =>
  simp only [overTo, Bool.or_eq_false_iff, ih]
  constructor
  ·
   rintro ⟨h1, h2⟩ k hk
   by_cases c : k = n
   ·
    rw [c]; exact h2
   ·
    exact h1 k (by omega)
  ·
   intro h
   exact ⟨fun k hk => h k (by omega), h n (by omega)⟩
theorem accB_iff (l : List (Int × Int)) (w : Int) (at_ : List (Int × Int)) (n : Nat) : accB l w at_ n = true ↔ ∀ i, i < n → outB l w at_ i = false ∧ ∀ k, k < i → overlapB l at_ i k = false := by
 induction n with
 | zero => simp [accB]
 | succ n ih =>
  simp only [accB, Bool.and_eq_true, ih, Bool.not_eq_true', overTo_iff]
  constructor
  ·
   rintro ⟨h1, h2⟩ i hi
   by_cases c : i = n
   ·
    rw [c]; exact h2
   ·
    exact h1 i (by omega)
  ·
   intro h
   exact ⟨fun i hi => h i (by omega), h n (by omega)⟩
theorem endZ_ge (l at_ : List (Int × Int)) (n : Nat) : ∀ i, i < n → (gP at_ i).1 + (gP l i).1 ≤ endZ l at_ n := by
 induction n with
 | zero => intro i hi; omega
 | succ n ih =>
  intro i hi
  simp only [endZ]
  by_cases c : i = n
  ·
   subst c; omega
  ·
   have := ih i (by omega); omega
theorem endZ_nonneg (l at_ : List (Int × Int)) (n : Nat) : 0 ≤ endZ l at_ n := by
 induction n with
 | zero => exact Int.le_refl _
 | succ n ih => simp only [endZ]; omega
theorem endZ_le (l at_ : List (Int × Int)) (n : Nat) (E : Int) (h0 : 0 ≤ E) (h : ∀ i, i < n → (gP at_ i).1 + (gP l i).1 ≤ E) : endZ l at_ n ≤ E := by
 induction n with
 | zero => exact h0
 | succ n ih => have := ih (fun i hi => h i (by omega)); have := h n (by omega); simp only [endZ]; omega

/-! ### What Bound tells -/
def longZ (l : List (Int × Int)) : Nat → Int
 | 0 => 0
 | i + 1 => max (longZ l i) (gP l i).1
def areaZ (l : List (Int × Int)) (n : Nat) : Int := sumZ (fun i => (gP l i).1 * (gP l i).2) n
def aloneZ (l : List (Int × Int)) (w : Int) (n : Nat) : Int := sumZ (fun i => if 2 * (gP l i).2 > w then (gP l i).1 else 0) n
def boundZ (l : List (Int × Int)) (w : Int) : Int := max (max (longZ l l.length) ((areaZ l l.length + w - 1) / w)) (aloneZ l w l.length)
theorem longZ_ge (l : List (Int × Int)) (n : Nat) : ∀ i, i < n → (gP l i).1 ≤ longZ l n := by
 induction n with
 | zero => intro i hi; omega
 | succ n ih =>
  intro i hi
  simp only [longZ]
  by_cases c : i = n
  ·
   subst c; omega
  ·
   have := ih i (by omega); omega
theorem longZ_le (l : List (Int × Int)) (n : Nat) (B : Int) (h0 : 0 ≤ B) (h : ∀ i, i < n → (gP l i).1 ≤ B) : longZ l n ≤ B := by
 induction n with
 | zero => exact h0
 | succ n ih => have := ih (fun i hi => h i (by omega)); have := h n (by omega); simp only [longZ]; omega
def Pieces (l : List (Int × Int)) (w : Int) : Prop := 1 ≤ w ∧ ∀ i, i < l.length → 1 ≤ (gP l i).1 ∧ 1 ≤ (gP l i).2 ∧ (gP l i).2 ≤ w
theorem acc_facts {l : List (Int × Int)} {w : Int} {at_ : List (Int × Int)} {n : Nat} (h : accB l w at_ n = true) :
  (∀ i, i < n → 0 ≤ (gP at_ i).1 ∧ 0 ≤ (gP at_ i).2 ∧ (gP at_ i).2 + (gP l i).2 ≤ w) ∧ ∀ i k, i < n → k < i → ¬ ((gP at_ i).1 < (gP at_ k).1 + (gP l k).1 ∧ (gP at_ k).1 < (gP at_ i).1 + (gP l i).1 ∧ (gP at_ i).2 < (gP at_ k).2 + (gP l k).2 ∧ (gP at_ k).2 < (gP at_ i).2 + (gP l i).2) := by
 rw [accB_iff] at h
 refine ⟨fun i hi => ?_, fun i k hi hk hc => ?_⟩
 ·
  have := (h i hi).1
  simp [outB] at this
  omega
 ·
  have := (h i hi).2 k hk
  simp [overlapB] at this
  have := this hc.1 hc.2.1 hc.2.2.1
  omega
theorem bound_le {l : List (Int × Int)} {w : Int} {at_ : List (Int × Int)} (hp : Pieces l w) (h : accB l w at_ l.length = true) : boundZ l w ≤ endZ l at_ l.length := by
 obtain ⟨hw, hl⟩ := hp
 obtain ⟨h1, h2⟩ := acc_facts h
 have hE := endZ_nonneg l at_ l.length
 have hge := endZ_ge l at_ l.length
 obtain ⟨E, hEq⟩ : ∃ E : Nat, endZ l at_ l.length = E := ⟨(endZ l at_ l.length).toNat, by omega⟩
 obtain ⟨u, rfl⟩ : ∃ u : Nat, w = u := ⟨w.toNat, by omega⟩
 rw [hEq] at hE hge ⊢
 have hx : ∀ i, i < l.length → 0 ≤ (gP at_ i).1 ∧ 0 ≤ (gP l i).1 ∧ (gP at_ i).1 + (gP l i).1 ≤ E := fun i hi => ⟨(h1 i hi).1, by have := (hl i hi).1; omega, hge i hi⟩
 have hy : ∀ i, i < l.length → 0 ≤ (gP at_ i).2 ∧ 0 ≤ (gP l i).2 ∧ (gP at_ i).2 + (gP l i).2 ≤ u := fun i hi => ⟨(h1 i hi).2.1, by have := (hl i hi).2.1; omega, (h1 i hi).2.2⟩
 have a := area_le (X := fun i => (gP at_ i).1) (Y := fun i => (gP at_ i).2) (L := fun i => (gP l i).1) (W := fun i => (gP l i).2) hx hy h2
 have b := alone_le (X := fun i => (gP at_ i).1) (Y := fun i => (gP at_ i).2) (L := fun i => (gP l i).1) (W := fun i => (gP l i).2) hx hy h2
 have c := longZ_le l l.length E hE (fun i hi => by have := hx i hi; omega)
 have d : (areaZ l l.length + (u : Int) - 1) / (u : Int) ≤ E := by
  have h3 : areaZ l l.length + (u : Int) - 1 < (E + 1) * u := by
   have : areaZ l l.length ≤ (E : Int) * u := a
   rw [Int.add_mul, Int.one_mul]
   omega
  have := Int.ediv_lt_of_lt_mul (show (0 : Int) < u by omega) h3
  omega
 have e : aloneZ l (u : Int) l.length ≤ E := b
 unfold boundZ
 omega

/-! ### The shelves -/
theorem nest_done {l : List (Int × Int)} {w : Int} {ord : Nat → Nat} {sh out : List (Int × Int)} {e : Int} (hp : Pieces l w) (hP : PermI ord l.length) (hsort : ∀ j, j < l.length → (gP l (ord j)).1 ≤ (gP l (ord 0)).1) (hbig : ∀ i, i < l.length → (gP l i).1 ≤ 1000 ∧ (gP l i).2 ≤ 1000) (hn : l.length ≤ 10)
  (H : NestInv l w ord l.length sh out e) : out.length = l.length ∧ accB l w out l.length = true ∧ endZ l out l.length = e ∧ w * (e - longZ l l.length) ≤ 2 * areaZ l l.length := by
 obtain ⟨ol, so, few, s, h, B, aL, a1, a2, a3, a4, a5, a6, a7, a8, a9, a10⟩ := H
 have hA : areaU l ord l.length = areaZ l l.length := sumZ_perm hP (fun i => (gP l i).1 * (gP l i).2)
 have aL0 : 0 < l.length → 0 ≤ aL := fun hl => by
  have := a9 0 (Int.le_refl _) (fun j hj => by have := (hp.2 (ord j) (hP.lt j hj)).1; omega) (so.1 hl)
  rw [Int.mul_zero] at this
  exact this
 have hlong : 0 < l.length → longZ l l.length = (gP l (ord 0)).1 := fun hl => by
  refine Int.le_antisymm (longZ_le _ _ _ (by have := (hp.2 (ord 0) (hP.lt 0 hl)).1; omega) fun i hi => ?_) (longZ_ge l _ _ (hP.lt 0 hl))
  obtain ⟨j, hj, rfl⟩ := hP.surj i hi
  exact hsort j hj
 have hfin : w * (e - longZ l l.length) ≤ 2 * areaZ l l.length := by
  rcases Nat.eq_zero_or_pos l.length with c | c
  ·
   rw [c, a6 c]
   show w * (0 - 0) ≤ 2 * 0
   simp
  ·
   rw [hlong c, ← hA]
   have := a7.resolve_right (by omega)
   have := aL0 c
   omega
 have hAr : areaZ l l.length ≤ 10000000 := by
  have h1 : areaZ l l.length ≤ sumZ (fun _ => 1000000) l.length := sumZ_le _ _ _ fun i hi => by
   have b := hbig i hi
   have c := hp.2 i hi
   have := mul_le3 b.1 (show 0 ≤ (gP l i).2 by omega)
   omega
  rw [sumZ_const] at h1
  omega
 have he : e ≤ 30000000 := by
  have hw := hp.1
  have hlo := longZ_le l l.length 1000 (by omega) (fun i hi => (hbig i hi).1)
  rcases Int.lt_or_le (e - longZ l l.length) 0 with c | c
  ·
   omega
  ·
   have := mul_le3 hw c
   omega
 have item : ∀ i, i < l.length → ∃ j, j < l.length ∧ ord j = i := hP.surj
 refine ⟨ol, ?_, ?_, hfin⟩
 ·
  rw [accB_iff]
  refine fun i hi => ⟨?_, fun k hk => ?_⟩
  ·
   obtain ⟨j, hj, rfl⟩ := item i hi
   obtain ⟨b1, b2, b3, b4, b5⟩ := a3 j hj
   have b6 := a1 _ b1
   have := (hp.2 _ hi).1
   unfold outB
   rw [b2, decide_eq_true (show 0 ≤ (gP sh (s j)).1 by omega), decide_eq_true (show (gP sh (s j)).1 ≤ 1099511627776 by omega), decide_eq_false (show ¬ (gP out (ord j)).2 < 0 by omega), decide_eq_false (show ¬ (gP out (ord j)).2 > w - (gP l (ord j)).2 by omega)]
   rfl
  ·
   obtain ⟨j, hj, rfl⟩ := item i hi
   obtain ⟨j', hj', rfl⟩ := item k (by omega)
   have hne : j ≠ j' := fun e => by rw [e] at hk; omega
   have b := a3 j hj
   have b' := a3 j' hj'
   have c := a1 _ b.1
   have c' := a1 _ b'.1
   unfold overlapB
   rw [b.2.1, b'.2.1]
   by_cases cs : s j = s j'
   ·
    rcases Nat.lt_or_ge j j' with hlt | hge
    ·
     have := a4 j' j hj' hlt cs.symm
     simp
     omega
    ·
     have := a4 j j' hj (by omega) cs
     simp
     omega
   ·
    rcases Nat.lt_or_ge (s j) (s j') with hlt | hge
    ·
     have := a2 _ _ hlt b'.1
     simp
     omega
    ·
     have := a2 _ _ (show s j' < s j by omega) b.1
     simp
     omega
 ·
  refine Int.le_antisymm (endZ_le _ _ _ _ ?_ fun i hi => ?_) ?_
  ·
   rcases Nat.eq_zero_or_pos l.length with c | c
   ·
    rw [a6 c]; exact Int.le_refl _
   ·
    have := a1 0 (so.1 c); omega
  ·
   obtain ⟨j, hj, rfl⟩ := item i hi
   obtain ⟨b1, b2, b3, b4, b5⟩ := a3 j hj
   have := a1 _ b1
   omega
  ·
   rcases Nat.eq_zero_or_pos l.length with c | c
   ·
    rw [a6 c]; exact endZ_nonneg _ _ _
   ·
    obtain ⟨j, hj, he⟩ := a5 c
    rw [← he]
    exact endZ_ge l out l.length _ (hP.lt j hj)

end Go.Proofs.Ytnjpkfccncjkhaa

namespace Go.Proofs.Ytnjpkfccncjkhaa

def swO (f : Nat → Nat) (j : Nat) : Nat → Nat := fun k => if k = j then f (j - 1) else if k = j - 1 then f j else f k
theorem swO_at (f : Nat → Nat) (j : Nat) : swO f j j = f (j - 1) := by simp [swO]
theorem swO_pre (f : Nat → Nat) {j : Nat} (hj : 0 < j) : swO f j (j - 1) = f j := by
 unfold swO
 rw [if_neg (by omega), if_pos rfl]
theorem swO_oth (f : Nat → Nat) {j k : Nat} (h1 : k ≠ j) (h2 : k ≠ j - 1) : swO f j k = f k := by
 unfold swO
 rw [if_neg h1, if_neg h2]
theorem swO_ways (f : Nat → Nat) {j : Nat} (hj : 0 < j) (k : Nat) : (k = j ∧ swO f j k = f (j - 1)) ∨ (k = j - 1 ∧ swO f j k = f j) ∨ (k ≠ j ∧ k ≠ j - 1 ∧ swO f j k = f k) := by
 by_cases c : k = j
 ·
  left; subst c; exact ⟨rfl, swO_at f k⟩
 ·
  by_cases d : k = j - 1
  ·
   right; left; subst d; exact ⟨rfl, swO_pre f hj⟩
  ·
   right; right; exact ⟨c, d, swO_oth f c d⟩
theorem PermI.sw {f : Nat → Nat} {n j : Nat} (h : PermI f n) (hj0 : 0 < j) (hj : j < n) : PermI (swO f j) n := by
 refine ⟨fun k hk => ?_, fun a b ha hb e => ?_, fun i hi => ?_⟩
 ·
  rcases swO_ways f hj0 k with ⟨_, e⟩ | ⟨_, e⟩ | ⟨_, _, e⟩
  ·
   rw [e]; exact h.lt _ (by omega)
  ·
   rw [e]; exact h.lt _ hj
  ·
   rw [e]; exact h.lt _ hk
 ·
  rcases swO_ways f hj0 a with ⟨c1, e1⟩ | ⟨c1, e1⟩ | ⟨c1, d1, e1⟩ <;> rcases swO_ways f hj0 b with ⟨c2, e2⟩ | ⟨c2, e2⟩ | ⟨c2, d2, e2⟩ <;> rw [e1, e2] at e <;> have := h.inj _ _ (by omega) (by omega) e <;> omega
 ·
  obtain ⟨k, hk, e⟩ := h.surj i hi
  by_cases c : k = j
  ·
   exact ⟨j - 1, by omega, by rw [swO_pre f hj0, ← c, e]⟩
  ·
   by_cases d : k = j - 1
   ·
    exact ⟨j, hj, by rw [swO_at, ← d, e]⟩
   ·
    exact ⟨k, hk, by rw [swO_oth f c d, e]⟩
def SortTo (key : Nat → Int) (f : Nat → Nat) (i : Nat) : Prop := ∀ a b, a < b → b < i → key (f b) ≤ key (f a)
def SortX (key : Nat → Int) (f : Nat → Nat) (i j : Nat) : Prop := ∀ a b, a < b → b ≤ i → b ≠ j → key (f b) ≤ key (f a)
theorem SortTo.one (key : Nat → Int) (f : Nat → Nat) : SortTo key f 1 := fun a b h1 h2 => by omega
theorem SortX.start {key : Nat → Int} {f : Nat → Nat} {i : Nat} (h : SortTo key f i) : SortX key f i i := fun a b h1 h2 h3 => h a b h1 (by omega)
theorem SortX.sw {key : Nat → Int} {f : Nat → Nat} {i j : Nat} (h : SortX key f i j) (hj0 : 0 < j) (hj : j ≤ i) (hlt : key (f (j - 1)) < key (f j)) : SortX key (swO f j) i (j - 1) := by
 intro a b hab hb hne
 rcases swO_ways f hj0 b with ⟨cb, eb⟩ | ⟨cb, eb⟩ | ⟨cb, db, eb⟩
 ·
  rcases swO_ways f hj0 a with ⟨ca, ea⟩ | ⟨ca, ea⟩ | ⟨ca, da, ea⟩
  ·
   omega
  ·
   rw [ea, eb]; omega
  ·
   rw [ea, eb]; exact h a (j - 1) (by omega) (by omega) (by omega)
 ·
  exact absurd cb hne
 ·
  rcases swO_ways f hj0 a with ⟨ca, ea⟩ | ⟨ca, ea⟩ | ⟨ca, da, ea⟩
  ·
   rw [ea, eb]; exact h (j - 1) b (by omega) hb cb
  ·
   rw [ea, eb]; exact h j b (by omega) hb cb
  ·
   rw [ea, eb]; exact h a b hab hb cb
theorem SortX.stop {key : Nat → Int} {f : Nat → Nat} {i j : Nat} (h : SortX key f i j) (hs : j = 0 ∨ key (f j) ≤ key (f (j - 1))) : SortTo key f (i + 1) := by
 intro a b hab hb
 by_cases c : b = j
 ·
  subst c
  have hs := hs.resolve_left (by omega)
  by_cases d : a = b - 1
  ·
   subst d; exact hs
  ·
   exact Int.le_trans hs (h a (b - 1) (by omega) (by omega) (by omega))
 ·
  exact h a b hab (by omega) c

end Go.Proofs.Ytnjpkfccncjkhaa

namespace Go.Proofs.Ytnjpkfccncjkhaa

def pcZ (w : Int) (p : Int × Int) : Int × Int := (1 + p.1, 1 + p.2 % w)
def pcsZ (w : Int) (ps : List (Int × Int)) : List (Int × Int) := ps.map (pcZ w)
theorem pcsZ_length (w : Int) (ps : List (Int × Int)) : (pcsZ w ps).length = ps.length := by simp [pcsZ]
theorem pcsZ_get (w : Int) (ps : List (Int × Int)) (i : Nat) (hi : i < ps.length) : gP (pcsZ w ps) i = pcZ w (ps.getD i (0, 0)) := by simp [pcsZ, gP, List.getD, hi]
def ownP (w : Int) (at_ : List (Int × Int)) (i : Nat) : Int × Int := if i < at_.length then (4 * (at_.getD i (0, 0)).1, (at_.getD i (0, 0)).2 % w) else (0, 0)
def ownZ (w : Int) (at_ : List (Int × Int)) (n : Nat) : List (Int × Int) := (List.range n).map (ownP w at_)
theorem ownZ_length (w : Int) (at_ : List (Int × Int)) (n : Nat) : (ownZ w at_ n).length = n := by simp [ownZ]
theorem ownZ_get (w : Int) (at_ : List (Int × Int)) (n i : Nat) (hi : i < n) : gP (ownZ w at_ n) i = ownP w at_ i := by simp [ownZ, gP, List.getD, hi]
def by2 (ps : List (Int × Int)) : Prop := ∀ i, i < ps.length → (0 ≤ (ps.getD i (0, 0)).1 ∧ (ps.getD i (0, 0)).1 ≤ 255) ∧ 0 ≤ (ps.getD i (0, 0)).2 ∧ (ps.getD i (0, 0)).2 ≤ 255
theorem pcs_facts {ps : List (Int × Int)} {w : Int} (hb : by2 ps) (h1 : 1 ≤ w) (h2 : w ≤ 256) : Pieces (pcsZ w ps) w ∧ ∀ i, i < (pcsZ w ps).length → (gP (pcsZ w ps) i).1 ≤ 1000 ∧ (gP (pcsZ w ps) i).2 ≤ 1000 := by
 have key : ∀ i, i < ps.length → 1 ≤ (gP (pcsZ w ps) i).1 ∧ 1 ≤ (gP (pcsZ w ps) i).2 ∧ (gP (pcsZ w ps) i).2 ≤ w ∧ (gP (pcsZ w ps) i).1 ≤ 256 := fun i hi => by
  rw [pcsZ_get w ps i hi]
  have := hb i hi
  have a := Int.emod_nonneg (ps.getD i (0, 0)).2 (show w ≠ 0 by omega)
  have b := Int.emod_lt_of_pos (ps.getD i (0, 0)).2 (show 0 < w by omega)
  unfold pcZ
  dsimp only
  omega
 refine ⟨⟨h1, fun i hi => ?_⟩, fun i hi => ?_⟩
 ·
  rw [pcsZ_length] at hi
  have := key i hi
  exact ⟨this.1, this.2.1, this.2.2.1⟩
 ·
  rw [pcsZ_length] at hi
  have := key i hi
  omega
end Go.Proofs.Ytnjpkfccncjkhaa

namespace Go.Proofs.Ytnjpkfccncjkhaa
open Go.RowKit

theorem wpList_make_room {P : Program} (w : World) {ops : Array Oper} {rest : List Oper} {o : Oper} {a : Act} {Q : Exit → Act → World → Prop}
  (hg : o.guard = none) (l c : Operand) (t : TypeId) (hop : o.op = Op.makeSlice t l c)
  (base : Nat) (e : TypeId) (i : TypeInfo) (z : Value) (size : Nat) (h1 : P.underlying t = some (.slice e)) (h2 : P.info? e = some i) (h3 : i.zero = some z) (h4 : i.size = size)
  (kl kc : IntKind) (L C : Int) (n m : Nat) (hl : a.eval l = .int kl L) (hc : a.eval c = .int kc C) (hL : L = (n : Int)) (hC : C = (m : Int)) (hnm : n ≤ m) (b2 : i.bytes * m ≤ 281474976710656) (b3 : m ≤ maxLen) (_b4 : base ≤ w.heap.size)
  (hK : ∀ w', w'.heap[w.heap.size]? = some (.cells (madeCells z.cells (m * size)) e (0, 0)) → w.grownBy w' none → wpList P ops Q rest (a.put o.dst (.slice (some ⟨w.heap.size, 0, none⟩) n m)) w') :
  wpList P ops Q (o :: rest) a w := by
 subst h4
 subst hL
 subst hC
 refine wpList_plain hg fun K hK' => ?_
 have b3' : (m : Int) ≤ 9223372036854775807 := by
  have h := b3
  simp [maxLen] at h
  omega
 have hb' : (i.bytes : Int) * (m : Int) ≤ 281474976710656 := by
  have h : ((i.bytes * m : Nat) : Int) ≤ 281474976710656 := by omega
  rwa [Int.natCast_mul] at h
 have hr := run_make (P := P) w t e i z h1 h2 h3 kl kc n m (by omega) (by omega) hb' b3'
 simp only [Int.toNat_natCast] at hr
 unfold Oper.wp
 simp [execOp, hop, hl, hc, hr, Result.andThen]
 exact hK' _ _ (hK _ (heap_alloc_new w _) (World.grownBy_alloc w _ none))

structure PlIn (a b : List Nat) (n i : Nat) (o : List Nat) (c : Nat) : Prop where
 len : o.length = n
 dgs : Dgs b64 o
 car : c ≤ 1
 val : lv b64 o + b64 ^ i * c = lv b64 (a.take i) + lv b64 (b.take i)
 top : ∀ j, i ≤ j → o.getD j 0 = 0
theorem take_step64 (a : List Nat) (i : Nat) : lv b64 (a.take (i + 1)) = lv b64 (a.take i) + b64 ^ i * a.getD i 0 := by
 by_cases h : i < a.length
 ·
  exact lv_take_succ b64 a i h
 ·
  rw [List.take_of_length_le (by omega), List.take_of_length_le (by omega)]
  simp [List.getElem?_eq_none (Nat.le_of_not_lt h)]
theorem PlIn.start (a b : List Nat) (n : Nat) : PlIn a b n 0 (List.replicate n 0) 0 :=
 ⟨by simp, Dgs.replicate b64_pos _, by omega, by simp [lv_replicate, lv], fun j _ => by simp [List.getElem?_replicate]; split <;> rfl⟩
theorem PlIn.step {a b : List Nat} {n i : Nat} {o : List Nat} {c : Nat} (h : PlIn a b n i o c) (ha : Dgs b64 a) (hb : Dgs b64 b) (hi : i < n) (x y : Nat) (hx : x = a.getD i 0) (hy : y = b.getD i 0) :
  PlIn a b n (i + 1) (o.set i (addLo x y c)) (addHi x y c) := by
 have hxl := ha.getD b64_pos i
 have hyl := hb.getD b64_pos i
 rw [← hx] at hxl
 rw [← hy] at hyl
 refine ⟨by simpa using h.len, h.dgs.set _ _ (addLo_lt _ _ _), addHi_le _ _ _ hxl hyl h.car, ?_, fun j hj => ?_⟩
 ·
  have h1 := lv_set b64 o i (addLo x y c) (by rw [h.len]; exact hi)
  rw [h.top i (Nat.le_refl _)] at h1
  have h2 := h.val
  rw [take_step64, take_step64, Nat.pow_succ, ← hx, ← hy]
  have e4 := add_eq x y c
  have e5 : b64 ^ i * (addLo x y c + b64 * addHi x y c) = b64 ^ i * (x + y + c) := by rw [e4]
  rw [Nat.mul_assoc]
  simp only [Nat.mul_add] at e5
  omega
 ·
  have := h.top j (by omega)
  rw [List.getD_eq_getElem?_getD] at *
  rw [List.getElem?_set_ne (by omega)]
  exact this
theorem PlIn.done {a b : List Nat} {o : List Nat} {c : Nat} (h : PlIn a b a.length a.length o c) (hl : b.length ≤ a.length) : lv b64 o + b64 ^ a.length * c = lv b64 a + lv b64 b := by
 have hv := h.val
 rw [List.take_of_length_le (Nat.le_refl _), List.take_of_length_le hl] at hv
 exact hv
theorem plus_dig {a b o : List Nat} {c : Nat} (h : PlIn a b a.length a.length o c) (hl : b.length ≤ a.length) (hla : ∀ h : a ≠ [], a.getLast h ≠ 0) :
  (c = 0 → dig b64 (lv b64 a + lv b64 b) = o) ∧ (0 < c → dig b64 (lv b64 a + lv b64 b) = o ++ [c]) := by
 have hd := h.done hl
 constructor
 ·
  intro h0
  subst h0
  rw [← hd, Nat.mul_zero, Nat.add_zero]
  refine dig_of b64_two o h.dgs fun hne => ?_
  -- the greatest digit of o is not 0: o is at least a
  have hpos : 0 < a.length := by
   rcases Nat.eq_zero_or_pos a.length with h1 | h1
   ·
    exact absurd (List.eq_nil_of_length_eq_zero (h.len.trans h1)) hne
   ·
    exact h1
  have hane : a ≠ [] := fun e => by rw [e] at hpos; simp at hpos
  intro hz
  have h2 : lv b64 o < b64 ^ (a.length - 1) := by
   have e1 : o = o.take (o.length - 1) ++ [0] := by
    conv => lhs; rw [← List.dropLast_concat_getLast hne, hz, List.dropLast_eq_take]
   have e2 : Dgs b64 (o.take (o.length - 1)) := h.dgs.take _
   rw [e1, dig_lv_snoc_zero]
   have := lv_lt e2
   rw [List.length_take, Nat.min_eq_left (by omega)] at this
   rw [h.len] at this ⊢
   exact this
  have h3 : b64 ^ (a.length - 1) ≤ lv b64 a := by
   have e1 : a = a.dropLast ++ [a.getLast hane] := (List.dropLast_concat_getLast hane).symm
   have h4 := hla hane
   generalize a.getLast hane = q at *
   rw [e1, lv_append]
   have : a.dropLast.length = a.length - 1 := by simp
   rw [this]
   have e3 : lv b64 [q] = q := by simp [lv]
   rw [e3]
   have := Nat.le_mul_of_pos_right (b64 ^ (a.length - 1)) (show 0 < q by omega)
   simp only [List.length_append, List.length_dropLast, List.length_cons, List.length_nil]
   have e4 : a.length - 1 + (0 + 1) - 1 = a.length - 1 := by omega
   rw [e4]
   omega
  omega
 ·
  intro h0
  have hc : c = 1 := by have := h.car; omega
  subst hc
  have e : lv b64 a + lv b64 b = lv b64 (o ++ [1]) := by rw [lv_append, h.len, ← hd]; simp [lv]
  rw [e]
  exact dig_of b64_two _ (h.dgs.append (by intro d hd; simp at hd; rw [hd]; exact b64_two)) fun hne => by simp

def OwnAll (w : World) (g : Nat) (k : IntKind) (e : TypeId) (ds : List Nat) : Prop := w.heap[g]? = some (.cells (ds.map (fun d : Nat => Value.int k (d : Int))).toArray e (0, 0))
theorem OwnAll.own {w : World} {g : Nat} {k : IntKind} {e : TypeId} {ds : List Nat} (h : OwnAll w g k e ds) : Own w g k e ds := ⟨[], by rw [List.append_nil]; exact h⟩
theorem OwnAll.frozen {w : World} {g : Nat} {k : IntKind} {e : TypeId} {ds : List Nat} (h : OwnAll w g k e ds) (j : Nat) : w.frozen? ⟨g, j, none⟩ = false := h.own.frozen j
theorem OwnAll.cell {w : World} {g : Nat} {k : IntKind} {e : TypeId} {ds : List Nat} (h : OwnAll w g k e ds) (j : Nat) (hj : j < ds.length) : ∃ q, w.cell? ⟨g, j, none⟩ = some (.int k q) := ⟨_, h.own.cell j hj⟩
theorem OwnAll.store {w : World} {g : Nat} {k : IntKind} {e : TypeId} {ds : List Nat} (h : OwnAll w g k e ds) (j x : Nat) : OwnAll (w.setCell ⟨g, j, none⟩ (.int k x)) g k e (ds.set j x) := by
 unfold OwnAll at *
 rw [heap_setCell_same w g j _ e _ h]
 simp [List.map_set]
theorem OwnAll.of_room {w : World} {g : Nat} {e : TypeId} {n : Nat} (h : w.heap[g]? = some (.cells (madeCells #[Value.int .u64 0] (n + 1)) e (0, 0))) : OwnAll w g .u64 e (List.replicate n 0 ++ [0]) := by
 unfold OwnAll
 rw [h]
 have e1 : (madeCells #[Value.int .u64 0] (n + 1)).toList = List.replicate (n + 1) (Value.int .u64 0) := toList_madeCells_one _ _
 have e2 : (List.replicate n 0 ++ [0]).map (fun d : Nat => Value.int .u64 (d : Int)) = List.replicate (n + 1) (Value.int .u64 0) := by
  rw [List.replicate_succ']
  simp
 rw [e2, ← e1]
theorem Own.init {w : World} {g : Nat} {k : IntKind} {e : TypeId} {a b : List Nat} (h : Own w g k e (a ++ b)) : Own w g k e a := by
 obtain ⟨tl, h⟩ := h
 refine ⟨b.map (fun d : Nat => Value.int k (d : Int)) ++ tl, ?_⟩
 rw [h]
 simp
theorem OwnAll.ownsRow {w : World} {g : Nat} {k : IntKind} {e : TypeId} {o : List Nat} (h : OwnAll w g k e (o ++ [0])) (n base : Nat) (hb : base ≤ g) (hn : o.length = n) (hm : n + 1 ≤ maxLen) :
  w.ownsRow base e 1 (.slice (some ⟨g, 0, none⟩) n (n + 1)) n (o.map (fun d : Nat => Value.int k (d : Int))) := by
 refine ⟨by simp [hn], .inr ⟨g, n + 1, _, rfl, hb, h, by omega, hm, by simp [hn], ?_⟩⟩
 simp [← hn]
theorem digits_row {w : World} {base g n : Nat} {e : TypeId} {o : List Nat} {c : Nat} (hn : o.length = n) (h : w.ownsRow base e 1 (.slice (some ⟨g, 0, none⟩) (n + 1) (n + 1)) (n + 1) (o.map (fun d : Nat => Value.int .u64 (d : Int)) ++ [.int .u64 (c : Int)])) :
  IsRow .u64 w (.slice (some ⟨g, 0, none⟩) (n + 1) (n + 1)) (o ++ [c]) := by
 have hl : (o ++ [c]).length = n + 1 := by simp [hn]
 obtain ⟨ho, h1, h2, _⟩ := Own.of_ownsRow (k := .u64) (ds := o ++ [c]) hl (by simpa using h)
 have := ho.isRowCap (n + 1) (by omega) h2
 rw [hl] at this
 exact this

theorem run_Add64_y0 (x c : Nat) (hc : c ≤ 1) (w : World) :
  (callFunc 60 #[.int .u64 x, .int .u64 0, .int .u64 c]).run Try.prog w = .ok (.value (.tuple #[.int .u64 (addLo x 0 c : Nat), .int .u64 (addHi x 0 c : Nat)])) w :=
 run_Add64 x 0 c hc w
theorem run_Sub64_y0 (x c : Nat) (hc : c ≤ 1) (w : World) :
  (callFunc 63 #[.int .u64 x, .int .u64 0, .int .u64 c]).run Try.prog w = .ok (.value (.tuple #[.int .u64 (subLo x 0 c : Nat), .int .u64 (subHi x 0 c : Nat)])) w :=
 run_Sub64 x 0 c hc w

set_option maxRecDepth 100000 in
set_option maxHeartbeats 2000000 in
theorem plus_any (m n : Nat) (va vb : Value) (w : World) (ha : IsNat .u64 b64 w va m) (hb : IsNat .u64 b64 w vb n) (hla : (dig b64 m).length ≤ 1099511627776) (hlb : (dig b64 n).length ≤ 1099511627776) :
  Calls Try.prog 43 #[va, vb] w (RetNat .u64 b64 (m + n) w) := by
 obtain ⟨aa, ca, rfl, hA⟩ := IsRow.opened ha
 obtain ⟨ab, cb, rfl, hB⟩ := IsRow.opened hb
 have hdA := dgs_dig b64_two m
 have hdB := dgs_dig b64_two n
 have HLA := Lib.hid (dig_last b64_two m)
 have HLB := Lib.hid (dig_last b64_two n)
 have HVA : Hid (lv b64 (dig b64 m) + lv b64 (dig b64 n) = m + n) := by show _ = _; rw [lv_dig b64_two, lv_dig b64_two]
 have HVB : Hid (lv b64 (dig b64 n) + lv b64 (dig b64 m) = m + n) := by show _ = _; rw [lv_dig b64_two, lv_dig b64_two, Nat.add_comm]
 clear ha hb
 generalize dig b64 m = dA at *
 generalize dig b64 n = dB at *
 obtain ⟨i0, hi, hz0, hz1, hz2⟩ := info_parts info_u64
 by_cases hsw : dA.length < dB.length
 ·
  have tsw : decide (dA.length < dB.length) = true := decide_eq_true hsw
  go_enter Try.func43, Try.ntmps43
  go_wp2_with (at_make; refine wpList_make_room _ rfl _ _ 43 rfl w.heap.size 80 i0 (.int .u64 0) 1 Try.underlying43 hi hz0 hz1 _ _ _ _ dB.length (dB.length + 1) rfl rfl (by omega) (by omega) (by omega) (by rw [hz2]; omega) (by unfold maxLen; omega) (by omega) ?_)
  intro w1 hown hgrow
  have ho := OwnAll.of_room hown
  have hbel := (Below.refl w.heap.size w).grown hgrow (Nat.le_refl _) (by simp)
  clear hown hgrow
  go_wp2_with fail
  go_loopw [6, 25] (fun cv iv wr => ∃ (i : Nat) (o : List Nat) (c : Nat), i ≤ dB.length ∧ iv = .int .i64 i ∧ cv = .int .u64 c ∧ OwnAll wr w.heap.size .u64 80 (o ++ [0]) ∧ Hid (PlIn dB dA dB.length i o c) ∧ Below w.heap.size w wr)
   (fun _ iv _ => dB.length - (intOf iv).toNat)
  case atStart => exact ⟨0, _, 0, Nat.zero_le _, rfl, rfl, ho, PlIn.start _ _ _, hbel⟩
  case round =>
   clear ho hbel
   obtain ⟨i, o, c, hil, rfl, rfl, ho, hM, hbel⟩ := hrel
   by_cases hlt : i < dB.length
   ·
    obtain ⟨b, off, rfl, hbA, hcA⟩ := hB (by omega)
    have hca := (hbel.cell (p := ⟨b, off + i, none⟩) hbA).trans (hcA i hlt)
    have hfo := ho.frozen i
    have hlo := hM.out.len
    obtain ⟨q0, hco⟩ := ho.cell i (by rw [List.length_append]; omega)
    have hst := Lib.hid (fun x y hx hy => hM.out.step hdB hdA hlt x y hx hy)
    have hlt' : (i : Int) < dB.length := by omega
    have hge' : (0 : Int) ≤ i := by omega
    have hset : ∀ v, (o ++ [0]).set i v = o.set i v ++ [0] := fun v => by rw [List.set_append_left _ _ (by omega)]
    have HSET := Lib.hid hset
    have hcar := hM.out.car
    clear hset hlo
    by_cases hlb : i < dA.length
    ·
     obtain ⟨b', off', rfl, hbB, hcB⟩ := hA (by omega)
     have hcb := (hbel.cell (p := ⟨b', off' + i, none⟩) hbB).trans (hcB i hlb)
     have hlb' : (i : Int) < dA.length := by omega
     have tb : decide (i < dA.length) = true := decide_eq_true hlb
     have HST := Lib.hid (hst.out _ _ rfl rfl)
     clear hst
     generalize dB.getD i 0 = x at *
     generalize dA.getD i 0 = y at *
     have hadd := run_Add64 x y c hcar
     clear hcar
     go_wp2_with fail
     exact ⟨⟨i + 1, _, _, by omega, by go_num, rfl, by rw [← HSET.out]; exact ho.store i _, HST.out, hbel.setCell (p := ⟨w.heap.size, i, none⟩) (Nat.le_refl _) _⟩, meas_up hlt⟩
    ·
     have tb : decide (i < dA.length) = false := decide_eq_false hlb
     have HST := Lib.hid (hst.out _ 0 rfl (by simp [List.getElem?_eq_none (Nat.le_of_not_lt hlb)]))
     clear hst
     generalize dB.getD i 0 = x at *
     have hadd := run_Add64_y0 x c hcar
     clear hcar
     go_wp2_with fail
     exact ⟨⟨i + 1, _, _, by omega, by go_num, rfl, by rw [← HSET.out]; exact ho.store i _, HST.out, hbel.setCell (p := ⟨w.heap.size, i, none⟩) (Nat.le_refl _) _⟩, meas_up hlt⟩
   ·
    obtain rfl : i = dB.length := by omega
    have hlen := Lib.hid hM.out.len
    have hpd := plus_dig hM.out (by omega) HLB.out
    have hv : lv b64 dB + lv b64 dA = m + n := HVB.out
    rw [hv] at hpd
    have HP0 := Lib.hid hpd.1
    have HP1 := Lib.hid hpd.2
    clear hpd hv
    rcases Nat.eq_zero_or_pos c with hc | hc
    ·
     subst hc
     have HP := Lib.hid (HP0.out rfl)
     have hrow := (Own.init ho.own).isRowCap (dB.length + 1) (by rw [hlen.out]; omega) (by unfold maxLen; omega)
     rw [hlen.out] at hrow
     have HR := Lib.hid hrow
     clear hrow
     go_wp2_with fail
     go_ret
     exact ⟨_, rfl, by show IsRow _ _ _ _; rw [HP.out]; exact HR.out, hbel⟩
    ·
     have tc : decide (0 < c) = true := decide_eq_true hc
     have HP := Lib.hid (HP1.out hc)
     have how := ho.ownsRow dB.length w.heap.size (Nat.le_refl _) hlen.out (by unfold maxLen; omega)
     have hx1 := hbel.alloc hbel.size (.cells #[.int .u64 (c : Int)] 80)
     have hcn := cell_one_new wr (.int .u64 (c : Int)) 80
     have HCN := Lib.hid hcn
     have HOW := Lib.hid (how.alloc (.cells #[.int .u64 (c : Int)] 80))
     clear how hcn hc ho
     go_wp2_with (at_builtin; refine wpList_append_fits _ rfl (.tmp 51) (.tmp 53) 43 rfl w.heap.size 80 i0 1 Try.underlying43 hi hz1 _ _ _ _ rfl HOW.out ⟨wr.heap.size, 0, none⟩ 1 1 [.int .u64 (c : Int)] rfl rfl HCN.out (by simp [Value.oneCell']) (by omega) ?_)
     intro w2 hown2 hgr2
     have hb2 : Below w.heap.size w w2 := hx1.grown hgr2 hx1.size (by simp)
     have HR := Lib.hid (digits_row hlen.out hown2)
     clear hown2 hgr2 hx1
     go_wp2_with fail
     go_ret
     exact ⟨_, rfl, by show IsRow _ _ _ _; rw [HP.out]; exact HR.out, hb2⟩
 ·
  have tsw : decide (dA.length < dB.length) = false := decide_eq_false hsw
  go_enter Try.func43, Try.ntmps43
  go_wp2_with (at_make; refine wpList_make_room _ rfl _ _ 43 rfl w.heap.size 80 i0 (.int .u64 0) 1 Try.underlying43 hi hz0 hz1 _ _ _ _ dA.length (dA.length + 1) rfl rfl (by omega) (by omega) (by omega) (by rw [hz2]; omega) (by unfold maxLen; omega) (by omega) ?_)
  intro w1 hown hgrow
  have ho := OwnAll.of_room hown
  have hbel := (Below.refl w.heap.size w).grown hgrow (Nat.le_refl _) (by simp)
  clear hown hgrow
  go_wp2_with fail
  go_loopw [6, 25] (fun cv iv wr => ∃ (i : Nat) (o : List Nat) (c : Nat), i ≤ dA.length ∧ iv = .int .i64 i ∧ cv = .int .u64 c ∧ OwnAll wr w.heap.size .u64 80 (o ++ [0]) ∧ Hid (PlIn dA dB dA.length i o c) ∧ Below w.heap.size w wr)
   (fun _ iv _ => dA.length - (intOf iv).toNat)
  case atStart => exact ⟨0, _, 0, Nat.zero_le _, rfl, rfl, ho, PlIn.start _ _ _, hbel⟩
  case round =>
   clear ho hbel
   obtain ⟨i, o, c, hil, rfl, rfl, ho, hM, hbel⟩ := hrel
   by_cases hlt : i < dA.length
   ·
    obtain ⟨b, off, rfl, hbA, hcA⟩ := hA (by omega)
    have hca := (hbel.cell (p := ⟨b, off + i, none⟩) hbA).trans (hcA i hlt)
    have hfo := ho.frozen i
    have hlo := hM.out.len
    obtain ⟨q0, hco⟩ := ho.cell i (by rw [List.length_append]; omega)
    have hst := Lib.hid (fun x y hx hy => hM.out.step hdA hdB hlt x y hx hy)
    have hlt' : (i : Int) < dA.length := by omega
    have hge' : (0 : Int) ≤ i := by omega
    have hset : ∀ v, (o ++ [0]).set i v = o.set i v ++ [0] := fun v => by rw [List.set_append_left _ _ (by omega)]
    have HSET := Lib.hid hset
    have hcar := hM.out.car
    clear hset hlo
    by_cases hlb : i < dB.length
    ·
     obtain ⟨b', off', rfl, hbB, hcB⟩ := hB (by omega)
     have hcb := (hbel.cell (p := ⟨b', off' + i, none⟩) hbB).trans (hcB i hlb)
     have hlb' : (i : Int) < dB.length := by omega
     have tb : decide (i < dB.length) = true := decide_eq_true hlb
     have HST := Lib.hid (hst.out _ _ rfl rfl)
     clear hst
     generalize dA.getD i 0 = x at *
     generalize dB.getD i 0 = y at *
     have hadd := run_Add64 x y c hcar
     clear hcar
     go_wp2_with fail
     exact ⟨⟨i + 1, _, _, by omega, by go_num, rfl, by rw [← HSET.out]; exact ho.store i _, HST.out, hbel.setCell (p := ⟨w.heap.size, i, none⟩) (Nat.le_refl _) _⟩, meas_up hlt⟩
    ·
     have tb : decide (i < dB.length) = false := decide_eq_false hlb
     have HST := Lib.hid (hst.out _ 0 rfl (by simp [List.getElem?_eq_none (Nat.le_of_not_lt hlb)]))
     clear hst
     generalize dA.getD i 0 = x at *
     have hadd := run_Add64_y0 x c hcar
     clear hcar
     go_wp2_with fail
     exact ⟨⟨i + 1, _, _, by omega, by go_num, rfl, by rw [← HSET.out]; exact ho.store i _, HST.out, hbel.setCell (p := ⟨w.heap.size, i, none⟩) (Nat.le_refl _) _⟩, meas_up hlt⟩
   ·
    obtain rfl : i = dA.length := by omega
    have hlen := Lib.hid hM.out.len
    have hpd := plus_dig hM.out (by omega) HLA.out
    have hv : lv b64 dA + lv b64 dB = m + n := HVA.out
    rw [hv] at hpd
    have HP0 := Lib.hid hpd.1
    have HP1 := Lib.hid hpd.2
    clear hpd hv
    rcases Nat.eq_zero_or_pos c with hc | hc
    ·
     subst hc
     have HP := Lib.hid (HP0.out rfl)
     have hrow := (Own.init ho.own).isRowCap (dA.length + 1) (by rw [hlen.out]; omega) (by unfold maxLen; omega)
     rw [hlen.out] at hrow
     have HR := Lib.hid hrow
     clear hrow
     go_wp2_with fail
     go_ret
     exact ⟨_, rfl, by show IsRow _ _ _ _; rw [HP.out]; exact HR.out, hbel⟩
    ·
     have tc : decide (0 < c) = true := decide_eq_true hc
     have HP := Lib.hid (HP1.out hc)
     have how := ho.ownsRow dA.length w.heap.size (Nat.le_refl _) hlen.out (by unfold maxLen; omega)
     have hx1 := hbel.alloc hbel.size (.cells #[.int .u64 (c : Int)] 80)
     have hcn := cell_one_new wr (.int .u64 (c : Int)) 80
     have HCN := Lib.hid hcn
     have HOW := Lib.hid (how.alloc (.cells #[.int .u64 (c : Int)] 80))
     clear how hcn hc ho
     go_wp2_with (at_builtin; refine wpList_append_fits _ rfl (.tmp 51) (.tmp 53) 43 rfl w.heap.size 80 i0 1 Try.underlying43 hi hz1 _ _ _ _ rfl HOW.out ⟨wr.heap.size, 0, none⟩ 1 1 [.int .u64 (c : Int)] rfl rfl HCN.out (by simp [Value.oneCell']) (by omega) ?_)
     intro w2 hown2 hgr2
     have hb2 : Below w.heap.size w w2 := hx1.grown hgr2 hx1.size (by simp)
     have HR := Lib.hid (digits_row hlen.out hown2)
     clear hown2 hgr2 hx1
     go_wp2_with fail
     go_ret
     exact ⟨_, rfl, by show IsRow _ _ _ _; rw [HP.out]; exact HR.out, hb2⟩

structure MiIn (a b : List Nat) (n i : Nat) (o : List Nat) (c : Nat) : Prop where
 len : o.length = n
 dgs : Dgs b64 o
 car : c ≤ 1
 val : lv b64 o + lv b64 (b.take i) = lv b64 (a.take i) + b64 ^ i * c
 top : ∀ j, i ≤ j → o.getD j 0 = 0
theorem MiIn.start (a b : List Nat) (n : Nat) : MiIn a b n 0 (List.replicate n 0) 0 :=
 ⟨by simp, Dgs.replicate b64_pos _, by omega, by simp [lv_replicate, lv], fun j _ => by simp [List.getElem?_replicate]; split <;> rfl⟩
theorem sub_eq_plus (x y c : Nat) (hx : x < b64) (hy : y < b64) (hc : c ≤ 1) : subLo x y c + y + c = x + b64 * subHi x y c := by
 unfold subLo subHi
 by_cases h : x < y + c
 ·
  rw [if_pos h, Nat.mod_eq_of_lt (by omega)]; omega
 ·
  rw [if_neg h]
  have e : b64 + x - y - c = (x - y - c) + b64 := by omega
  rw [e, Nat.add_mod_right, Nat.mod_eq_of_lt (by omega)]
  omega
theorem MiIn.step {a b : List Nat} {n i : Nat} {o : List Nat} {c : Nat} (h : MiIn a b n i o c) (ha : Dgs b64 a) (hb : Dgs b64 b) (hi : i < n) (x y : Nat) (hx : x = a.getD i 0) (hy : y = b.getD i 0) :
  MiIn a b n (i + 1) (o.set i (subLo x y c)) (subHi x y c) := by
 have hxl := ha.getD b64_pos i
 have hyl := hb.getD b64_pos i
 rw [← hx] at hxl
 rw [← hy] at hyl
 refine ⟨by simpa using h.len, h.dgs.set _ _ (subLo_lt _ _ _), subHi_le _ _ _, ?_, fun j hj => ?_⟩
 ·
  have h1 := lv_set b64 o i (subLo x y c) (by rw [h.len]; exact hi)
  rw [h.top i (Nat.le_refl _)] at h1
  have h2 := h.val
  rw [take_step64, take_step64, Nat.pow_succ, ← hx, ← hy]
  have e4 := sub_eq_plus x y c hxl hyl h.car
  have e5 : b64 ^ i * (subLo x y c + y + c) = b64 ^ i * (x + b64 * subHi x y c) := by rw [e4]
  rw [Nat.mul_assoc]
  simp only [Nat.mul_add] at e5
  omega
 ·
  have := h.top j (by omega)
  rw [List.getD_eq_getElem?_getD] at *
  rw [List.getElem?_set_ne (by omega)]
  exact this
theorem MiIn.done {a b o : List Nat} {c : Nat} (h : MiIn a b a.length a.length o c) (hl : b.length ≤ a.length) (hle : lv b64 b ≤ lv b64 a) : lv b64 o = lv b64 a - lv b64 b := by
 have hv := h.val
 rw [List.take_of_length_le (Nat.le_refl _), List.take_of_length_le hl] at hv
 rcases Nat.eq_zero_or_pos c with h0 | h0
 ·
  subst h0; omega
 ·
  have hc : c = 1 := by have := h.car; omega
  subst hc
  have := lv_lt h.dgs
  rw [h.len] at this
  omega

set_option maxRecDepth 100000 in
set_option maxHeartbeats 2000000 in
theorem minus_any (m n : Nat) (va vb : Value) (w : World) (ha : IsNat .u64 b64 w va m) (hb : IsNat .u64 b64 w vb n) (hle : n ≤ m) (hla : (dig b64 m).length ≤ 1099511627776) :
  Calls Try.prog 45 #[va, vb] w (RetNat .u64 b64 (m - n) w) := by
 obtain ⟨aa, ca, rfl, hA⟩ := IsRow.opened ha
 obtain ⟨ab, cb, rfl, hB⟩ := IsRow.opened hb
 have hdA := dgs_dig b64_two m
 have hdB := dgs_dig b64_two n
 have hlen := dig_length_mono b64_two hle
 have Hva := Lib.hid (lv_dig b64_two m)
 have Hvb := Lib.hid (lv_dig b64_two n)
 clear ha hb
 generalize dig b64 m = dA at *
 generalize dig b64 n = dB at *
 obtain ⟨i0, hi, hz0, hz1, hz2⟩ := info_parts info_u64
 go_enter Try.func45, Try.ntmps45
 go_wp2_with (at_make; refine wpList_make_full _ rfl _ _ 43 rfl w.heap.size 80 i0 (.int .u64 0) 1 Try.underlying43 hi hz0 hz1 _ _ _ _ dA.length rfl rfl (by omega) (by omega) (by rw [hz2]; omega) (by unfold maxLen; omega) (by omega) ?_)
 intro w1 hown hgrow
 have ho := Own.of_made hown
 have hbel := (Below.refl w.heap.size w).grown hgrow (Nat.le_refl _) (by simp)
 clear hown hgrow hi hz0 hz1 hz2
 go_wp2_with fail
 go_loopw [6, 15] (fun cv iv wr => ∃ (i : Nat) (o : List Nat) (c : Nat), i ≤ dA.length ∧ iv = .int .i64 i ∧ cv = .int .u64 c ∧ Own wr w.heap.size .u64 80 o ∧ Hid (MiIn dA dB dA.length i o c) ∧ Below w.heap.size w wr)
  (fun _ iv _ => dA.length - (intOf iv).toNat)
 case atStart => exact ⟨0, _, 0, Nat.zero_le _, rfl, rfl, ho, MiIn.start _ _ _, hbel⟩
 case round =>
  clear ho hbel
  obtain ⟨i, o, c, hil, rfl, rfl, ho, hM, hbel⟩ := hrel
  by_cases hlt : i < dA.length
  ·
   obtain ⟨b, off, rfl, hbA, hcA⟩ := hA (by omega)
   have hca := (hbel.cell (p := ⟨b, off + i, none⟩) hbA).trans (hcA i hlt)
   have hfo := ho.frozen i
   have hco := ho.cell i (by rw [hM.out.len]; omega)
   have hst := Lib.hid (fun x y hx hy => hM.out.step hdA hdB hlt x y hx hy)
   have hlt' : (i : Int) < dA.length := by omega
   have hge' : (0 : Int) ≤ i := by omega
   have hcar := hM.out.car
   generalize o.getD i 0 = q0 at *
   by_cases hlb : i < dB.length
   ·
    obtain ⟨b', off', rfl, hbB, hcB⟩ := hB (by omega)
    have hcb := (hbel.cell (p := ⟨b', off' + i, none⟩) hbB).trans (hcB i hlb)
    have hlb' : (i : Int) < dB.length := by omega
    have tb : decide (i < dB.length) = true := decide_eq_true hlb
    have HST := Lib.hid (hst.out _ _ rfl rfl)
    clear hst
    generalize dA.getD i 0 = x at *
    generalize dB.getD i 0 = y at *
    have hsub := run_Sub64 x y c hcar
    clear hcar
    go_wp2_with fail
    exact ⟨⟨i + 1, _, _, by omega, by go_num, rfl, ho.store i _, HST.out, hbel.setCell (p := ⟨w.heap.size, i, none⟩) (Nat.le_refl _) _⟩, meas_up hlt⟩
   ·
    have tb : decide (i < dB.length) = false := decide_eq_false hlb
    have HST := Lib.hid (hst.out _ 0 rfl (by simp [List.getElem?_eq_none (Nat.le_of_not_lt hlb)]))
    clear hst
    generalize dA.getD i 0 = x at *
    have hsub := run_Sub64_y0 x c hcar
    clear hcar
    go_wp2_with fail
    exact ⟨⟨i + 1, _, _, by omega, by go_num, rfl, ho.store i _, HST.out, hbel.setCell (p := ⟨w.heap.size, i, none⟩) (Nat.le_refl _) _⟩, meas_up hlt⟩
  ·
   obtain rfl : i = dA.length := by omega
   have hl := hM.out.len
   have hrow := ho.isRow (by rw [hl]; unfold maxLen; omega)
   rw [hl] at hrow
   have HR := Lib.hid hrow
   have HD := Lib.hid hM.out.dgs
   have HV := Lib.hid (hM.out.done hlen (by rw [Hva.out, Hvb.out]; exact hle))
   clear hl hrow ho
   go_wp2_with fail
   refine (cut_any o _ _ HR.out HD.out).mono ?_
   rintro e w' ⟨v, rfl, hv, rfl⟩
   go_wp2_with fail
   go_ret
   exact ⟨v, rfl, by rw [← Hva.out, ← Hvb.out, ← HV.out]; exact hv, hbel⟩

end Go.Proofs.Ytnjpkfccncjkhaa

namespace Go.Proofs.Ytnjpkfccncjkhaa
open Go.RowKit

theorem IsRat.stored {w : World} {B : Nat} {neg : Bool} {x1 y1 : Option Addr} {i1 j1 k1 l1 n : Nat} {q : Rat}
  (hB : RB w B) (h1 : IsNat .u64 b64 w (.slice x1 i1 j1) n) (h2 : IsNat .u64 b64 w (.slice y1 k1 l1) (dn q.den))
  (hn : decide (q.num < 0) = neg) (hm : q.num.natAbs = n) :
  IsRat (((w.setCell ⟨B, 0, none⟩ (.bool neg)).setCell ⟨B, 1, none⟩ (.slice x1 i1 j1)).setCell ⟨B, 2, none⟩ (.slice y1 k1 l1)) (.agg #[.bool neg, .slice x1 i1 j1, .slice y1 k1 l1]) q := by
 subst hn hm
 obtain ⟨b, x, i, j, y, k, l, T, hB⟩ := hB
 exact ⟨_, _, rfl, store3 hB h1, store3 hB h2⟩

set_option maxRecDepth 100000 in
set_option maxHeartbeats 4000000 in
theorem addRat_any (x y : Rat) (vx vy : Value) (w : World) (hx : IsRat w vx x) (hy : IsRat w vy y) (hlx : szR x 68719476736) (hly : szR y 68719476736) : Calls Try.prog 26 #[vx, vy] w (RetRat (x + y) w) := by
 obtain ⟨a1, c1, a2, c2, rfl, n1, n2⟩ := hx.opened
 obtain ⟨a3, c3, a4, c4, rfl, n3, n4⟩ := hy.opened
 have N1 := Lib.hid n1
 have N2 := Lib.hid n2
 have N3 := Lib.hid n3
 have N4 := Lib.hid n4
 have He := Lib.hid (mkQ_add x y)
 have hA := dig_length_mul b64_two x.num.natAbs y.den
 have hB := dig_length_mul b64_two y.num.natAbs x.den
 have hC := dig_length_mul b64_two x.den y.den
 have HA : Hid ((dig b64 (x.num.natAbs * y.den)).length ≤ 137438953472) := by have := hlx.1; have := hly.2; show _ ≤ _; omega
 have HBB : Hid ((dig b64 (y.num.natAbs * x.den)).length ≤ 137438953472) := by have := hlx.2; have := hly.1; show _ ≤ _; omega
 have HC : Hid ((dig b64 (x.den * y.den)).length ≤ 137438953472) := by have := hlx.2; have := hly.2; show _ ≤ _; omega
 have hS := dig_length_add b64_two (x.num.natAbs * y.den) (y.num.natAbs * x.den) 137438953472 HA.out HBB.out
 have HS := Lib.hid hS
 have HP := Lib.hid (Nat.mul_pos x.den_pos y.den_pos)
 have HLX := Lib.hid hlx
 have HLY := Lib.hid hly
 clear hx hy n1 n2 n3 n4 hlx hly hA hB hC hS
 go_enter Try.func26, Try.ntmps26
 go_wp2_with fail
 generalize hsx : decide (x.num < 0) = sx at *
 generalize hsy : decide (y.num < 0) = sy at *
 clear hsx hsy
 generalize hW0 : ((w.alloc (.cells #[.bool sx, .slice a1 (dig b64 x.num.natAbs).length c1, .slice a2 (dig b64 (dn x.den)).length c2] 45)).alloc (.cells #[.bool sy, .slice a3 (dig b64 y.num.natAbs).length c3, .slice a4 (dig b64 (dn y.den)).length c4] 45)).alloc (.cells #[.bool false, .slice none 0 0, .slice none 0 0] 45) = W at *
 obtain ⟨hal, hB1, hB2, hB3⟩ := boxes3 w _ _ _ _ W hW0.symm
 clear hW0
 have hW : Below w.heap.size w W.drew := hal.drew
 have p0 := blk_cell hB1 0 (.bool sx) rfl
 have p1 := blk_cell hB1 1 (.slice a1 (dig b64 x.num.natAbs).length c1) rfl
 have p2 := blk_cell hB1 2 (.slice a2 (dig b64 (dn x.den)).length c2) rfl
 have r0 := blk_cell hB2 0 (.bool sy) rfl
 have r1 := blk_cell hB2 1 (.slice a3 (dig b64 y.num.natAbs).length c3) rfl
 have r2 := blk_cell hB2 2 (.slice a4 (dig b64 (dn y.den)).length c4) rfl
 have HB : Hid (RB W (w.heap.size + 2)) := ⟨false, none, 0, 0, none, 0, 0, _, hB3⟩
 have hl3 := blk_lt hB3
 clear hB1 hB2 hB3
 go_region_held3 (fun w' => Below w.heap.size w w' ∧ RB w' (w.heap.size + 2) ∧ w'.cell? ⟨w.heap.size, 0, none⟩ = some (.bool sx) ∧ w'.cell? ⟨w.heap.size, 1, none⟩ = some (.slice a1 (dig b64 x.num.natAbs).length c1) ∧ w'.cell? ⟨w.heap.size, 2, none⟩ = some (.slice a2 (dig b64 (dn x.den)).length c2) ∧ w'.cell? ⟨w.heap.size + 1, 0, none⟩ = some (.bool sy) ∧ w'.cell? ⟨w.heap.size + 1, 1, none⟩ = some (.slice a3 (dig b64 y.num.natAbs).length c3) ∧ w'.cell? ⟨w.heap.size + 1, 2, none⟩ = some (.slice a4 (dig b64 (dn y.den)).length c4) ∧ w'.cell? ⟨w.heap.size + 2, 0, none⟩ = some (cellOf w' ⟨w.heap.size + 2, 0, none⟩) ∧ w'.cell? ⟨w.heap.size + 2, 1, none⟩ = some (cellOf w' ⟨w.heap.size + 2, 1, none⟩) ∧ w'.cell? ⟨w.heap.size + 2, 2, none⟩ = some (cellOf w' ⟨w.heap.size + 2, 2, none⟩) ∧ w'.frozen? ⟨w.heap.size + 2, 0, none⟩ = false ∧ w'.frozen? ⟨w.heap.size + 2, 1, none⟩ = false ∧ w'.frozen? ⟨w.heap.size + 2, 2, none⟩ = false)
  (first | exact hold6 hW p0 p1 p2 r0 r1 r2 HB.out | exact hold6_call (Nat.le_refl _) hbB (by assumption) | exact hold6_call (Nat.le_refl _) hbA (by assumption))
  (first
   | (go_at_call_of 40 (Value.slice a2 (dig b64 (dn x.den)).length c2); (with_reducible refine (under_any x.den _ _ (N2.out.below (And.left (by assumption))) x.den_pos).mono ?_); rintro e wA ⟨vA, rfl, hvA, hbA⟩)
   | (go_at_call_of 40 (Value.slice a4 (dig b64 (dn y.den)).length c4); (with_reducible refine (under_any y.den _ _ (N4.out.below (And.left (by assumption))) y.den_pos).mono ?_); rintro e wB ⟨vB, rfl, hvB, hbB⟩))
 rename_i hS1
 have hD := ext_trans hbA hbB
 have HB1 : Hid (RB wB (w.heap.size + 2)) := RB.keep (a := W.drew) HB.out hD hl3
 have hl31 := HB1.out.lt
 have hXA := Lib.hid (hvA.below hbB)
 have hXB := Lib.hid hvB
 obtain ⟨hWB, -, p0', p1', p2', r0', r1', r2', -⟩ := hS1
 clear p0 p1 p2 r0 r1 r2
 replace p0 := p0'
 replace p1 := p1'
 replace p2 := p2'
 replace r0 := r0'
 replace r1 := r1'
 replace r2 := r2'
 clear p0' p1' p2' r0' r1' r2'
 have hWB2 : Below w.heap.size w wB.drew := hWB.drew
 clear hbA hbB hvA hvB hD HB hW hal hl3
 go_wp2_with fail
 go_region_held3 (fun w' => Below w.heap.size w w' ∧ RB w' (w.heap.size + 2) ∧ w'.cell? ⟨w.heap.size, 0, none⟩ = some (.bool sx) ∧ w'.cell? ⟨w.heap.size, 1, none⟩ = some (.slice a1 (dig b64 x.num.natAbs).length c1) ∧ w'.cell? ⟨w.heap.size, 2, none⟩ = some (.slice a2 (dig b64 (dn x.den)).length c2) ∧ w'.cell? ⟨w.heap.size + 1, 0, none⟩ = some (.bool sy) ∧ w'.cell? ⟨w.heap.size + 1, 1, none⟩ = some (.slice a3 (dig b64 y.num.natAbs).length c3) ∧ w'.cell? ⟨w.heap.size + 1, 2, none⟩ = some (.slice a4 (dig b64 (dn y.den)).length c4) ∧ w'.cell? ⟨w.heap.size + 2, 0, none⟩ = some (cellOf w' ⟨w.heap.size + 2, 0, none⟩) ∧ w'.cell? ⟨w.heap.size + 2, 1, none⟩ = some (cellOf w' ⟨w.heap.size + 2, 1, none⟩) ∧ w'.cell? ⟨w.heap.size + 2, 2, none⟩ = some (cellOf w' ⟨w.heap.size + 2, 2, none⟩) ∧ w'.frozen? ⟨w.heap.size + 2, 0, none⟩ = false ∧ w'.frozen? ⟨w.heap.size + 2, 1, none⟩ = false ∧ w'.frozen? ⟨w.heap.size + 2, 2, none⟩ = false)
  (first | exact hold6 hWB2 p0 p1 p2 r0 r1 r2 HB1.out | exact hold6_call (Nat.le_refl _) hbD (by assumption) | exact hold6_call (Nat.le_refl _) hbC (by assumption))
  (first
   | (go_at_call_of 41 (Value.slice a1 (dig b64 x.num.natAbs).length c1); refine (times_any x.num.natAbs y.den _ _ _ (N1.out.below (And.left (by assumption))) (hXB.out.below (Below.refl _ _).drew) (by have := HLX.out.1; have := HLY.out.2; omega)).mono ?_; rintro e wC ⟨vC, rfl, hvC, hbC⟩)
   | (go_at_call_of 41 (Value.slice a3 (dig b64 y.num.natAbs).length c3); refine (times_any y.num.natAbs x.den _ _ _ (N3.out.below (And.left (by assumption))) ((hXA.out.below (Below.refl _ _).drew).below hbC) (by have := HLX.out.2; have := HLY.out.1; omega)).mono ?_; rintro e wD ⟨vD, rfl, hvD, hbD⟩))
 rename_i hS1
 have hD : Below wB.heap.size wB wD := ext_trans (Below.refl _ _).drew (ext_trans hbC hbD)
 have HB2 : Hid (RB wD (w.heap.size + 2)) := RB.keep HB1.out hD hl31
 have hl32 := HB2.out.lt
 have hB3 := Lib.hid (hvC.below hbD)
 have hD3 := Lib.hid hvD
 have hXA2 := Lib.hid (hXA.out.below hD)
 have hXB2 := Lib.hid (hXB.out.below hD)
 obtain ⟨hWD, -, p0', p1', p2', r0', r1', r2', -⟩ := hS1
 clear p0 p1 p2 r0 r1 r2
 replace p0 := p0'
 replace p1 := p1'
 replace p2 := p2'
 replace r0 := r0'
 replace r1 := r1'
 replace r2 := r2'
 clear p0' p1' p2' r0' r1' r2'
 clear hbC hbD hvC hvD hD HB1 hXA hXB hWB hWB2 hl31
 go_wp2_with fail
 refine (times_any x.den y.den _ _ _ hXA2.out hXB2.out (by have := HLX.out.2; have := HLY.out.2; omega)).mono ?_
 rintro e W2 ⟨vC, rfl, hvC, hbF⟩
 have HC3 := Lib.hid hvC
 have HN1 := Lib.hid (hB3.out.below hbF)
 have HN2 := Lib.hid (hD3.out.below hbF)
 have HB3 : Hid (RB W2 (w.heap.size + 2)) := RB.keep HB2.out hbF hl32
 have e6 := hold6_call (Nat.le_refl _) hbF (hold6 hWD p0 p1 p2 r0 r1 r2 HB2.out)
 obtain ⟨hW2, -, p0', p1', p2', r0', r1', r2', -⟩ := e6
 clear p0 p1 p2 r0 r1 r2 hbF HB2 hB3 hD3 hXA2 hXB2 hvC hWD hl32
 replace p0 := p0'
 replace p1 := p1'
 replace p2 := p2'
 replace r0 := r0'
 replace r1 := r1'
 replace r2 := r2'
 clear p0' p1' p2' r0' r1' r2'
 have HB2 := HB3
 have hl32 := HB2.out.lt
 clear HB3
 generalize x.num.natAbs * y.den = A at *
 generalize y.num.natAbs * x.den = B at *
 generalize x.den * y.den = C at *
 by_cases hs : (sx == sy) = true
 ·
  have Hs := Lib.hid hs
  go_wp2_with fail
  have hWe : Below w.heap.size w W2.drew := hW2.drew
  go_region_held3 (fun w' => Below w.heap.size w w' ∧ RB w' (w.heap.size + 2) ∧ w'.cell? ⟨w.heap.size, 0, none⟩ = some (.bool sx) ∧ w'.cell? ⟨w.heap.size, 1, none⟩ = some (.slice a1 (dig b64 x.num.natAbs).length c1) ∧ w'.cell? ⟨w.heap.size, 2, none⟩ = some (.slice a2 (dig b64 (dn x.den)).length c2) ∧ w'.cell? ⟨w.heap.size + 1, 0, none⟩ = some (.bool sy) ∧ w'.cell? ⟨w.heap.size + 1, 1, none⟩ = some (.slice a3 (dig b64 y.num.natAbs).length c3) ∧ w'.cell? ⟨w.heap.size + 1, 2, none⟩ = some (.slice a4 (dig b64 (dn y.den)).length c4) ∧ w'.cell? ⟨w.heap.size + 2, 0, none⟩ = some (cellOf w' ⟨w.heap.size + 2, 0, none⟩) ∧ w'.cell? ⟨w.heap.size + 2, 1, none⟩ = some (cellOf w' ⟨w.heap.size + 2, 1, none⟩) ∧ w'.cell? ⟨w.heap.size + 2, 2, none⟩ = some (cellOf w' ⟨w.heap.size + 2, 2, none⟩) ∧ w'.frozen? ⟨w.heap.size + 2, 0, none⟩ = false ∧ w'.frozen? ⟨w.heap.size + 2, 1, none⟩ = false ∧ w'.frozen? ⟨w.heap.size + 2, 2, none⟩ = false)
   (first | exact hold6 hWe p0 p1 p2 r0 r1 r2 HB2.out | exact hold6_call (Nat.le_refl _) hbE (by assumption) | exact hold6_call (Nat.le_refl _) hbD (by assumption) | exact hold6_store _ _ _ _ _ _ _ (by omega) (by omega) (by omega) (by assumption) _ rfl)
   (first
    | (go_at_call 43; (refine (plus_any A B _ _ _ (HN1.out.below (Below.refl _ _).drew) (HN2.out.below (Below.refl _ _).drew) (by have := HA.out; omega) (by have := HBB.out; omega)).mono ?_); rintro e wD' ⟨vE, rfl, hvE, hbD⟩)
    | (go_at_call 42; (refine (reduced_any _ (A + B) C _ _ _ hvE (HC3.out.below (ext_trans (show Below W2.heap.size W2 W2.drew from (Below.refl _ _).drew) hbD)) HP.out (by have := HA.out; have := HBB.out; have := HS.out; omega) (by have := HC.out; omega)).mono ?_); rintro e wE ⟨vF, rfl, hvF, hbE⟩; obtain ⟨a5, c5, a6, c6, rfl, n5, n6⟩ := IsRat.opened hvF))
  have hE := ext_trans hbD hbE
  have hRB := RB.keep (a := W2.drew) HB2.out hE hl32
  obtain ⟨g0, g1, g2, f0', f1', f2'⟩ := hRB.cell
  have hx := hWe.trans (hE.mono hWe.size)
  have hBl := hRB.lt
  have He' := He.out sx (A + B) (by have e : sx = sy := (by simpa using Hs.out); rw [← e]; exact sg_add sx A B)
  generalize mkQ sx (A + B) C = q at *
  subst He'
  go_wp2_with fail
  refine bodyPost_ret (v := .agg #[.bool (decide ((x + y).num < 0)), .slice a5 (dig b64 (x + y).num.natAbs).length _, .slice a6 (dig b64 (dn (x + y).den)).length _]) (by simp [results, Try.results26, go_sem, g0, g1, g2]; first | done | exact ⟨rfl, rfl⟩ | rfl) rfl ⟨_, rfl, ?_, below_store3 hx (by omega)⟩
  exact IsRat.stored hRB n5 n6 rfl rfl
 ·
  have hs' : (sx == sy) = false := by simpa using hs
  have Hs := Lib.hid hs'
  clear hs
  go_wp2_with fail
  refine (cmp_any A B _ _ W2 HN1.out HN2.out).mono ?_
  rintro e w' ⟨rfl, nq, rfl⟩
  have hWn : Below w.heap.size w (W2.drewN nq) := below_dn hW2 nq
  have HC4 := Lib.hid (HC3.out.below (below_dn (Below.refl W2.heap.size W2) nq))
  have HN3 := Lib.hid (HN1.out.below (below_dn (Below.refl W2.heap.size W2) nq))
  have HN4 := Lib.hid (HN2.out.below (below_dn (Below.refl W2.heap.size W2) nq))
  have HB4 : Hid (RB (W2.drewN nq) (w.heap.size + 2)) := HB2.out
  have hl34 := HB4.out.lt
  clear HB2 HN1 HN2 HC3 hW2 hl32
  have q0 : (W2.drewN nq).cell? ⟨w.heap.size, 0, none⟩ = _ := p0
  have q1 : (W2.drewN nq).cell? ⟨w.heap.size, 1, none⟩ = _ := p1
  have q2 : (W2.drewN nq).cell? ⟨w.heap.size, 2, none⟩ = _ := p2
  have q3 : (W2.drewN nq).cell? ⟨w.heap.size + 1, 0, none⟩ = _ := r0
  have q4 : (W2.drewN nq).cell? ⟨w.heap.size + 1, 1, none⟩ = _ := r1
  have q5 : (W2.drewN nq).cell? ⟨w.heap.size + 1, 2, none⟩ = _ := r2
  clear p0 p1 p2 r0 r1 r2
  have p0 := q0
  have p1 := q1
  have p2 := q2
  have r0 := q3
  have r1 := q4
  have r2 := q5
  clear q0 q1 q2 q3 q4 q5
  generalize W2.drewN nq = W3 at *
  have HC3 := HC4
  have HN1 := HN3
  have HN2 := HN4
  have HB2 := HB4
  have hl32 := hl34
  have hW2 := hWn
  clear HC4 HN3 HN4 HB4 hl34 hWn
  have hWW : W3 = W3 := rfl
  clear hWW
  by_cases hge : B ≤ A
  ·
   have hc := cmpN_ge hge
   generalize cmpN A B = c at *
   have Hge := Lib.hid hge
   clear hge
   go_wp2_with fail
   have hWe : Below w.heap.size w W3.drew := hW2.drew
   go_region_held3 (fun w' => Below w.heap.size w w' ∧ RB w' (w.heap.size + 2) ∧ w'.cell? ⟨w.heap.size, 0, none⟩ = some (.bool sx) ∧ w'.cell? ⟨w.heap.size, 1, none⟩ = some (.slice a1 (dig b64 x.num.natAbs).length c1) ∧ w'.cell? ⟨w.heap.size, 2, none⟩ = some (.slice a2 (dig b64 (dn x.den)).length c2) ∧ w'.cell? ⟨w.heap.size + 1, 0, none⟩ = some (.bool sy) ∧ w'.cell? ⟨w.heap.size + 1, 1, none⟩ = some (.slice a3 (dig b64 y.num.natAbs).length c3) ∧ w'.cell? ⟨w.heap.size + 1, 2, none⟩ = some (.slice a4 (dig b64 (dn y.den)).length c4) ∧ w'.cell? ⟨w.heap.size + 2, 0, none⟩ = some (cellOf w' ⟨w.heap.size + 2, 0, none⟩) ∧ w'.cell? ⟨w.heap.size + 2, 1, none⟩ = some (cellOf w' ⟨w.heap.size + 2, 1, none⟩) ∧ w'.cell? ⟨w.heap.size + 2, 2, none⟩ = some (cellOf w' ⟨w.heap.size + 2, 2, none⟩) ∧ w'.frozen? ⟨w.heap.size + 2, 0, none⟩ = false ∧ w'.frozen? ⟨w.heap.size + 2, 1, none⟩ = false ∧ w'.frozen? ⟨w.heap.size + 2, 2, none⟩ = false)
    (first | exact hold6 hWe p0 p1 p2 r0 r1 r2 HB2.out | exact hold6_call (Nat.le_refl _) hbE (by assumption) | exact hold6_call (Nat.le_refl _) hbD (by assumption) | exact hold6_store _ _ _ _ _ _ _ (by omega) (by omega) (by omega) (by assumption) _ rfl)
    (first
     | (go_at_call 45; (refine (minus_any A B _ _ _ (HN1.out.below (Below.refl _ _).drew) (HN2.out.below (Below.refl _ _).drew) Hge.out (by have := HA.out; omega)).mono ?_); rintro e wD' ⟨vE, rfl, hvE, hbD⟩)
     | (go_at_call 42; (refine (reduced_any _ (A - B) C _ _ _ hvE (HC3.out.below (ext_trans (show Below W3.heap.size W3 W3.drew from (Below.refl _ _).drew) hbD)) HP.out (by have := HA.out; exact Nat.le_trans (dig_length_mono b64_two (Nat.sub_le _ _)) (by omega)) (by have := HC.out; omega)).mono ?_); rintro e wE ⟨vF, rfl, hvF, hbE⟩; obtain ⟨a5, c5, a6, c6, rfl, n5, n6⟩ := IsRat.opened hvF))
   have hE := ext_trans hbD hbE
   have hRB := RB.keep (a := W3.drew) HB2.out hE hl32
   obtain ⟨g0, g1, g2, f0', f1', f2'⟩ := hRB.cell
   have hx := hWe.trans (hE.mono hWe.size)
   have hBl := hRB.lt
   have He' := He.out sx (A - B) (sg_sub Hs.out Hge.out)
   generalize mkQ sx (A - B) C = q at *
   subst He'
   go_wp2_with fail
   refine bodyPost_ret (v := .agg #[.bool (decide ((x + y).num < 0)), .slice a5 (dig b64 (x + y).num.natAbs).length _, .slice a6 (dig b64 (dn (x + y).den)).length _]) (by simp [results, Try.results26, go_sem, g0, g1, g2]; first | done | exact ⟨rfl, rfl⟩ | rfl) rfl ⟨_, rfl, ?_, below_store3 hx (by omega)⟩
   exact IsRat.stored hRB n5 n6 rfl rfl
  ·
   have hc := cmpN_nge hge
   generalize cmpN A B = c at *
   have Hge : Hid (A ≤ B) := Nat.le_of_lt (Nat.lt_of_not_le hge)
   clear hge
   go_wp2_with fail
   have hWe : Below w.heap.size w W3.drew := hW2.drew
   go_region_held3 (fun w' => Below w.heap.size w w' ∧ RB w' (w.heap.size + 2) ∧ w'.cell? ⟨w.heap.size, 0, none⟩ = some (.bool sx) ∧ w'.cell? ⟨w.heap.size, 1, none⟩ = some (.slice a1 (dig b64 x.num.natAbs).length c1) ∧ w'.cell? ⟨w.heap.size, 2, none⟩ = some (.slice a2 (dig b64 (dn x.den)).length c2) ∧ w'.cell? ⟨w.heap.size + 1, 0, none⟩ = some (.bool sy) ∧ w'.cell? ⟨w.heap.size + 1, 1, none⟩ = some (.slice a3 (dig b64 y.num.natAbs).length c3) ∧ w'.cell? ⟨w.heap.size + 1, 2, none⟩ = some (.slice a4 (dig b64 (dn y.den)).length c4) ∧ w'.cell? ⟨w.heap.size + 2, 0, none⟩ = some (cellOf w' ⟨w.heap.size + 2, 0, none⟩) ∧ w'.cell? ⟨w.heap.size + 2, 1, none⟩ = some (cellOf w' ⟨w.heap.size + 2, 1, none⟩) ∧ w'.cell? ⟨w.heap.size + 2, 2, none⟩ = some (cellOf w' ⟨w.heap.size + 2, 2, none⟩) ∧ w'.frozen? ⟨w.heap.size + 2, 0, none⟩ = false ∧ w'.frozen? ⟨w.heap.size + 2, 1, none⟩ = false ∧ w'.frozen? ⟨w.heap.size + 2, 2, none⟩ = false)
    (first | exact hold6 hWe p0 p1 p2 r0 r1 r2 HB2.out | exact hold6_call (Nat.le_refl _) hbE (by assumption) | exact hold6_call (Nat.le_refl _) hbD (by assumption) | exact hold6_store _ _ _ _ _ _ _ (by omega) (by omega) (by omega) (by assumption) _ rfl)
    (first
     | (go_at_call 45; (refine (minus_any B A _ _ _ (HN2.out.below (Below.refl _ _).drew) (HN1.out.below (Below.refl _ _).drew) Hge.out (by have := HBB.out; omega)).mono ?_); rintro e wD' ⟨vE, rfl, hvE, hbD⟩)
     | (go_at_call 42; (refine (reduced_any _ (B - A) C _ _ _ hvE (HC3.out.below (ext_trans (show Below W3.heap.size W3 W3.drew from (Below.refl _ _).drew) hbD)) HP.out (by have := HBB.out; exact Nat.le_trans (dig_length_mono b64_two (Nat.sub_le _ _)) (by omega)) (by have := HC.out; omega)).mono ?_); rintro e wE ⟨vF, rfl, hvF, hbE⟩; obtain ⟨a5, c5, a6, c6, rfl, n5, n6⟩ := IsRat.opened hvF))
   have hE := ext_trans hbD hbE
   have hRB := RB.keep (a := W3.drew) HB2.out hE hl32
   obtain ⟨g0, g1, g2, f0', f1', f2'⟩ := hRB.cell
   have hx := hWe.trans (hE.mono hWe.size)
   have hBl := hRB.lt
   have He' := He.out sy (B - A) (by rw [Int.add_comm]; exact sg_sub (by have := Hs.out; cases sx <;> cases sy <;> simp_all) Hge.out)
   generalize mkQ sy (B - A) C = q at *
   subst He'
   go_wp2_with fail
   refine bodyPost_ret (v := .agg #[.bool (decide ((x + y).num < 0)), .slice a5 (dig b64 (x + y).num.natAbs).length _, .slice a6 (dig b64 (dn (x + y).den)).length _]) (by simp [results, Try.results26, go_sem, g0, g1, g2]; first | done | exact ⟨rfl, rfl⟩ | rfl) rfl ⟨_, rfl, ?_, below_store3 hx (by omega)⟩
   exact IsRat.stored hRB n5 n6 rfl rfl

end Go.Proofs.Ytnjpkfccncjkhaa

namespace Go.Proofs.Ytnjpkfccncjkhaa
open Go.RowKit

set_option maxRecDepth 100000 in
set_option maxHeartbeats 4000000 in
theorem mulRat_any (x y : Rat) (vx vy : Value) (w : World) (hx : IsRat w vx x) (hy : IsRat w vy y) (hlx : szR x 68719476736) (hly : szR y 68719476736) : Calls Try.prog 27 #[vx, vy] w (RetRat (x * y) w) := by
 obtain ⟨a1, c1, a2, c2, rfl, n1, n2⟩ := hx.opened
 obtain ⟨a3, c3, a4, c4, rfl, n3, n4⟩ := hy.opened
 have N1 := Lib.hid n1
 have N2 := Lib.hid n2
 have N3 := Lib.hid n3
 have N4 := Lib.hid n4
 have He := Lib.hid (mkQ_mul x y)
 have HLX := Lib.hid hlx
 have HLY := Lib.hid hly
 clear hx hy n1 n2 n3 n4 hlx hly
 go_enter Try.func27, Try.ntmps27
 go_wp2_with fail
 generalize hsx : decide (x.num < 0) = sx at *
 generalize hsy : decide (y.num < 0) = sy at *
 clear hsx hsy
 generalize hW0 : ((w.alloc (.cells #[.bool sx, .slice a1 (dig b64 x.num.natAbs).length c1, .slice a2 (dig b64 (dn x.den)).length c2] 45)).alloc (.cells #[.bool sy, .slice a3 (dig b64 y.num.natAbs).length c3, .slice a4 (dig b64 (dn y.den)).length c4] 45)).alloc (.cells #[.bool false, .slice none 0 0, .slice none 0 0] 45) = W at *
 obtain ⟨hal, hB1, hB2, hB3⟩ := boxes3 w _ _ _ _ W hW0.symm
 clear hW0
 have hW : Below w.heap.size w W.drew := hal.drew
 have p0 := blk_cell hB1 0 (.bool sx) rfl
 have p1 := blk_cell hB1 1 (.slice a1 (dig b64 x.num.natAbs).length c1) rfl
 have p2 := blk_cell hB1 2 (.slice a2 (dig b64 (dn x.den)).length c2) rfl
 have r0 := blk_cell hB2 0 (.bool sy) rfl
 have r1 := blk_cell hB2 1 (.slice a3 (dig b64 y.num.natAbs).length c3) rfl
 have r2 := blk_cell hB2 2 (.slice a4 (dig b64 (dn y.den)).length c4) rfl
 have HB : Hid (RB W (w.heap.size + 2)) := ⟨false, none, 0, 0, none, 0, 0, _, hB3⟩
 have hl3 := blk_lt hB3
 clear hB1 hB2 hB3
 go_region_held3 (fun w' => Below w.heap.size w w' ∧ RB w' (w.heap.size + 2) ∧ w'.cell? ⟨w.heap.size, 0, none⟩ = some (.bool sx) ∧ w'.cell? ⟨w.heap.size, 1, none⟩ = some (.slice a1 (dig b64 x.num.natAbs).length c1) ∧ w'.cell? ⟨w.heap.size, 2, none⟩ = some (.slice a2 (dig b64 (dn x.den)).length c2) ∧ w'.cell? ⟨w.heap.size + 1, 0, none⟩ = some (.bool sy) ∧ w'.cell? ⟨w.heap.size + 1, 1, none⟩ = some (.slice a3 (dig b64 y.num.natAbs).length c3) ∧ w'.cell? ⟨w.heap.size + 1, 2, none⟩ = some (.slice a4 (dig b64 (dn y.den)).length c4) ∧ w'.cell? ⟨w.heap.size + 2, 0, none⟩ = some (cellOf w' ⟨w.heap.size + 2, 0, none⟩) ∧ w'.cell? ⟨w.heap.size + 2, 1, none⟩ = some (cellOf w' ⟨w.heap.size + 2, 1, none⟩) ∧ w'.cell? ⟨w.heap.size + 2, 2, none⟩ = some (cellOf w' ⟨w.heap.size + 2, 2, none⟩) ∧ w'.frozen? ⟨w.heap.size + 2, 0, none⟩ = false ∧ w'.frozen? ⟨w.heap.size + 2, 1, none⟩ = false ∧ w'.frozen? ⟨w.heap.size + 2, 2, none⟩ = false)
  (first | exact hold6 hW p0 p1 p2 r0 r1 r2 HB.out | exact hold6_call (Nat.le_refl _) hbE (by assumption) | exact hold6_call (Nat.le_refl _) hbD (by assumption) | exact hold6_call (Nat.le_refl _) hbC (by assumption) | exact hold6_call (Nat.le_refl _) hbB (by assumption) | exact hold6_call (Nat.le_refl _) hbA (by assumption) | exact hold6_store _ _ _ _ _ _ _ (by omega) (by omega) (by omega) (by assumption) _ rfl)
  (first
   | (go_at_call_of 41 (Value.slice a1 (dig b64 x.num.natAbs).length c1); refine (times_any x.num.natAbs y.num.natAbs _ _ _ (N1.out.below (And.left (by assumption))) (N3.out.below (And.left (by assumption))) (by have := HLX.out.1; have := HLY.out.1; omega)).mono ?_; rintro e wA ⟨vA, rfl, hvA, hbA⟩)
   | (go_at_call_of 40 (Value.slice a2 (dig b64 (dn x.den)).length c2); (with_reducible refine (under_any x.den _ _ (N2.out.below (And.left (by assumption))) x.den_pos).mono ?_); rintro e wB ⟨vB, rfl, hvB, hbB⟩)
   | (go_at_call_of 40 (Value.slice a4 (dig b64 (dn y.den)).length c4); (with_reducible refine (under_any y.den _ _ (N4.out.below (And.left (by assumption))) y.den_pos).mono ?_); rintro e wC ⟨vC, rfl, hvC, hbC⟩)
   | (go_at_call 41; refine (times_any x.den y.den _ _ _ (hvB.below hbC) hvC (by have := HLX.out.2; have := HLY.out.2; omega)).mono ?_; rintro e wD ⟨vD, rfl, hvD, hbD⟩)
   | (go_at_call 42; refine (reduced_any _ (x.num.natAbs * y.num.natAbs) (x.den * y.den) _ _ _ (hvA.below (ext_trans hbB (ext_trans hbC hbD))) hvD (Nat.mul_pos x.den_pos y.den_pos) (by have := dig_length_mul b64_two x.num.natAbs y.num.natAbs; have := HLX.out.1; have := HLY.out.1; omega) (by have := dig_length_mul b64_two x.den y.den; have := HLX.out.2; have := HLY.out.2; omega)).mono ?_; rintro e wE ⟨vE, rfl, hvE, hbE⟩; obtain ⟨a5, c5, a6, c6, rfl, n5, n6⟩ := IsRat.opened hvE))
 have hE := ext_trans (ext_trans (ext_trans (ext_trans hbA hbB) hbC) hbD) hbE
 have hRB := RB.keep (a := W.drew) HB.out hE hl3
 obtain ⟨g0, g1, g2, f0', f1', f2'⟩ := hRB.cell
 have hx := hW.trans (hE.mono hW.size)
 have hBl := hRB.lt
 have He' := He.out
 generalize mkQ (!sx == sy) (x.num.natAbs * y.num.natAbs) (x.den * y.den) = q at *
 subst He'
 go_wp2_with fail
 refine bodyPost_ret (v := .agg #[.bool (decide ((x * y).num < 0)), .slice a5 (dig b64 (x * y).num.natAbs).length _, .slice a6 (dig b64 (dn (x * y).den)).length _]) (by simp [results, Try.results27, go_sem, g0, g1, g2]; first | done | exact ⟨rfl, rfl⟩ | rfl) rfl ⟨_, rfl, ?_, below_store3 hx (by omega)⟩
 exact IsRat.stored hRB n5 n6 rfl rfl

theorem mkQ_div (x y : Rat) (hy : y.num.natAbs ≠ 0) : mkQ (!(decide (x.num < 0) == decide (y.num < 0))) (x.num.natAbs * y.den) (x.den * y.num.natAbs) = x / y := by
 have hxd := x.den_pos
 have hyd := y.den_pos
 have h := new_plain (x.num * y.den) (x.den * y.num) (by
  refine Int.mul_ne_zero ?_ ?_ <;> omega)
 have e1 : (x.num * (y.den : Int)).natAbs = x.num.natAbs * y.den := by rw [Int.natAbs_mul]; rfl
 have e2 : ((x.den : Int) * y.num).natAbs = x.den * y.num.natAbs := by rw [Int.natAbs_mul]; rfl
 have e3 : decide (x.num * (y.den : Int) < 0) = decide (x.num < 0) := by
  rw [decide_eq_decide]
  constructor
  ·
   intro h
   rcases Int.lt_or_le x.num 0 with h1 | h1
   ·
    exact h1
   ·
    have := Int.mul_nonneg h1 (show (0:Int) ≤ y.den by omega); omega
  ·
   intro h; exact Int.mul_neg_of_neg_of_pos h (by omega)
 have e4 : decide ((x.den : Int) * y.num < 0) = decide (y.num < 0) := by
  rw [decide_eq_decide]
  constructor
  ·
   intro h
   rcases Int.lt_or_le y.num 0 with h1 | h1
   ·
    exact h1
   ·
    have := Int.mul_nonneg (show (0:Int) ≤ x.den by omega) h1; omega
  ·
   intro h; exact Int.mul_neg_of_pos_of_neg (by omega) h
 rw [e1, e2, e3, e4] at h
 rw [show (!(decide (x.num < 0) == decide (y.num < 0))) = (decide (x.num < 0) != decide (y.num < 0)) from rfl, h]
 have hx : x = Rat.divInt x.num x.den := (Rat.num_divInt_den x).symm
 have hy2 : y = Rat.divInt y.num y.den := (Rat.num_divInt_den y).symm
 conv => rhs; rw [hx, hy2]
 rw [← Rat.divInt_eq_div, Rat.div_def, Rat.inv_divInt, Rat.divInt_mul_divInt]

set_option maxRecDepth 100000 in
set_option maxHeartbeats 4000000 in
theorem byRat_any (x y : Rat) (vx vy : Value) (w : World) (hx : IsRat w vx x) (hy : IsRat w vy y) (hlx : szR x 68719476736) (hly : szR y 68719476736) (hy0 : y.num.natAbs ≠ 0) : Calls Try.prog 64 #[vx, vy] w (RetRat (x / y) w) := by
 obtain ⟨a1, c1, a2, c2, rfl, n1, n2⟩ := hx.opened
 obtain ⟨a3, c3, a4, c4, rfl, n3, n4⟩ := hy.opened
 have N1 := Lib.hid n1
 have N2 := Lib.hid n2
 have N3 := Lib.hid n3
 have N4 := Lib.hid n4
 have He := Lib.hid (mkQ_div x y hy0)
 have HY0 : Hid (0 < y.num.natAbs) := Nat.pos_of_ne_zero hy0
 clear hy0
 have HLX := Lib.hid hlx
 have HLY := Lib.hid hly
 clear hx hy n1 n2 n3 n4 hlx hly
 go_enter Try.func64, Try.ntmps64
 go_wp2_with fail
 generalize hsx : decide (x.num < 0) = sx at *
 generalize hsy : decide (y.num < 0) = sy at *
 clear hsx hsy
 generalize hW0 : ((w.alloc (.cells #[.bool sx, .slice a1 (dig b64 x.num.natAbs).length c1, .slice a2 (dig b64 (dn x.den)).length c2] 45)).alloc (.cells #[.bool sy, .slice a3 (dig b64 y.num.natAbs).length c3, .slice a4 (dig b64 (dn y.den)).length c4] 45)).alloc (.cells #[.bool false, .slice none 0 0, .slice none 0 0] 45) = W at *
 obtain ⟨hal, hB1, hB2, hB3⟩ := boxes3 w _ _ _ _ W hW0.symm
 clear hW0
 have hW : Below w.heap.size w W.drew := hal.drew
 have p0 := blk_cell hB1 0 (.bool sx) rfl
 have p1 := blk_cell hB1 1 (.slice a1 (dig b64 x.num.natAbs).length c1) rfl
 have p2 := blk_cell hB1 2 (.slice a2 (dig b64 (dn x.den)).length c2) rfl
 have r0 := blk_cell hB2 0 (.bool sy) rfl
 have r1 := blk_cell hB2 1 (.slice a3 (dig b64 y.num.natAbs).length c3) rfl
 have r2 := blk_cell hB2 2 (.slice a4 (dig b64 (dn y.den)).length c4) rfl
 have HB : Hid (RB W (w.heap.size + 2)) := ⟨false, none, 0, 0, none, 0, 0, _, hB3⟩
 have hl3 := blk_lt hB3
 clear hB1 hB2 hB3
 go_region_held3 (fun w' => Below w.heap.size w w' ∧ RB w' (w.heap.size + 2) ∧ w'.cell? ⟨w.heap.size, 0, none⟩ = some (.bool sx) ∧ w'.cell? ⟨w.heap.size, 1, none⟩ = some (.slice a1 (dig b64 x.num.natAbs).length c1) ∧ w'.cell? ⟨w.heap.size, 2, none⟩ = some (.slice a2 (dig b64 (dn x.den)).length c2) ∧ w'.cell? ⟨w.heap.size + 1, 0, none⟩ = some (.bool sy) ∧ w'.cell? ⟨w.heap.size + 1, 1, none⟩ = some (.slice a3 (dig b64 y.num.natAbs).length c3) ∧ w'.cell? ⟨w.heap.size + 1, 2, none⟩ = some (.slice a4 (dig b64 (dn y.den)).length c4) ∧ w'.cell? ⟨w.heap.size + 2, 0, none⟩ = some (cellOf w' ⟨w.heap.size + 2, 0, none⟩) ∧ w'.cell? ⟨w.heap.size + 2, 1, none⟩ = some (cellOf w' ⟨w.heap.size + 2, 1, none⟩) ∧ w'.cell? ⟨w.heap.size + 2, 2, none⟩ = some (cellOf w' ⟨w.heap.size + 2, 2, none⟩) ∧ w'.frozen? ⟨w.heap.size + 2, 0, none⟩ = false ∧ w'.frozen? ⟨w.heap.size + 2, 1, none⟩ = false ∧ w'.frozen? ⟨w.heap.size + 2, 2, none⟩ = false)
  (first | exact hold6 hW p0 p1 p2 r0 r1 r2 HB.out | exact hold6_call (Nat.le_refl _) hbE (by assumption) | exact hold6_call (Nat.le_refl _) hbD (by assumption) | exact hold6_call (Nat.le_refl _) hbC (by assumption) | exact hold6_call (Nat.le_refl _) hbB (by assumption) | exact hold6_call (Nat.le_refl _) hbA (by assumption) | exact hold6_store _ _ _ _ _ _ _ (by omega) (by omega) (by omega) (by assumption) _ rfl)
  (first
   | (go_at_call_of 40 (Value.slice a4 (dig b64 (dn y.den)).length c4); (with_reducible refine (under_any y.den _ _ (N4.out.below (And.left (by assumption))) y.den_pos).mono ?_); rintro e wA ⟨vA, rfl, hvA, hbA⟩)
   | (go_at_call_of 41 (Value.slice a1 (dig b64 x.num.natAbs).length c1); refine (times_any x.num.natAbs y.den _ _ _ (N1.out.below (And.left (by assumption))) hvA (by have := HLX.out.1; have := HLY.out.2; omega)).mono ?_; rintro e wB ⟨vB, rfl, hvB, hbB⟩)
   | (go_at_call_of 40 (Value.slice a2 (dig b64 (dn x.den)).length c2); (with_reducible refine (under_any x.den _ _ (N2.out.below (And.left (by assumption))) x.den_pos).mono ?_); rintro e wC ⟨vC, rfl, hvC, hbC⟩)
   | (go_at_call 41; refine (times_any x.den y.num.natAbs _ _ _ hvC (N3.out.below (And.left (by assumption))) (by have := HLX.out.2; have := HLY.out.1; omega)).mono ?_; rintro e wD ⟨vD, rfl, hvD, hbD⟩)
   | (go_at_call 42; refine (reduced_any _ (x.num.natAbs * y.den) (x.den * y.num.natAbs) _ _ _ (hvB.below (ext_trans hbC hbD)) hvD (Nat.mul_pos x.den_pos HY0.out) (by have := dig_length_mul b64_two x.num.natAbs y.den; have := HLX.out.1; have := HLY.out.2; omega) (by have := dig_length_mul b64_two x.den y.num.natAbs; have := HLX.out.2; have := HLY.out.1; omega)).mono ?_; rintro e wE ⟨vE, rfl, hvE, hbE⟩; obtain ⟨a5, c5, a6, c6, rfl, n5, n6⟩ := IsRat.opened hvE))
 have hE := ext_trans (ext_trans (ext_trans (ext_trans hbA hbB) hbC) hbD) hbE
 have hRB := RB.keep (a := W.drew) HB.out hE hl3
 obtain ⟨g0, g1, g2, f0', f1', f2'⟩ := hRB.cell
 have hx := hW.trans (hE.mono hW.size)
 have hBl := hRB.lt
 have He' := He.out
 generalize mkQ (!sx == sy) (x.num.natAbs * y.den) (x.den * y.num.natAbs) = q at *
 subst He'
 go_wp2_with fail
 refine bodyPost_ret (v := .agg #[.bool (decide ((x / y).num < 0)), .slice a5 (dig b64 (x / y).num.natAbs).length _, .slice a6 (dig b64 (dn (x / y).den)).length _]) (by simp [results, Try.results64, go_sem, g0, g1, g2]; first | done | exact ⟨rfl, rfl⟩ | rfl) rfl ⟨_, rfl, ?_, below_store3 hx (by omega)⟩
 exact IsRat.stored hRB n5 n6 rfl rfl


end Go.Proofs.Ytnjpkfccncjkhaa

namespace Go.Proofs.Ytnjpkfccncjkhaa
open Go.RowKit

theorem mkQ_szR_sz (s : Bool) (n d k : Nat) (hd : 0 < d) (h1 : (dig b64 n).length ≤ k) (h2 : (dig b64 d).length ≤ k) : szR (mkQ s n d) k := by
 unfold szR
 rw [mkQ_num s n d hd, mkQ_den s n d hd]
 exact ⟨Nat.le_trans (dig_length_mono b64_two (Nat.div_le_self _ _)) h1, Nat.le_trans (dig_length_mono b64_two (Nat.div_le_self _ _)) h2⟩
theorem szR_mul {x y : Rat} {j k : Nat} (hx : szR x j) (hy : szR y k) : szR (x * y) (j + k) := by
 rw [← mkQ_mul]
 have h1 := dig_length_mul b64_two x.num.natAbs y.num.natAbs
 have h2 := dig_length_mul b64_two x.den y.den
 have := hx.1; have := hx.2; have := hy.1; have := hy.2
 exact mkQ_szR_sz _ _ _ _ (Nat.mul_pos x.den_pos y.den_pos) (by omega) (by omega)
theorem szR_neg {x : Rat} {j : Nat} (hx : szR x j) : szR (-x) j := ⟨by rw [natAbs_neg_num]; exact hx.1, hx.2⟩
theorem szR_mono {x : Rat} {j k : Nat} (h : szR x j) (hjk : j ≤ k) : szR x k := ⟨Nat.le_trans h.1 hjk, Nat.le_trans h.2 hjk⟩
theorem szR_add {x y : Rat} {j k : Nat} (hx : szR x j) (hy : szR y k) : szR (x + y) (j + k + 1) := by
 have hz : ∃ (s : Bool) (n : Nat), sg s n = sg (decide (x.num < 0)) (x.num.natAbs * y.den) + sg (decide (y.num < 0)) (y.num.natAbs * x.den) ∧ n ≤ x.num.natAbs * y.den + y.num.natAbs * x.den := by
  generalize hz : sg (decide (x.num < 0)) (x.num.natAbs * y.den) + sg (decide (y.num < 0)) (y.num.natAbs * x.den) = z
  refine ⟨decide (z < 0), z.natAbs, ?_, ?_⟩
  ·
   unfold sg
   by_cases h : z < 0
   ·
    simp [h]; omega
   ·
    simp [h]; omega
  ·
   have e1 := sg_natAbs (decide (x.num < 0)) (x.num.natAbs * y.den)
   have e2 := sg_natAbs (decide (y.num < 0)) (y.num.natAbs * x.den)
   omega
 obtain ⟨s, n, h, hn⟩ := hz
 rw [← mkQ_add x y s n h]
 have h1 := dig_length_mul b64_two x.num.natAbs y.den
 have h2 := dig_length_mul b64_two y.num.natAbs x.den
 have h3 := dig_length_mul b64_two x.den y.den
 have := hx.1; have := hx.2; have := hy.1; have := hy.2
 have h4 := dig_length_add b64_two (x.num.natAbs * y.den) (y.num.natAbs * x.den) (j + k) (by omega) (by omega)
 exact mkQ_szR_sz _ _ _ _ (Nat.mul_pos x.den_pos y.den_pos) (Nat.le_trans (dig_length_mono b64_two hn) h4) (by omega)
theorem szR_sub {x y : Rat} {j k : Nat} (hx : szR x j) (hy : szR y k) : szR (x - y) (j + k + 1) := by
 rw [Rat.sub_eq_add_neg]
 exact szR_add hx (szR_neg hy)
theorem szR_int {n : Int} {k : Nat} (h : n.natAbs < b64 ^ k) (hk : 1 ≤ k) : szR (n : Rat) k := by
 refine ⟨dig_length_le b64_two k _ (by simpa using h), Nat.le_trans (dig_length_le b64_two 1 _ ?_) hk⟩
 simp
 unfold b64
 omega

end Go.Proofs.Ytnjpkfccncjkhaa

namespace Go.Proofs.Ytnjpkfccncjkhaa

abbrev Pt := Int × Int
def crossI (a b c : Pt) : Int := (b.1 - a.1) * (c.2 - a.2) - (b.2 - a.2) * (c.1 - a.1)
def turnI (d p : Pt) : Pt := (d.1 * p.1 + d.2 * p.2, d.1 * p.2 - d.2 * p.1)
def inL (n lo hi : Int) : Bool := decide (lo ≤ n) && decide (n ≤ hi)
def far : Int := 4398046511104
def ptOk (p : Pt) : Bool := inL p.1 (-far) far && inL p.2 (-far) far
def ptAt (l : List Pt) (i : Nat) : Pt := l.getD i (0, 0)
def ptsOk (l : List Pt) : Bool := l.all ptOk
theorem ptsOk_take (l : List Pt) (i : Nat) (hi : i < l.length) : ptsOk (l.take (i + 1)) = (ptsOk (l.take i) && ptOk (ptAt l i)) := by
 unfold ptsOk ptAt
 rw [List.take_add_one, List.all_append]
 simp [hi]
theorem ptsOk_get {l : List Pt} (h : ptsOk l = true) (i : Nat) (hi : i < l.length) : ptOk (ptAt l i) = true := by
 unfold ptsOk at h
 rw [List.all_eq_true] at h
 unfold ptAt
 have e : l.getD i (0, 0) = l[i] := by simp [hi]
 rw [e]
 exact h _ (List.getElem_mem hi)
theorem ptOk_range {p : Pt} (h : ptOk p = true) : (-far ≤ p.1 ∧ p.1 ≤ far) ∧ -far ≤ p.2 ∧ p.2 ≤ far := by
 simpa [ptOk, inL] using h
theorem mul_absI {a b A B : Int} (ha : -A ≤ a ∧ a ≤ A) (hb : -B ≤ b ∧ b ≤ B) : -(A * B) ≤ a * b ∧ a * b ≤ A * B := by
 have hA : 0 ≤ A := by omega
 have h1 : (a * b).natAbs ≤ (A * B).natAbs := by
  rw [Int.natAbs_mul, Int.natAbs_mul]
  exact Nat.mul_le_mul (by omega) (by omega)
 have h2 : 0 ≤ A * B := Int.mul_nonneg hA (by omega)
 omega

def Round3 (l : List Pt) : Prop := ∀ k, k < l.length → ∀ j, j < k → ∀ i, i < j → 0 < crossI (ptAt l i) (ptAt l j) (ptAt l k)
open Classical in
noncomputable def outErr (l : List Pt) : Int := if l.length < 3 ∨ 16 < l.length then 4 else if ptsOk l = false then 1 else if Round3 l then 0 else 7

def edgeI (l : List Pt) (i : Nat) : Int := (ptAt l i).1 * (ptAt l ((i + 1) % l.length)).2 - (ptAt l i).2 * (ptAt l ((i + 1) % l.length)).1
def areaTo (l : List Pt) : Nat → Int
 | 0 => 0
 | i + 1 => areaTo l i + edgeI l i
def areaI (l : List Pt) : Int := areaTo l l.length

end Go.Proofs.Ytnjpkfccncjkhaa
