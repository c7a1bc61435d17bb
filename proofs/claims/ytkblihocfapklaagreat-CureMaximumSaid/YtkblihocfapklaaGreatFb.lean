/- Part b of the lemmas and walks. -/
import Derived.Test.YtkblihocfapklaaGreatFa
set_option maxRecDepth 100000
set_option maxHeartbeats 30000000
namespace Go.Proofs.YtkblihocfapklaaGreat
open Go.RowKit
theorem AV {k : IntKind} {w : World} {m : Nat} {v : Value} (h : bT k ak w v m) (hl : (aU ak m).length ≤ 1) : (m = 0 ∧ ∃ ao cap, v = .slice ao 0 cap) ∨ (m ≠ 0 ∧ m < ak ∧ ∃ b off cap, v = .slice (some ⟨b, off, none⟩) 1 cap ∧ w.cell? ⟨b, off, none⟩ = some (.int k m)) := by
 rcases h with ⟨h0, ao, cap, rfl, _⟩ | ⟨h0, b, off, cap, rfl, _, _, _, hc⟩
 · exact .inl ⟨(fD aO m).1 h0, _, _, rfl⟩
 ·
  obtain ⟨hd, hm0, hmb⟩ := vZ aO m (by omega)
  have := hc 0 (by omega)
  rw [hd] at this
  rw [hd]
  exact .inr ⟨by omega, hmb, b, off, cap, rfl, by simpa using this⟩
theorem Vh (m n : Nat) (va vb : Value) (w : World) (ha : bT .u64 ak w va m) (hb : bT .u64 ak w vb n) (hla : (aU ak m).length ≤ 1) (hlb : (aU ak n).length ≤ 1) (hn : 0 < n) :
  Calls Tryz.prog 86 #[va, vb] w (fun e w' => e = .returned (.int .u64 (Nat.gcd m n : Nat)) ∧ Quiet w w') := by
 rcases AV hb hlb with ⟨h0, _⟩ | ⟨_, hnb, b, off, cap, rfl, hc⟩
 · omega
 have hmb : m < ak := by
  rcases AV ha hla with ⟨h0, _⟩ | ⟨_, hmb, _⟩
  · rw [h0]; exact bD
  · exact hmb
 clear hlb hla
 rcases AV ha (by exact (show (aU ak m).length ≤ 1 from b_ aO 1 m (by simpa using hmb))) with ⟨h0, ao, cap', rfl⟩ | ⟨_, _, b', off', cap', rfl, hc'⟩
 all_goals
  clear ha hb
  go_enter Tryz.func86, Tryz.ntmps86
  go_wp2_with fail
  go_loopw [5, 6] (fun xv yv wr => ∃ x y : Nat, xv = .int .u64 x ∧ yv = .int .u64 y ∧ Hid (x < ak) ∧ Hid (y < ak) ∧ Hid (Nat.gcd x y = Nat.gcd m n) ∧ Quiet w wr) (fun _ yv _ => (intOf yv).toNat)
  case atStart => first | exact ⟨m, n, rfl, rfl, hmb, hnb, rfl, .refl _⟩ | exact ⟨0, n, rfl, rfl, bD, hnb, by rw [h0]; rfl, .refl _⟩
  case round =>
   obtain ⟨x, y, rfl, rfl, hx, hy, hg, nq, rfl⟩ := hrel
   rcases Nat.eq_zero_or_pos y with rfl | hp
   ·
    go_wp2_with fail
    go_ret
    have := hg.out
    rw [Nat.gcd_zero_right] at this
    exact ⟨by rw [← this]; rfl, _, rfl⟩
   ·
    have c1 : (0 : Int) < y := by omega
    have c2 : ¬ y = 0 := by omega
    obtain ⟨z, hz⟩ : ∃ z, z = x % y := ⟨_, rfl⟩
    have HZ := ae hz
    have e1 : (x : Int).tmod y = (z : Int) := by rw [hz]; rfl
    have e2 : (x : Int) % y = (z : Int) := by rw [hz]; rfl
    clear hz
    go_wp2_with fail
    go_quiet (fail)
    go_wp2_with fail
    refine ⟨⟨y, z, rfl, by first | rfl | rw [e2] | rw [e1], hy, by show z < ak; rw [HZ.out]; exact Nat.lt_trans (Nat.mod_lt _ hp) hy.out, by show Nat.gcd y z = Nat.gcd m n; rw [HZ.out, ← hg.out, Nat.gcd_comm y, ← Nat.gcd_rec, Nat.gcd_comm], Quiet.step ⟨_, rfl⟩ _⟩, ?_⟩
    have := Nat.mod_lt x hp
    rw [← HZ.out] at this
    simp only [intOf, Int.toNat_natCast]
    first | omega | (rw [e2]; omega)
theorem Sz (m n : Nat) (va vb : Value) (w : World) (ha : bT .u64 ak w va m) (hb : bT .u64 ak w vb n) (hla : (aU ak m).length ≤ 274877906944) (hlb : (aU ak n).length ≤ 274877906944) :
  Calls Tryz.prog 58 #[va, vb] w (qh .u64 ak (Nat.gcd m n) w) := by
 go_enter Tryz.func58, Tryz.ntmps58
 go_wp2_with fail
 go_loopg [0, 1] n (fun k av bv wr => ∃ x : Nat, bT .u64 ak wr av x ∧ bT .u64 ak wr bv k ∧ Hid (Nat.gcd x k = Nat.gcd m n) ∧ (aU ak x).length ≤ 274877906944 ∧ (aU ak k).length ≤ 274877906944 ∧ Below w.heap.size w wr)
 case atStart => exact ⟨m, ha, hb, rfl, hla, hlb, Below.refl _ _⟩
 case round =>
  clear ha hb hla hlb
  obtain ⟨x, ha, hb, hg, hla, hlb, hbel⟩ := hrel
  rcases Nat.eq_zero_or_pos gk with h0 | hp
  ·
   subst h0
   have hg' := hg.out
   rw [Nat.gcd_zero_right] at hg'
   rw [hg'] at ha
   have Ha := ae ha
   obtain ⟨ab, cb, rfl, _⟩ := aX.opened hb
   rw [jW, List.length_nil]
   clear ha hb hg' 
   go_wp2_with fail
   go_ret
   exact ⟨_, rfl, Ha.out, hbel⟩
  ·
   have hk0 : 0 < (aU ak gk).length := by
    rcases Nat.eq_zero_or_pos (aU ak gk).length with h0 | h0
    · have := (fD aO gk).1 (List.eq_nil_of_length_eq_zero h0); omega
    · exact h0
   have Ha := ae ha
   have Hb := ae hb
   obtain ⟨aa, ca, rfl, _⟩ := aX.opened ha
   obtain ⟨ab, cb, rfl, _⟩ := aX.opened hb
   clear ha hb
   by_cases hs : (aU ak x).length ≤ 1 ∧ (aU ak gk).length ≤ 1
   ·
    obtain ⟨s1, s2⟩ := hs
    have t1 : decide (((aU ak x).length : Int) ≤ 1) = true := by simp; omega
    have t2 : decide (((aU ak gk).length : Int) ≤ 1) = true := by simp; omega
    have hgb : Nat.gcd x gk < ak := by
     refine Nat.lt_of_le_of_lt (Nat.le_of_dvd hp (Nat.gcd_dvd_right x gk)) ?_
     have h1 := dw aO gk
     exact Nat.lt_of_lt_of_le h1 (by have := Nat.pow_le_pow_right bD s2; simpa using this)
    go_wp2_with fail
    refine (Vh x gk _ _ _ Ha.out Hb.out s1 s2 hp).mono ?_
    rintro e w' ⟨rfl, nq, rfl⟩
    go_wp2_with fail
    refine (tH (Nat.gcd x gk) _ hgb).mono ?_
    rintro e w2 ⟨v2, rfl, hv2, hb2⟩
    go_wp2_with fail
    go_ret
    rw [hg.out] at hv2
    exact ⟨_, rfl, hv2, ax (sF hbel nq) hb2⟩
   ·
    by_cases s1 : (aU ak x).length ≤ 1
    ·
     have t1 : decide (((aU ak x).length : Int) ≤ 1) = true := by simp; omega
     have t2 : decide (((aU ak gk).length : Int) ≤ 1) = false := by simp; omega
     clear hs
     go_wp2_with fail
     refine (lX x gk _ _ _ Ha.out Hb.out hp hla).mono ?_
     rintro e w2 ⟨v1, v2, rfl, _, hv2, hb2⟩
     have hb0 := Hb.out.below hb2
     go_wp2_with fail
     go_roundg (x % gk)
     case measure => exact Nat.mod_lt _ hp
     case rel => exact ⟨gk, hb0, hv2, by show Nat.gcd gk (x % gk) = Nat.gcd m n; rw [← hg.out, Nat.gcd_comm gk, ← Nat.gcd_rec, Nat.gcd_comm], hlb, Nat.le_trans (aZ aO (Nat.mod_le _ _)) hla, ax hbel hb2⟩
    ·
     have t1 : decide (((aU ak x).length : Int) ≤ 1) = false := by simp; omega
     clear hs
     go_wp2_with fail
     refine (lX x gk _ _ _ Ha.out Hb.out hp hla).mono ?_
     rintro e w2 ⟨v1, v2, rfl, _, hv2, hb2⟩
     have hb0 := Hb.out.below hb2
     go_wp2_with fail
     go_roundg (x % gk)
     case measure => exact Nat.mod_lt _ hp
     case rel => exact ⟨gk, hb0, hv2, by show Nat.gcd gk (x % gk) = Nat.gcd m n; rw [← hg.out, Nat.gcd_comm gk, ← Nat.gcd_rec, Nat.gcd_comm], hlb, Nat.le_trans (aZ aO (Nat.mod_le _ _)) hla, ax hbel hb2⟩
theorem lh (d : Nat) (v : Value) (w : World) (h : bT .u64 ak w v (dn d)) (hd : 0 < d) : Calls Tryz.prog 54 #[v] w (qh .u64 ak d w) := by
 by_cases h1 : d = 1
 ·
  have hz : dn d = 0 := by simp [dn, h1]
  rw [hz] at h
  obtain ⟨ao, cap, rfl, _⟩ := aX.opened h
  rw [jW, List.length_nil]
  have H1 := ae h1
  clear h hz h1
  go_enter Tryz.func54, Tryz.ntmps54
  go_wp2_with fail
  have hw := tH 1 w (by unfold ak; omega)
  refine hw.mono ?_
  rintro e w' ⟨v, rfl, hv, hb⟩
  go_wp2_with fail
  go_ret
  rw [H1.out]
  exact ⟨_, rfl, hv, hb⟩
 ·
  have hz : dn d = d := by simp [dn, h1]
  rw [hz] at h
  have H := ae h
  obtain ⟨ao, cap, rfl, _⟩ := aX.opened h
  have hl : ((aU ak d).length : Int) ≠ 0 := fun h0 => by
   have := (fD aO d).1 (List.eq_nil_of_length_eq_zero (by omega)); omega
  have hb : (((aU ak d).length : Int) == 0) = false := beq_eq_false_iff_ne.2 hl
  clear h hl
  go_enter Tryz.func54, Tryz.ntmps54
  go_wp2_with fail
  go_ret
  exact ⟨_, rfl, H.out, Below.refl _ _⟩
theorem jR (neg : Bool) (n d : Nat) (vn vd : Value) (w : World) (hn : bT .u64 ak w vn n) (hd : bT .u64 ak w vd d) (hd0 : 0 < d) (hla : (aU ak n).length ≤ 274877906944) (hlb : (aU ak d).length ≤ 274877906944) :
  Calls Tryz.prog 27 #[.bool neg, vn, vd] w (dW (pK neg n d) w) := by
 by_cases hn0 : n = 0
 ·
  have Hn := ae hn0
  rw [hn0] at hn
  obtain ⟨ao, cap, rfl, _⟩ := aX.opened hn
  rw [jW, List.length_nil]
  clear hn hn0 hla
  go_enter Tryz.func27, Tryz.ntmps27
  go_wp2_with fail
  refine bodyPost_ret (v := .agg #[.bool false, .slice none 0 0, .slice none 0 0]) (by simp [results, Tryz.results27, go_sem]) rfl ⟨_, rfl, ?_, (Below.refl _ _).alloc (Nat.le_refl _) _⟩
  rw [Hn.out, aas]
  exact aA.zero _
 ·
  have hg0 : 0 < Nat.gcd n d := Nat.gcd_pos_of_pos_right n hd0
  have Gw := ae (Ky neg n d hd0 hn0)
  have Xl := ae (xY neg n d hd0)
  have Xj := ae (xX neg n d hd0)
  have hl : ((aU ak n).length : Int) ≠ 0 := fun h0 => by
   have := (fD aO n).1 (List.eq_nil_of_length_eq_zero (by omega)); omega
  have hlb0 : (((aU ak n).length : Int) == 0) = false := beq_eq_false_iff_ne.2 hl
  have Hn := ae hn
  have Hd := ae hd
  obtain ⟨ao, cap, rfl, _⟩ := aX.opened hn
  obtain ⟨dd, hdd⟩ : ∃ dd, dd = d / Nat.gcd n d := ⟨_, rfl⟩
  obtain ⟨nn, hnn⟩ : ∃ nn, nn = n / Nat.gcd n d := ⟨_, rfl⟩
  have atN : 0 < dd := by rw [hdd]; exact Nat.div_pos (Nat.le_of_dvd hd0 (Nat.gcd_dvd_right n d)) hg0
  rw [← hnn] at Xl
  rw [← hdd] at Xj
  have Hdd := ae hdd
  have Hnn := ae hnn
  generalize hq : pK neg n d = q at *
  clear hn hd hl hdd hnn hq hn0
  by_cases hg1 : Nat.gcd n d = 1
  ·
   have t1 : decide (Nat.gcd n d = 1) = true := by simp [hg1]
   have aqF : nn = n := by rw [Hnn.out, hg1, Nat.div_one]
   have apR : dd = d := by rw [Hdd.out, hg1, Nat.div_one]
   subst aqF apR
   clear hg1
   have hal : Below w.heap.size w (w.alloc (.cells #[.bool false, .slice none 0 0, .slice none 0 0] 40)) := (Below.refl _ _).alloc (Nat.le_refl _) _
   have hB0 := aV w #[.bool false, .slice none 0 0, .slice none 0 0] 40
   obtain ⟨ad, cd, rfl, _⟩ := aX.opened Hd.out
   go_enter Tryz.func27, Tryz.ntmps27
   go_wp2_with fail
   refine (Sz nn dd _ _ _ (Hn.out.below hal) (Hd.out.below hal) hla hlb).mono ?_
   rintro e w3 ⟨vg, rfl, hvg, hb1⟩
   have hx3 := ax hal hb1
   have hB3 := ay hB0 hb1 (by simp)
   have GH := Hn.out.below hx3
   have hv3 := Hd.out.below hx3
   clear hal hB0 hb1
   have hBl := ai hB3
   have c0 := af hB3 0 (.bool false) rfl
   have c1 := af hB3 1 (.slice none 0 0) rfl
   have c2 := af hB3 2 (.slice none 0 0) rfl
   have f0 := ah hB3 0
   have f1 := ah hB3 1
   have f2 := ah hB3 2
   go_wp2_with fail
   refine (lg _ _ _ hvg).mono ?_
   rw [t1]
   rintro e w' ⟨rfl, rfl⟩
   go_wp2_with fail
   refine (lg _ _ _ hv3).mono ?_
   have Xm := ae GH
   have Hv3 := ae hv3
   have HB3 := ae hB3
   clear GH hv3 hB3
   by_cases hd1 : dd = 1
   ·
    have t2 : decide (dd = 1) = true := by simp [hd1]
    have Hd1 := ae hd1
    clear hd1
    rw [t2]
    rintro e w' ⟨rfl, rfl⟩
    clear t1 t2
    go_wp2_with fail
    refine bodyPost_ret (v := .agg #[.bool neg, .slice ao (aU ak nn).length cap, .slice none 0 0]) (by simp [results, Tryz.results27, go_sem, c0, c1, c2]) rfl ⟨_, rfl, ?_, dm hx3 (Nat.le_refl _)⟩
    refine ⟨_, _, by rw [Gw.out], ?_, ?_⟩
    · rw [Xl.out]; exact nD HB3.out Xm.out
    · rw [Xj.out, Hd1.out]; exact bT.zero _ _ _
   ·
    have t2 : decide (dd = 1) = false := by simp [hd1]
    have Hd1 : Hid (dn dd = dd) := by show dn dd = dd; simp [dn, hd1]
    clear hd1
    rw [t2]
    rintro e w' ⟨rfl, rfl⟩
    clear t1 t2
    go_wp2_with fail
    refine bodyPost_ret (v := .agg #[.bool neg, .slice ao (aU ak nn).length cap, .slice ad (aU ak dd).length cd]) (by simp [results, Tryz.results27, go_sem, c0, c1, c2]) rfl ⟨_, rfl, ?_, dm hx3 (Nat.le_refl _)⟩
    refine ⟨_, _, by rw [Gw.out], ?_, ?_⟩
    · rw [Xl.out]; exact nD HB3.out Xm.out
    · rw [Xj.out, Hd1.out]; exact nD HB3.out Hv3.out
  ·
   have t1 : decide (Nat.gcd n d = 1) = false := by simp [hg1]
   clear hg1
   have hal : Below w.heap.size w (w.alloc (.cells #[.bool false, .slice none 0 0, .slice none 0 0] 40)) := (Below.refl _ _).alloc (Nat.le_refl _) _
   have hB0 := aV w #[.bool false, .slice none 0 0, .slice none 0 0] 40
   go_enter Tryz.func27, Tryz.ntmps27
   go_wp2_with fail
   refine (Sz n d _ _ _ (Hn.out.below hal) (Hd.out.below hal) hla hlb).mono ?_
   rintro e w1 ⟨vg, rfl, hvg, hb1⟩
   have hx1 := ax hal hb1
   have hB1 := ay hB0 hb1 (by simp)
   clear hal hB0
   go_wp2_with fail
   refine (lg _ _ _ hvg).mono ?_
   rw [t1]
   rintro e w' ⟨rfl, rfl⟩
   go_wp2_with fail
   refine (lX n _ _ _ _ (Hn.out.below hx1) hvg hg0 hla).mono ?_
   rintro e w2 ⟨v1, v2, rfl, hv1, _, hb2⟩
   have hx2 := ax hx1 hb2
   have hB2 := ay hB1 hb2 (ai hB1)
   have ank := hvg.below hb2
   clear hB1 hvg
   go_wp2_with fail
   refine (lX d _ _ _ _ (Hd.out.below hx2) ank hg0 hlb).mono ?_
   rintro e w3 ⟨v3, v4, rfl, hv3, _, hb3⟩
   have hx3 := ax hx2 hb3
   have hB3 := ay hB2 hb3 (ai hB2)
   have GH := hv1.below hb3
   rw [← Hnn.out] at GH
   rw [← Hdd.out] at hv3
   clear hB2 ank hx1 hx2 hb1 hb2 hb3 hv1
   have afY := ae GH
   have ak1 := ae hv3
   obtain ⟨a1, c1', rfl, _⟩ := aX.opened GH
   obtain ⟨a3, c3', rfl, _⟩ := aX.opened hv3
   clear GH hv3
   have GH := afY.out
   have hv3 := ak1.out
   clear afY ak1
   have hBl := ai hB3
   have c0 := af hB3 0 (.bool false) rfl
   have c1 := af hB3 1 (.slice none 0 0) rfl
   have c2 := af hB3 2 (.slice none 0 0) rfl
   have f0 := ah hB3 0
   have f1 := ah hB3 1
   have f2 := ah hB3 2
   go_wp2_with fail
   refine (lg _ _ _ hv3).mono ?_
   have Xm := ae GH
   have Hv3 := ae hv3
   have HB3 := ae hB3
   clear GH hv3 hB3
   by_cases hd1 : dd = 1
   ·
    have t2 : decide (dd = 1) = true := by simp [hd1]
    have Hd1 := ae hd1
    clear hd1
    rw [t2]
    rintro e w' ⟨rfl, rfl⟩
    clear t1 t2
    go_wp2_with fail
    refine bodyPost_ret (v := .agg #[.bool neg, .slice a1 (aU ak nn).length c1', .slice none 0 0]) (by simp [results, Tryz.results27, go_sem, c0, c1, c2]) rfl ⟨_, rfl, ?_, dm hx3 (Nat.le_refl _)⟩
    refine ⟨_, _, by rw [Gw.out], ?_, ?_⟩
    · rw [Xl.out]; exact nD HB3.out Xm.out
    · rw [Xj.out, Hd1.out]; exact bT.zero _ _ _
   ·
    have t2 : decide (dd = 1) = false := by simp [hd1]
    have Hd1 : Hid (dn dd = dd) := by show dn dd = dd; simp [dn, hd1]
    clear hd1
    rw [t2]
    rintro e w' ⟨rfl, rfl⟩
    clear t1 t2
    go_wp2_with fail
    refine bodyPost_ret (v := .agg #[.bool neg, .slice a1 (aU ak nn).length c1', .slice a3 (aU ak dd).length c3']) (by simp [results, Tryz.results27, go_sem, c0, c1, c2]) rfl ⟨_, rfl, ?_, dm hx3 (Nat.le_refl _)⟩
    refine ⟨_, _, by rw [Gw.out], ?_, ?_⟩
    · rw [Xl.out]; exact nD HB3.out Xm.out
    · rw [Xj.out, Hd1.out]; exact nD HB3.out Hv3.out
theorem size_any (n : Int) (w : World) (h1 : -9223372036854775808 ≤ n) (h2 : n ≤ 9223372036854775807) : Calls Tryz.prog 22 #[.int .i64 n] w (qh .u64 ak n.natAbs w) := by
 have hb : n.natAbs < ak := by unfold ak; omega
 by_cases hn : n < 0
 ·
  have e1 : IntKind.u64.wrap (-(IntKind.u64.wrap n)) = ((n.natAbs : Nat) : Int) := by
   rw [IntKind.wrap_u64, IntKind.wrap_u64]; omega
  go_enter Tryz.func22, Tryz.ntmps22
  go_wp2_with fail
  refine (tH n.natAbs _ hb).mono ?_
  rintro e w' ⟨v, rfl, hv, hb'⟩
  go_wp2_with fail
  go_ret
  exact ⟨_, rfl, hv, hb'⟩
 ·
  have e1 : IntKind.u64.wrap n = ((n.natAbs : Nat) : Int) := by
   rw [IntKind.wrap_u64]; omega
  go_enter Tryz.func22, Tryz.ntmps22
  go_wp2_with fail
  refine (tH n.natAbs _ hb).mono ?_
  rintro e w' ⟨v, rfl, hv, hb'⟩
  go_wp2_with fail
  go_ret
  exact ⟨_, rfl, hv, hb'⟩
theorem Aa (b : Bool) (a1 : Option Addr) (n c1 : Nat) (a2 : Option Addr) (l2 c2 : Nat) (w : World) :
  Calls Tryz.prog 81 #[.agg #[.bool b, .slice a1 (aU ak n).length c1, .slice a2 l2 c2]] w (ja (decide (n = 0)) w) := by
 have e : ((((aU ak n).length : Nat) : Int) == 0) = decide (n = 0) := by
  rw [Bool.eq_iff_iff]
  simp only [beq_iff_eq, decide_eq_true_eq]
  rw [← fD aO n]
  constructor
  · intro h; exact List.eq_nil_of_length_eq_zero (by omega)
  · intro h; rw [h]; rfl
 rw [← e]
 clear e
 go_enter Tryz.func81, Tryz.ntmps81
 go_wp2_with fail
 go_ret
 exact ⟨rfl, (Below.refl _ _).alloc (Nat.le_refl _) _⟩
def jG (b : Bool) (n : Nat) : Int := if b then -1 else if n = 0 then 0 else 1
theorem zX (b : Bool) (a1 : Option Addr) (n c1 : Nat) (a2 : Option Addr) (l2 c2 : Nat) (w : World) :
  Calls Tryz.prog 60 #[.agg #[.bool b, .slice a1 (aU ak n).length c1, .slice a2 l2 c2]] w (yN (jG b n) w) := by
 have hal : Below w.heap.size w (w.alloc (.cells #[.bool b, .slice a1 (aU ak n).length c1, .slice a2 l2 c2] 40)) := (Below.refl _ _).alloc (Nat.le_refl _) _
 cases b with
 | true =>
  have Hs : Hid (jG true n = -1) := rfl
  go_enter Tryz.func60, Tryz.ntmps60
  go_wp2_with fail
  go_ret
  exact ⟨by rw [Hs.out]; rfl, hal⟩
 | false =>
  by_cases hn : n = 0
  ·
   have t : decide (n = 0) = true := by simp [hn]
   have Hs : Hid (jG false n = 0) := by show jG false n = 0; simp [jG, hn]
   clear hn
   go_enter Tryz.func60, Tryz.ntmps60
   go_wp2_with fail
   refine (Aa _ _ n _ _ _ _ _).mono ?_
   rw [t]
   rintro e w' ⟨rfl, hb⟩
   go_wp2_with fail
   go_ret
   exact ⟨by rw [Hs.out]; rfl, ax hal hb⟩
  ·
   have t : decide (n = 0) = false := by simp [hn]
   have Hs : Hid (jG false n = 1) := by show jG false n = 1; simp [jG, hn]
   clear hn
   go_enter Tryz.func60, Tryz.ntmps60
   go_wp2_with fail
   refine (Aa _ _ n _ _ _ _ _).mono ?_
   rw [t]
   rintro e w' ⟨rfl, hb⟩
   go_wp2_with fail
   go_ret
   exact ⟨by rw [Hs.out]; rfl, ax hal hb⟩
theorem CY (n : Int) (w : World) (h1 : -9223372036854775808 ≤ n) (h2 : n ≤ 9223372036854775807) : Calls Tryz.prog 11 #[.int .i64 n] w (dW (n : Rat) w) := by
 have hal : Below w.heap.size w (w.alloc (.cells #[.bool false, .slice none 0 0, .slice none 0 0] 40)) := (Below.refl _ _).alloc (Nat.le_refl _) _
 have hB0 := aV w #[.bool false, .slice none 0 0, .slice none 0 0] 40
 go_enter Tryz.func11, Tryz.ntmps11
 go_wp2_with fail
 refine (size_any n _ h1 h2).mono ?_
 rintro e w3 ⟨v, rfl, hv, hb⟩
 have hx3 := ax hal hb
 have hB3 := ay hB0 hb (by simp)
 have Hv := ae hv
 obtain ⟨a1, c1, rfl, _⟩ := aX.opened hv
 clear hv hal hB0 hb
 have hBl := ai hB3
 have c0 := af hB3 0 (.bool false) rfl
 have c1 := af hB3 1 (.slice none 0 0) rfl
 have c2 := af hB3 2 (.slice none 0 0) rfl
 have f0 := ah hB3 0
 have f1 := ah hB3 1
 have f2 := ah hB3 2
 have HB3 := ae hB3
 clear hB3
 go_wp2_with fail
 refine bodyPost_ret (v := .agg #[.bool (decide (n < 0)), .slice a1 (aU ak n.natAbs).length _, .slice none 0 0]) (by simp [results, Tryz.results11, go_sem, c0, c1, c2]; first | done | exact ⟨rfl, rfl⟩ | rfl) rfl ⟨_, rfl, ?_, dm hx3 (Nat.le_refl _)⟩
 refine ⟨_, _, rfl, ?_, ?_⟩
 · exact nD HB3.out Hv.out
 · exact bT.zero _ _ _
def adL (q : Rat) (err : Int) (w : World) (e : Ending) (w' : World) : Prop :=
 ∃ v, e = .returned (.tuple #[v, .int .i64 err]) ∧ aA w' v q ∧ Below w.heap.size w w'
theorem zS (n : Int) (h1 : -9223372036854775808 ≤ n) (h2 : n ≤ 9223372036854775807) : (aU ak n.natAbs).length ≤ 1 := b_ aO 1 _ (by unfold ak; omega)
theorem Iu (n d : Int) (hd : d ≠ 0) : pK (decide (n < 0) != decide (d < 0)) n.natAbs d.natAbs = (n : Rat) / (d : Rat) := by
 have hd' : (d : Rat) ≠ 0 := by simpa using hd
 have h1 : pK (decide (n < 0) != decide (d < 0)) n.natAbs d.natAbs = (sg (decide (n < 0) != decide (d < 0)) n.natAbs : Rat) / ((d.natAbs : Nat) : Rat) := by
  unfold pK; exact Rat.mkRat_eq_div _ _
 rw [h1]
 rcases Int.lt_or_le d 0 with hdn | hdn
 ·
  have e1 : ((d.natAbs : Nat) : Rat) = -(d : Rat) := by
   have : ((d.natAbs : Nat) : Int) = -d := by omega
   rw [← Rat.intCast_natCast, this, Rat.intCast_neg]
  rcases Int.lt_or_le n 0 with hnn | hnn
  ·
   have e2 : sg (decide (n < 0) != decide (d < 0)) n.natAbs = -n := by
    unfold sg; simp [hdn, hnn]; omega
   rw [e1, e2, Rat.intCast_neg]
   grind
  ·
   have e2 : sg (decide (n < 0) != decide (d < 0)) n.natAbs = -n := by
    have : ¬ n < 0 := by omega
    unfold sg; simp [hdn, this]; omega
   rw [e1, e2, Rat.intCast_neg]
   grind
 ·
  have e1 : ((d.natAbs : Nat) : Rat) = (d : Rat) := by
   have : ((d.natAbs : Nat) : Int) = d := by omega
   rw [← Rat.intCast_natCast, this]
  have hd2 : ¬ d < 0 := by omega
  rcases Int.lt_or_le n 0 with hnn | hnn
  ·
   have e2 : sg (decide (n < 0) != decide (d < 0)) n.natAbs = n := by
    unfold sg; simp [hd2, hnn]; omega
   rw [e1, e2]
  ·
   have e2 : sg (decide (n < 0) != decide (d < 0)) n.natAbs = n := by
    have : ¬ n < 0 := by omega
    unfold sg; simp [hd2, this]; omega
   rw [e1, e2]
theorem new_any (n d : Int) (w : World) (h1 : -9223372036854775808 ≤ n) (h2 : n ≤ 9223372036854775807) (h3 : -9223372036854775808 ≤ d) (h4 : d ≤ 9223372036854775807) (hd : d ≠ 0) :
  Calls Tryz.prog 15 #[.int .i64 n, .int .i64 d] w (adL ((n : Rat) / (d : Rat)) 0 w) := by
 have hq : pK (!(decide (n < 0) == decide (d < 0))) n.natAbs d.natAbs = (n : Rat) / (d : Rat) := Iu n d hd
 generalize (n : Rat) / (d : Rat) = q at *
 have t : ((d : Int) == 0) = false := beq_eq_false_iff_ne.2 hd
 have hal : Below w.heap.size w (w.alloc (.cells #[.bool false, .slice none 0 0, .slice none 0 0] 40)) := (Below.refl _ _).alloc (Nat.le_refl _) _
 have hB0 := aV w #[.bool false, .slice none 0 0, .slice none 0 0] 40
 have Hq := ae hq
 have hdp : 0 < d.natAbs := by omega
 clear hq
 go_enter Tryz.func15, Tryz.ntmps15
 go_wp2_with fail
 refine (size_any n _ h1 h2).mono ?_
 rintro e w1 ⟨v1, rfl, hv1, hb1⟩
 have hx1 := ax hal hb1
 have hB1 := ay hB0 hb1 (by simp)
 go_wp2_with fail
 refine (size_any d _ h3 h4).mono ?_
 rintro e w2 ⟨v2, rfl, hv2, hb2⟩
 have hx2 := ax hx1 hb2
 have hB2 := ay hB1 hb2 (ai hB1)
 go_wp2_with fail
 refine (jR _ n.natAbs d.natAbs _ _ _ (hv1.below hb2) hv2 hdp (by have := zS n h1 h2; omega) (by have := zS d h3 h4; omega)).mono ?_
 rintro e w3 ⟨v, rfl, hv, hb⟩
 rw [Hq.out] at hv
 have hx3 := ax hx2 hb
 have hB3 := ay hB2 hb (ai hB2)
 obtain ⟨a1, c1, a2, c2, rfl, hn', hd'⟩ := hv.opened
 have HB3 := ae hB3
 have hBl := ai hB3
 have c0 := af hB3 0 (.bool false) rfl
 have c1 := af hB3 1 (.slice none 0 0) rfl
 have c2 := af hB3 2 (.slice none 0 0) rfl
 have f0 := ah hB3 0
 have f1 := ah hB3 1
 have f2 := ah hB3 2
 clear hv1 hv2 hv hb hb1 hb2 hx1 hx2 hal hB0 hB1 hB2 hB3
 go_wp2_with fail
 refine bodyPost_ret (v := .tuple #[.agg #[.bool (decide (q.num < 0)), .slice a1 (aU ak q.num.natAbs).length _, .slice a2 (aU ak (dn q.den)).length _], .int .i64 0]) (by simp [results, Tryz.results15, go_sem, c0, c1, c2]; first | done | exact ⟨⟨rfl, rfl⟩, rfl⟩ | exact ⟨rfl, rfl⟩ | rfl) rfl ⟨_, rfl, ?_, dm hx3 (Nat.le_refl _)⟩
 exact ⟨_, _, rfl, nD HB3.out hn', nD HB3.out hd'⟩
def Xn (d' d : Nat) : Prop := d' = d ∨ (d' = 0 ∧ d = 1)
def uZ (w : World) (v : Value) (q : Rat) : Prop :=
 ∃ vn vd d', v = .agg #[.bool (decide (q.num < 0)), vn, vd] ∧ bT .u32 b32 w vn q.num.natAbs ∧ bT .u32 b32 w vd d' ∧ Xn d' q.den
theorem uZ.below {w w' : World} {v : Value} {q : Rat} (h : uZ w v q) (hb : Below w.heap.size w w') : uZ w' v q := by
 obtain ⟨vn, vd, d', rfl, h1, h2, h3⟩ := h
 exact ⟨vn, vd, d', rfl, h1.below hb, h2.below hb, h3⟩
theorem uZ.zero (w : World) : uZ w (.agg #[.bool false, .slice none 0 0, .slice none 0 0]) 0 :=
 ⟨_, _, 0, rfl, bT.zero _ _ _, bT.zero _ _ _, .inr ⟨rfl, rfl⟩⟩
theorem uZ.opened {w : World} {v : Value} {q : Rat} (h : uZ w v q) : ∃ d' a1 c1 a2 c2, v = .agg #[.bool (decide (q.num < 0)), .slice a1 (aU b32 q.num.natAbs).length c1, .slice a2 (aU b32 d').length c2] ∧
  bT .u32 b32 w (.slice a1 (aU b32 q.num.natAbs).length c1) q.num.natAbs ∧ bT .u32 b32 w (.slice a2 (aU b32 d').length c2) d' ∧ Xn d' q.den := by
 obtain ⟨vn, vd, d', rfl, h1, h2, h3⟩ := h
 have h1' := h1
 have h2' := h2
 obtain ⟨a1, c1, rfl, _⟩ := aX.opened h1
 obtain ⟨a2, c2, rfl, _⟩ := aX.opened h2
 exact ⟨d', a1, c1, a2, c2, rfl, h1', h2', h3⟩
def nN (q : Rat) : Int := jG (decide (q.num < 0)) q.num.natAbs
theorem qO (q : Rat) : (q.num < 0 ∧ nN q = -1) ∨ (q.num = 0 ∧ nN q = 0) ∨ (0 < q.num ∧ nN q = 1) := by
  unfold nN jG
  rcases Int.lt_trichotomy q.num 0 with h | h | h
  · exact .inl ⟨h, by simp [h]⟩
  · exact .inr (.inl ⟨h, by simp [h]⟩)
  · exact .inr (.inr ⟨h, by have h1 : ¬ q.num < 0 := by omega
                            have h2 : q.num ≠ 0 := by omega
                            simp [h1, h2]⟩)
theorem Sj (x y : Rat) (h : nN x < nN y) : dN x y = -1 := by
 have hx := qO x
 have hy := qO y
 have dx : (0 : Int) < x.den := by have := x.den_pos; omega
 have dy : (0 : Int) < y.den := by have := y.den_pos; omega
 have hlt : x < y := by
  rw [Rat.lt_iff]
  rcases hx with ⟨h1, e1⟩ | ⟨h1, e1⟩ | ⟨h1, e1⟩ <;> rcases hy with ⟨h2, e2⟩ | ⟨h2, e2⟩ | ⟨h2, e2⟩ <;> first | omega | skip
  ·
   have a := Int.mul_neg_of_neg_of_pos h1 dy
   rw [h2]; omega
  ·
   have a := Int.mul_neg_of_neg_of_pos h1 dy
   have b := Int.mul_pos h2 dx
   omega
  ·
   have b := Int.mul_pos h2 dx
   rw [h1]; omega
 unfold dN; rw [if_pos hlt]
theorem Uj (x y : Rat) : dN x y = - dN y x := by
 unfold dN
 by_cases h1 : x < y
 ·
  have h2 : ¬ y < x := by grind
  simp [h1, h2]
 ·
  by_cases h2 : y < x
  · simp [h1, h2]
  · simp [h1, h2]
theorem adV (x y : Rat) (h : nN y < nN x) : dN x y = 1 := by
 rw [Uj, Sj y x h]; rfl
theorem Ui (x y : Rat) (h : nN x = nN y) : dN x y = jw (x.num.natAbs * y.den) (y.num.natAbs * x.den) * nN x := by
 have hx := qO x
 have hy := qO y
 have key : ∀ (P : Prop) [Decidable P] (R : Prop) [Decidable R] (a b : Nat), (x < y ↔ a < b) → (y < x ↔ b < a) → dN x y = jw a b := by
  intro P _ R _ a b h1 h2
  unfold dN jw
  simp only [h1, h2]
 have e1 : ∀ q : Rat, q.num < 0 → q.num = -((q.num.natAbs : Nat) : Int) := fun q h => by omega
 have e2 : ∀ q : Rat, 0 < q.num → q.num = ((q.num.natAbs : Nat) : Int) := fun q h => by omega
 rcases hx with ⟨h1, s1⟩ | ⟨h1, s1⟩ | ⟨h1, s1⟩ <;> rcases hy with ⟨h2, s2⟩ | ⟨h2, s2⟩ | ⟨h2, s2⟩ <;> first | omega | skip
 ·
  have k := key True True (y.num.natAbs * x.den) (x.num.natAbs * y.den) (by
   rw [Rat.lt_iff]
   rw [e1 x h1, e1 y h2]
   simp only [Int.natAbs_neg, Int.natAbs_natCast, Int.neg_mul]
   rw [← Int.natCast_mul, ← Int.natCast_mul]; omega) (by
   rw [Rat.lt_iff]
   rw [e1 x h1, e1 y h2]
   simp only [Int.natAbs_neg, Int.natAbs_natCast, Int.neg_mul]
   rw [← Int.natCast_mul, ← Int.natCast_mul]; omega)
  rw [k, s1]
  generalize y.num.natAbs * x.den = A
  generalize x.num.natAbs * y.den = B
  unfold jw
  split <;> split <;> (try split) <;> omega
 ·
  have hx0 : x = 0 := Rat.num_eq_zero.1 h1
  have hy0 : y = 0 := Rat.num_eq_zero.1 h2
  rw [s1, hx0, hy0]
  simp [dN]
 ·
  have k := key True True (x.num.natAbs * y.den) (y.num.natAbs * x.den) (by
   rw [Rat.lt_iff]
   rw [e2 x h1, e2 y h2]
   simp only [Int.natAbs_natCast]
   rw [← Int.natCast_mul, ← Int.natCast_mul]; omega) (by
   rw [Rat.lt_iff]
   rw [e2 x h1, e2 y h2]
   simp only [Int.natAbs_natCast]
   rw [← Int.natCast_mul, ← Int.natCast_mul]; omega)
  rw [k, s1, Int.mul_one]
theorem iM (x y : Rat) (vx vy : Value) (w : World) (hx : aA w vx x) (hy : aA w vy y) (hlx : bQ x 274877906944) (CW : bQ y 274877906944) :
  Calls Tryz.prog 36 #[vx, vy] w (yN (dN x y) w) := by
 obtain ⟨a1, c1, a2, c2, rfl, n1, n2⟩ := hx.opened
 obtain ⟨a3, c3, a4, c4, rfl, n3, n4⟩ := hy.opened
 have N1 := ae n1
 have N2 := ae n2
 have N3 := ae n3
 have N4 := ae n4
 clear hx hy n1 n2 n3 n4
 go_enter Tryz.func36, Tryz.ntmps36
 go_wp2_with fail
 have hal : Below w.heap.size w ((w.alloc (.cells #[.bool (decide (x.num < 0)), .slice a1 (aU ak x.num.natAbs).length c1, .slice a2 (aU ak (dn x.den)).length c2] 40)).alloc (.cells #[.bool (decide (y.num < 0)), .slice a3 (aU ak y.num.natAbs).length c3, .slice a4 (aU ak (dn y.den)).length c4] 40)) :=
  ((Below.refl _ _).alloc (Nat.le_refl _) _).alloc (by simp) _
 have hB1 := (ay (aV w #[.bool (decide (x.num < 0)), .slice a1 (aU ak x.num.natAbs).length c1, .slice a2 (aU ak (dn x.den)).length c2] 40) ((Below.refl _ _).alloc (Nat.le_refl _) (.cells #[.bool (decide (y.num < 0)), .slice a3 (aU ak y.num.natAbs).length c3, .slice a4 (aU ak (dn y.den)).length c4] 40)) (by simp))
 have hB2 := aV (w.alloc (.cells #[.bool (decide (x.num < 0)), .slice a1 (aU ak x.num.natAbs).length c1, .slice a2 (aU ak (dn x.den)).length c2] 40)) #[.bool (decide (y.num < 0)), .slice a3 (aU ak y.num.natAbs).length c3, .slice a4 (aU ak (dn y.den)).length c4] 40
 rw [World.size_alloc] at hB2
 generalize ((w.alloc (.cells #[.bool (decide (x.num < 0)), .slice a1 (aU ak x.num.natAbs).length c1, .slice a2 (aU ak (dn x.den)).length c2] 40)).alloc (.cells #[.bool (decide (y.num < 0)), .slice a3 (aU ak y.num.natAbs).length c3, .slice a4 (aU ak (dn y.den)).length c4] 40)) = W at *
 have p0 := af hB1 0 (.bool (decide (x.num < 0))) rfl
 have p1 := af hB1 1 (.slice a1 (aU ak x.num.natAbs).length c1) rfl
 have p2 := af hB1 2 (.slice a2 (aU ak (dn x.den)).length c2) rfl
 have r0 := af hB2 0 (.bool (decide (y.num < 0))) rfl
 have r1 := af hB2 1 (.slice a3 (aU ak y.num.natAbs).length c3) rfl
 have r2 := af hB2 2 (.slice a4 (aU ak (dn y.den)).length c4) rfl
 have hl1 := ai hB1
 have hl2 := ai hB2
 clear hB1 hB2
 go_wp2_with fail
 go_region_held3 (fun w' => Below W.heap.size W w' ∧ w'.cell? ⟨w.heap.size, 0, none⟩ = some (.bool (decide (x.num < 0))) ∧ w'.cell? ⟨w.heap.size, 1, none⟩ = some (.slice a1 (aU ak x.num.natAbs).length c1) ∧ w'.cell? ⟨w.heap.size, 2, none⟩ = some (.slice a2 (aU ak (dn x.den)).length c2) ∧
   w'.cell? ⟨w.heap.size + 1, 0, none⟩ = some (.bool (decide (y.num < 0))) ∧ w'.cell? ⟨w.heap.size + 1, 1, none⟩ = some (.slice a3 (aU ak y.num.natAbs).length c3) ∧ w'.cell? ⟨w.heap.size + 1, 2, none⟩ = some (.slice a4 (aU ak (dn y.den)).length c4))
  (first | exact ⟨Below.refl _ _, p0, p1, p2, r0, r1, r2⟩ | exact ⟨(Below.refl _ _).drew, p0, p1, p2, r0, r1, r2⟩ | exact FT hl1 hl2 hb' (by assumption))
  (first | (go_at_call 60; refine (zX _ _ _ _ _ _ _ _).mono ?_; rintro e w' ⟨rfl, hb'⟩))
 rw [show jG (decide (x.num < 0)) x.num.natAbs = nN x from rfl, show jG (decide (y.num < 0)) y.num.natAbs = nN y from rfl]
 rename_i wv hS1 
 rcases Int.lt_trichotomy (nN x) (nN y) with hlt | heq | hgt
 ·
  have t1 : (nN x != nN y) = true := by rw [bne_iff_ne]; omega
  have Hr := ae (Sj x y hlt)
  generalize nN x = sx at *
  generalize nN y = sy at *
  go_wp2_with fail
  go_ret
  exact ⟨by rw [Hr.out]; rfl, ax hal (And.left (by assumption))⟩
 ·
  have t1 : (nN x != nN y) = false := by rw [heq]; simp
  have Hr := ae (Ui x y heq)
  rw [← heq]
  clear heq
  have hal2 := ax hal hS1.1
  obtain ⟨hW, p0', p1', p2', r0', r1', r2'⟩ := hS1
  have UL : w.heap.size < w'.heap.size := Nat.lt_of_lt_of_le hl1 hW.size
  have UM : w.heap.size + 1 < w'.heap.size := Nat.lt_of_lt_of_le hl2 hW.size
  clear p0 p1 p2 r0 r1 r2 wv hb' hl1 hl2 hal hW
  have hM1 := dJ aO x.num.natAbs y.den
  have hM2 := dJ aO y.num.natAbs x.den
  have I4 := ae hlx
  have I5 := ae CW
  have HM1 := ae hM1
  have HM2 := ae hM2
  clear hlx CW hM1 hM2
  have Ex : jG (decide (x.num < 0)) x.num.natAbs = nN x := rfl
  have EX := ae Ex
  clear Ex
  go_wp2_with fail
  go_region_held3 (fun w2 => Below w'.heap.size w' w2 ∧ w2.cell? ⟨w.heap.size, 0, none⟩ = some (.bool (decide (x.num < 0))) ∧ w2.cell? ⟨w.heap.size, 1, none⟩ = some (.slice a1 (aU ak x.num.natAbs).length c1) ∧ w2.cell? ⟨w.heap.size, 2, none⟩ = some (.slice a2 (aU ak (dn x.den)).length c2) ∧
    w2.cell? ⟨w.heap.size + 1, 0, none⟩ = some (.bool (decide (y.num < 0))) ∧ w2.cell? ⟨w.heap.size + 1, 1, none⟩ = some (.slice a3 (aU ak y.num.natAbs).length c3) ∧ w2.cell? ⟨w.heap.size + 1, 2, none⟩ = some (.slice a4 (aU ak (dn y.den)).length c4))
   (first | exact ⟨Below.refl _ _, p0', p1', p2', r0', r1', r2'⟩ | exact ⟨(Below.refl _ _).drew, p0', p1', p2', r0', r1', r2'⟩ | exact FT UL UM Ag (by assumption) | exact FT UL UM Aw (by assumption) | exact FT UL UM hbD (by assumption) | exact FT UL UM hbC (by assumption) | exact FT UL UM hbB (by assumption) | exact FT UL UM ji (by assumption))
   (first
    | (go_at_call_of 54 (Value.slice a4 (aU ak (dn y.den)).length c4); refine (lh y.den _ _ (N4.out.below (ax hal2 (And.left (by assumption)))) y.den_pos).mono ?_; rintro e wA ⟨vA, rfl, hvA, ji⟩)
    | (go_at_call_of 66 (Value.slice a1 (aU ak x.num.natAbs).length c1); refine (times_any x.num.natAbs y.den _ _ _ (N1.out.below (ax hal2 (And.left (by assumption)))) hvA (by have := I4.out.1; have := I5.out.2; omega)).mono ?_; rintro e wB ⟨vB, rfl, hvB, hbB⟩)
    | (go_at_call_of 54 (Value.slice a2 (aU ak (dn x.den)).length c2); refine (lh x.den _ _ (N2.out.below (ax hal2 (And.left (by assumption)))) x.den_pos).mono ?_; rintro e wC ⟨vC, rfl, CX, hbC⟩)
    | (go_at_call_of 66 (Value.slice a3 (aU ak y.num.natAbs).length c3); refine (times_any y.num.natAbs x.den _ _ _ (N3.out.below (ax hal2 (And.left (by assumption)))) CX (by have := I4.out.2; have := I5.out.1; omega)).mono ?_; rintro e wD ⟨vD, rfl, EM, hbD⟩)
    | (go_at_call 67; refine (xO _ _ _ _ _ (hvB.below (ax hbC hbD)) EM).mono ?_; rintro e wE ⟨rfl, hqE⟩; have Aw := hqE.below)
    | (go_at_call 60; refine (zX _ _ _ _ _ _ _ _).mono ?_; rintro e wF ⟨rfl, Ag⟩))
  rw [EX.out]
  have hcs : ∀ a b : Nat, jw a b = -1 ∨ jw a b = 0 ∨ jw a b = 1 := fun a b => by unfold jw; split <;> (try split) <;> omega
  have hw : IntKind.i64.wrap (jw (x.num.natAbs * y.den) (y.num.natAbs * x.den) * nN x) = jw (x.num.natAbs * y.den) (y.num.natAbs * x.den) * nN x := by
   apply IntWalk.i64_in
   rcases hcs (x.num.natAbs * y.den) (y.num.natAbs * x.den) with h | h | h <;> rcases qO x with ⟨_, h'⟩ | ⟨_, h'⟩ | ⟨_, h'⟩ <;> rw [h, h'] <;> omega
  rw [← Hr.out] at hw
  have Hw := ae hw
  clear hcs hw
  go_wp2_with fail
  go_ret
  refine ⟨?_, ax hal2 (And.left (by assumption))⟩
  rw [← Hw.out, Hr.out]
  rfl
 ·
  have t1 : (nN x != nN y) = true := by rw [bne_iff_ne]; omega
  have Hr := ae (adV x y hgt)
  generalize nN x = sx at *
  generalize nN y = sy at *
  go_wp2_with fail
  go_ret
  exact ⟨by rw [Hr.out]; rfl, ax hal (And.left (by assumption))⟩
theorem Qj (q : Rat) : decide ((-q).num < 0) = (!decide (q.num < 0) && !decide (q.num.natAbs = 0)) := by
 have e : (-q).num = -q.num := rfl
 rw [e]
 by_cases h : q.num < 0
 ·
  have : ¬ 0 < q.num := by omega
  simp [h, this]
 ·
  by_cases h0 : q.num = 0
  · simp [h0]
  ·
   have : 0 < q.num := by omega
   simp [h, h0, this]
def cellOf (w : World) (a : Addr) : Value := (w.cell? a).getD undef
def RB (w : World) (B : Nat) : Prop := ∃ b x i j y k l T, w.heap[B]? = some (.cells #[.bool b, .slice x i j, .slice y k l] T (0, 0))
theorem RB.lt {w : World} {B : Nat} (h : RB w B) : B < w.heap.size := by
 obtain ⟨b, x, i, j, y, k, l, T, h⟩ := h; exact ai h
theorem RB.keep {a b : World} {B n : Nat} (h : RB a B) (hb : Below n a b) (hB : B < n) : RB b B := by
 obtain ⟨b, x, i, j, y, k, l, T, h⟩ := h
 exact ⟨b, x, i, j, y, k, l, T, ay h hb hB⟩
theorem RB.store {w : World} {B : Nat} (h : RB w B) (neg : Bool) (x1 y1 : Option Addr) (i1 j1 k1 l1 : Nat) :
  RB (((w.setCell ⟨B, 0, none⟩ (.bool neg)).setCell ⟨B, 1, none⟩ (.slice x1 i1 j1)).setCell ⟨B, 2, none⟩ (.slice y1 k1 l1)) B := by
 obtain ⟨b, x, i, j, y, k, l, T, h⟩ := h
 exact ⟨neg, x1, i1, j1, y1, k1, l1, T, by exact bM (bM (bM h 0 (.bool neg)) 1 (.slice x1 i1 j1)) 2 (.slice y1 k1 l1)⟩
theorem RB.cell {w : World} {B : Nat} (h : RB w B) : w.cell? ⟨B, 0, none⟩ = some (cellOf w ⟨B, 0, none⟩) ∧ w.cell? ⟨B, 1, none⟩ = some (cellOf w ⟨B, 1, none⟩) ∧ w.cell? ⟨B, 2, none⟩ = some (cellOf w ⟨B, 2, none⟩) ∧
  w.frozen? ⟨B, 0, none⟩ = false ∧ w.frozen? ⟨B, 1, none⟩ = false ∧ w.frozen? ⟨B, 2, none⟩ = false := by
 obtain ⟨b, x, i, j, y, k, l, T, h⟩ := h
 have e : ∀ a v, w.cell? a = some v → w.cell? a = some (cellOf w a) := fun a v h => by unfold cellOf; rw [h]; rfl
 exact ⟨e _ _ (af h 0 (.bool b) rfl), e _ _ (af h 1 (.slice x i j) rfl), e _ _ (af h 2 (.slice y k l) rfl), ah h 0, ah h 1, ah h 2⟩
theorem SQ {n : Nat} {w0 a : World} {B1 B : Nat} {v0 v1 v2 : Value} (h0 : Below n w0 a) (h1 : a.cell? ⟨B1, 0, none⟩ = some v0) (h2 : a.cell? ⟨B1, 1, none⟩ = some v1) (h3 : a.cell? ⟨B1, 2, none⟩ = some v2) (hB : RB a B) :
  Below n w0 a ∧ RB a B ∧ a.cell? ⟨B1, 0, none⟩ = some v0 ∧ a.cell? ⟨B1, 1, none⟩ = some v1 ∧ a.cell? ⟨B1, 2, none⟩ = some v2 ∧
   a.cell? ⟨B, 0, none⟩ = some (cellOf a ⟨B, 0, none⟩) ∧ a.cell? ⟨B, 1, none⟩ = some (cellOf a ⟨B, 1, none⟩) ∧ a.cell? ⟨B, 2, none⟩ = some (cellOf a ⟨B, 2, none⟩) ∧
   a.frozen? ⟨B, 0, none⟩ = false ∧ a.frozen? ⟨B, 1, none⟩ = false ∧ a.frozen? ⟨B, 2, none⟩ = false := ⟨h0, hB, h1, h2, h3, hB.cell⟩
theorem EK {n : Nat} {w0 a b : World} {B1 B : Nat} {v0 v1 v2 : Value} {R : Prop} (hn : n ≤ w0.heap.size) (hb : Below a.heap.size a b)
  (h : Below n w0 a ∧ RB a B ∧ a.cell? ⟨B1, 0, none⟩ = some v0 ∧ a.cell? ⟨B1, 1, none⟩ = some v1 ∧ a.cell? ⟨B1, 2, none⟩ = some v2 ∧ R) :
  Below n w0 b ∧ RB b B ∧ b.cell? ⟨B1, 0, none⟩ = some v0 ∧ b.cell? ⟨B1, 1, none⟩ = some v1 ∧ b.cell? ⟨B1, 2, none⟩ = some v2 ∧
   b.cell? ⟨B, 0, none⟩ = some (cellOf b ⟨B, 0, none⟩) ∧ b.cell? ⟨B, 1, none⟩ = some (cellOf b ⟨B, 1, none⟩) ∧ b.cell? ⟨B, 2, none⟩ = some (cellOf b ⟨B, 2, none⟩) ∧
   b.frozen? ⟨B, 0, none⟩ = false ∧ b.frozen? ⟨B, 1, none⟩ = false ∧ b.frozen? ⟨B, 2, none⟩ = false := by
 obtain ⟨h0, hB, h1, h2, h3, _⟩ := h
 have hl := World.block_lt_of_cell? (h := h1)
 have e : ∀ j, b.cell? ⟨B1, j, none⟩ = a.cell? ⟨B1, j, none⟩ := fun j => hb.cell (p := ⟨B1, j, none⟩) hl
 have hs := h0.size
 exact SQ (h0.trans (hb.mono (by omega))) ((e _).trans h1) ((e _).trans h2) ((e _).trans h3) (hB.keep hb hB.lt)
theorem Bq {n : Nat} {w0 a : World} {B1 B : Nat} {v0 v1 v2 : Value} {R : Prop} (neg : Bool) (x1 y1 : Option Addr) (i1 j1 k1 l1 : Nat) (hn : n ≤ B) (hne : B1 ≠ B)
  (h : Below n w0 a ∧ RB a B ∧ a.cell? ⟨B1, 0, none⟩ = some v0 ∧ a.cell? ⟨B1, 1, none⟩ = some v1 ∧ a.cell? ⟨B1, 2, none⟩ = some v2 ∧ R) (b : World)
  (hb : b = ((a.setCell ⟨B, 0, none⟩ (.bool neg)).setCell ⟨B, 1, none⟩ (.slice x1 i1 j1)).setCell ⟨B, 2, none⟩ (.slice y1 k1 l1)) :
  Below n w0 b ∧ RB b B ∧ b.cell? ⟨B1, 0, none⟩ = some v0 ∧ b.cell? ⟨B1, 1, none⟩ = some v1 ∧ b.cell? ⟨B1, 2, none⟩ = some v2 ∧
   b.cell? ⟨B, 0, none⟩ = some (cellOf b ⟨B, 0, none⟩) ∧ b.cell? ⟨B, 1, none⟩ = some (cellOf b ⟨B, 1, none⟩) ∧ b.cell? ⟨B, 2, none⟩ = some (cellOf b ⟨B, 2, none⟩) ∧
   b.frozen? ⟨B, 0, none⟩ = false ∧ b.frozen? ⟨B, 1, none⟩ = false ∧ b.frozen? ⟨B, 2, none⟩ = false := by
 obtain ⟨h0, hB, h1, h2, h3, _⟩ := h
 subst hb
 have e : ∀ j v, a.cell? ⟨B1, j, none⟩ = some v → (((a.setCell ⟨B, 0, none⟩ (.bool neg)).setCell ⟨B, 1, none⟩ (.slice x1 i1 j1)).setCell ⟨B, 2, none⟩ (.slice y1 k1 l1)).cell? ⟨B1, j, none⟩ = some v := fun j v h => by
  rw [World.cell?_setCell_other, World.cell?_setCell_other, World.cell?_setCell_other, h]
  all_goals intro e; cases e; exact hne rfl
 exact SQ (dm h0 hn) (e _ _ h1) (e _ _ h2) (e _ _ h3) (hB.store ..)
theorem kR (q : Rat) : (-q).num.natAbs = q.num.natAbs := by show (-q.num).natAbs = _; exact Int.natAbs_neg _
theorem uZ.stored {w : World} {B : Nat} {neg : Bool} {x1 y1 : Option Addr} {i1 j1 k1 l1 n d' : Nat} {q : Rat}
  (hB : RB w B) (h1 : bT .u32 b32 w (.slice x1 i1 j1) n) (h2 : bT .u32 b32 w (.slice y1 k1 l1) d') (hd : Xn d' q.den)
  (hn : decide (q.num < 0) = neg) (hm : q.num.natAbs = n) :
  uZ (((w.setCell ⟨B, 0, none⟩ (.bool neg)).setCell ⟨B, 1, none⟩ (.slice x1 i1 j1)).setCell ⟨B, 2, none⟩ (.slice y1 k1 l1)) (.agg #[.bool neg, .slice x1 i1 j1, .slice y1 k1 l1]) q := by
 subst hn hm
 obtain ⟨b, x, i, j, y, k, l, T, hB⟩ := hB
 exact ⟨_, _, d', rfl, nD hB h1, nD hB h2, hd⟩
theorem yI {n : Nat} {w0 a : World} {B1 B2 B : Nat} {v0 v1 v2 v3 v4 v5 : Value} (h0 : Below n w0 a) (h1 : a.cell? ⟨B1, 0, none⟩ = some v0) (h2 : a.cell? ⟨B1, 1, none⟩ = some v1) (h3 : a.cell? ⟨B1, 2, none⟩ = some v2)
  (h4 : a.cell? ⟨B2, 0, none⟩ = some v3) (h5 : a.cell? ⟨B2, 1, none⟩ = some v4) (h6 : a.cell? ⟨B2, 2, none⟩ = some v5) (hB : RB a B) :
  Below n w0 a ∧ RB a B ∧ a.cell? ⟨B1, 0, none⟩ = some v0 ∧ a.cell? ⟨B1, 1, none⟩ = some v1 ∧ a.cell? ⟨B1, 2, none⟩ = some v2 ∧
   a.cell? ⟨B2, 0, none⟩ = some v3 ∧ a.cell? ⟨B2, 1, none⟩ = some v4 ∧ a.cell? ⟨B2, 2, none⟩ = some v5 ∧
   a.cell? ⟨B, 0, none⟩ = some (cellOf a ⟨B, 0, none⟩) ∧ a.cell? ⟨B, 1, none⟩ = some (cellOf a ⟨B, 1, none⟩) ∧ a.cell? ⟨B, 2, none⟩ = some (cellOf a ⟨B, 2, none⟩) ∧
   a.frozen? ⟨B, 0, none⟩ = false ∧ a.frozen? ⟨B, 1, none⟩ = false ∧ a.frozen? ⟨B, 2, none⟩ = false := ⟨h0, hB, h1, h2, h3, h4, h5, h6, hB.cell⟩
theorem dP {n : Nat} {w0 a b : World} {B1 B2 B : Nat} {v0 v1 v2 v3 v4 v5 : Value} {R : Prop} (hn : n ≤ w0.heap.size) (hb : Below a.heap.size a b)
  (h : Below n w0 a ∧ RB a B ∧ a.cell? ⟨B1, 0, none⟩ = some v0 ∧ a.cell? ⟨B1, 1, none⟩ = some v1 ∧ a.cell? ⟨B1, 2, none⟩ = some v2 ∧
   a.cell? ⟨B2, 0, none⟩ = some v3 ∧ a.cell? ⟨B2, 1, none⟩ = some v4 ∧ a.cell? ⟨B2, 2, none⟩ = some v5 ∧ R) :
  Below n w0 b ∧ RB b B ∧ b.cell? ⟨B1, 0, none⟩ = some v0 ∧ b.cell? ⟨B1, 1, none⟩ = some v1 ∧ b.cell? ⟨B1, 2, none⟩ = some v2 ∧
   b.cell? ⟨B2, 0, none⟩ = some v3 ∧ b.cell? ⟨B2, 1, none⟩ = some v4 ∧ b.cell? ⟨B2, 2, none⟩ = some v5 ∧
   b.cell? ⟨B, 0, none⟩ = some (cellOf b ⟨B, 0, none⟩) ∧ b.cell? ⟨B, 1, none⟩ = some (cellOf b ⟨B, 1, none⟩) ∧ b.cell? ⟨B, 2, none⟩ = some (cellOf b ⟨B, 2, none⟩) ∧
   b.frozen? ⟨B, 0, none⟩ = false ∧ b.frozen? ⟨B, 1, none⟩ = false ∧ b.frozen? ⟨B, 2, none⟩ = false := by
 obtain ⟨h0, hB, h1, h2, h3, h4, h5, h6, _⟩ := h
 have e : ∀ B1 j v, a.cell? ⟨B1, j, none⟩ = some v → b.cell? ⟨B1, j, none⟩ = some v := fun B1 j v h => (hb.cell (p := ⟨B1, j, none⟩) (World.block_lt_of_cell? (h := h))).trans h
 have hs := h0.size
 exact yI (h0.trans (hb.mono (by omega))) (e _ _ _ h1) (e _ _ _ h2) (e _ _ _ h3) (e _ _ _ h4) (e _ _ _ h5) (e _ _ _ h6) (hB.keep hb hB.lt)
theorem oU {n : Nat} {w0 a : World} {B1 B2 B : Nat} {v0 v1 v2 v3 v4 v5 : Value} {R : Prop} (neg : Bool) (x1 y1 : Option Addr) (i1 j1 k1 l1 : Nat) (hn : n ≤ B) (hne : B1 ≠ B) (hne2 : B2 ≠ B)
  (h : Below n w0 a ∧ RB a B ∧ a.cell? ⟨B1, 0, none⟩ = some v0 ∧ a.cell? ⟨B1, 1, none⟩ = some v1 ∧ a.cell? ⟨B1, 2, none⟩ = some v2 ∧
   a.cell? ⟨B2, 0, none⟩ = some v3 ∧ a.cell? ⟨B2, 1, none⟩ = some v4 ∧ a.cell? ⟨B2, 2, none⟩ = some v5 ∧ R) (b : World)
  (hb : b = ((a.setCell ⟨B, 0, none⟩ (.bool neg)).setCell ⟨B, 1, none⟩ (.slice x1 i1 j1)).setCell ⟨B, 2, none⟩ (.slice y1 k1 l1)) :
  Below n w0 b ∧ RB b B ∧ b.cell? ⟨B1, 0, none⟩ = some v0 ∧ b.cell? ⟨B1, 1, none⟩ = some v1 ∧ b.cell? ⟨B1, 2, none⟩ = some v2 ∧
   b.cell? ⟨B2, 0, none⟩ = some v3 ∧ b.cell? ⟨B2, 1, none⟩ = some v4 ∧ b.cell? ⟨B2, 2, none⟩ = some v5 ∧
   b.cell? ⟨B, 0, none⟩ = some (cellOf b ⟨B, 0, none⟩) ∧ b.cell? ⟨B, 1, none⟩ = some (cellOf b ⟨B, 1, none⟩) ∧ b.cell? ⟨B, 2, none⟩ = some (cellOf b ⟨B, 2, none⟩) ∧
   b.frozen? ⟨B, 0, none⟩ = false ∧ b.frozen? ⟨B, 1, none⟩ = false ∧ b.frozen? ⟨B, 2, none⟩ = false := by
 obtain ⟨h0, hB, h1, h2, h3, h4, h5, h6, _⟩ := h
 subst hb
 have e : ∀ B1 j v, B1 ≠ B → a.cell? ⟨B1, j, none⟩ = some v → (((a.setCell ⟨B, 0, none⟩ (.bool neg)).setCell ⟨B, 1, none⟩ (.slice x1 i1 j1)).setCell ⟨B, 2, none⟩ (.slice y1 k1 l1)).cell? ⟨B1, j, none⟩ = some v := fun B1 j v hne h => by
  rw [World.cell?_setCell_other, World.cell?_setCell_other, World.cell?_setCell_other, h]
  all_goals intro e; cases e; exact hne rfl
 exact yI (dm h0 hn) (e _ _ _ hne h1) (e _ _ _ hne h2) (e _ _ _ hne h3) (e _ _ _ hne2 h4) (e _ _ _ hne2 h5) (e _ _ _ hne2 h6) (hB.store ..)
theorem Jl (w : World) (A1 A2 A3 : Array Value) (T : Nat) (W : World) (hW : W = ((w.alloc (.cells A1 T)).alloc (.cells A2 T)).alloc (.cells A3 T)) :
  Below w.heap.size w W ∧ W.heap[w.heap.size]? = some (.cells A1 T (0, 0)) ∧ W.heap[w.heap.size + 1]? = some (.cells A2 T (0, 0)) ∧ W.heap[w.heap.size + 2]? = some (.cells A3 T (0, 0)) := by
 subst hW
 refine ⟨(((Below.refl _ _).alloc (Nat.le_refl _) _).alloc (by simp) _).alloc (by simp; omega) _, ?_, ?_, ?_⟩
 · rw [heap_alloc_old _ _ (by simp; omega), heap_alloc_old _ _ (by simp)]; exact aV w A1 T
 · rw [heap_alloc_old _ _ (by simp)]; have := aV (w.alloc (.cells A1 T)) A2 T; rw [World.size_alloc] at this; exact this
 · have := aV ((w.alloc (.cells A1 T)).alloc (.cells A2 T)) A3 T; rw [World.size_alloc, World.size_alloc] at this; exact this
def szQ (q : Rat) (k : Nat) : Prop := (aU b32 q.num.natAbs).length ≤ k ∧ (aU b32 q.den).length ≤ k
theorem ab_ (a b : Bool) (m n : Nat) : sg (!(a == b)) (m * n) = sg a m * sg b n := by
 cases a <;> cases b <;> simp [sg, Int.neg_mul, Int.mul_neg]
theorem Dl (q : Rat) : sg (decide (q.num < 0)) q.num.natAbs = q.num := by
 unfold sg
 by_cases h : q.num < 0 <;> simp [h] <;> omega
theorem Kw (x y : Rat) : pK (!(decide (x.num < 0) == decide (y.num < 0))) (x.num.natAbs * y.num.natAbs) (x.den * y.den) = x * y := by
 unfold pK
 rw [ab_, Dl, Dl, Rat.mul_def, Rat.normalize_eq_mkRat]
theorem SX (x y : Rat) (s : Bool) (n : Nat) (h : sg s n = sg (decide (x.num < 0)) (x.num.natAbs * y.den) + sg (decide (y.num < 0)) (y.num.natAbs * x.den)) : pK s n (x.den * y.den) = x + y := by
 unfold pK
 rw [h, Rat.add_def, Rat.normalize_eq_mkRat]
 have e : ∀ (b : Bool) (m k : Nat), sg b (m * k) = sg b m * (k : Int) := fun b m k => by cases b <;> simp [sg, Int.neg_mul]
 rw [e, e, Dl, Dl]
theorem akt (s : Bool) (m n : Nat) : sg s (m + n) = sg s m + sg s n := by
 cases s <;> simp [sg] <;> omega
theorem aca {s t : Bool} (h : (s == t) = false) {m n : Nat} (hle : n ≤ m) : sg s (m - n) = sg s m + sg t n := by
 cases s <;> cases t <;> simp [sg] at h ⊢ <;> omega
def yD (a b : Nat) : Rat := pK false (2 ^ a) (2 ^ b)
theorem ae6 (a : Nat) : (yD a 0).num.natAbs = 2 ^ a ∧ (yD a 0).den = 1 ∧ decide ((yD a 0).num < 0) = false := by
 unfold yD
 rw [xY _ _ _ (Nat.two_pow_pos 0), xX _ _ _ (Nat.two_pow_pos 0), Ky _ _ _ (Nat.two_pow_pos 0) (by have := Nat.two_pow_pos a; omega)]
 simp
def arW : Nat := 9223372036854775808
def YA : Nat := 4503599627370496
def fE (b : Nat) : Nat := b / YA % 2048
def fM0 (b : Nat) : Nat := b % YA
def fM (b : Nat) : Nat := if fE b = 0 then fM0 b else fM0 b + YA
def fE1 (b : Nat) : Nat := if fE b = 0 then 1 else fE b
def fS (b : Nat) : Bool := decide (b / arW = 1)
def apB (b : Nat) : Rat := pK (fS b) (fM b * 2 ^ (fE1 b - 1075)) (2 ^ (1075 - fE1 b))
theorem RB.isRow {w : World} {B : Nat} (h : RB w B) {k : IntKind} {v : Value} {ds : List Nat} (hv : aX k w v ds) (neg : Bool) (x1 y1 : Option Addr) (i1 j1 k1 l1 : Nat) :
  aX k (((w.setCell ⟨B, 0, none⟩ (.bool neg)).setCell ⟨B, 1, none⟩ (.slice x1 i1 j1)).setCell ⟨B, 2, none⟩ (.slice y1 k1 l1)) v ds := by
 obtain ⟨b, x, i, j, y, k, l, T, h⟩ := h
 exact nD h hv
theorem RB.far {w : World} {B B' : Nat} (h : RB w B) (hne : B' ≠ B) (neg : Bool) (x1 y1 : Option Addr) (i1 j1 k1 l1 : Nat) :
  RB (((w.setCell ⟨B', 0, none⟩ (.bool neg)).setCell ⟨B', 1, none⟩ (.slice x1 i1 j1)).setCell ⟨B', 2, none⟩ (.slice y1 k1 l1)) B := by
 obtain ⟨b, x, i, j, y, k, l, T, h⟩ := h
 exact ⟨b, x, i, j, y, k, l, T, by rw [heap_setCell_other _ _ _ _ (Ne.symm hne), heap_setCell_other _ _ _ _ (Ne.symm hne), heap_setCell_other _ _ _ _ (Ne.symm hne)]; exact h⟩
theorem SY (m a b : Nat) : pK false m 1 * yD a b = pK false (m * 2 ^ a) (2 ^ b) := by
 unfold yD pK
 rw [Rat.mkRat_mul_mkRat, Nat.one_mul]
 have := ab_ false false m (2 ^ a)
 simp only [BEq.rfl, Bool.not_true] at this
 rw [this]
theorem F5 (m d : Nat) : -pK false m d = pK true m d := by
 unfold pK sg
 rw [Rat.neg_mkRat]
 rfl
theorem aar (s : Bool) (n d k : Nat) (hd : 0 < d) (h1 : (aU b32 n).length ≤ k) (h2 : (aU b32 d).length ≤ k) : szQ (pK s n d) k := by
 unfold szQ
 rw [xY _ _ _ hd, xX _ _ _ hd]
 exact ⟨Nat.le_trans (aZ uh (Nat.div_le_self _ _)) h1, Nat.le_trans (aZ uh (Nat.div_le_self _ _)) h2⟩
def zJ (n d : Int) : Rat := if d ≤ 0 then (n : Rat) else (n : Rat) / (d : Rat)
theorem Py (n d : Int) (h1 : -9223372036854775808 ≤ n) (h2 : n ≤ 9223372036854775807) (h3 : -9223372036854775808 ≤ d) (h4 : d ≤ 9223372036854775807) : (zJ n d).num.natAbs < ak ∧ (zJ n d).den < ak := by
 unfold zJ
 split
 ·
  rename_i h
  exact ⟨by simp; unfold ak; omega, by simp; unfold ak; omega⟩
 ·
  rename_i h
  rw [← Iu n d (by omega)]
  have hd : 0 < d.natAbs := by omega
  rw [xY _ _ _ hd, xX _ _ _ hd]
  exact ⟨Nat.lt_of_le_of_lt (Nat.div_le_self _ _) (by unfold ak; omega), Nat.lt_of_le_of_lt (Nat.div_le_self _ _) (by unfold ak; omega)⟩
theorem Ut (n d : Int) (h1 : -9223372036854775808 ≤ n) (h2 : n ≤ 9223372036854775807) (h3 : -9223372036854775808 ≤ d) (h4 : d ≤ 9223372036854775807) : bQ (zJ n d) 1 := by
 obtain ⟨a, b⟩ := Py n d h1 h2 h3 h4
 exact ⟨b_ aO 1 _ (by simpa using a), b_ aO 1 _ (by simpa using b)⟩
def jh (v : Value) : Prop := ∀ x : Int, v ≠ .int .u64 x ∧ v ≠ .int .u32 x
def mZ (w : World) (g : Nat) : Prop := ∀ (j : Nat) (v : Value), w.cell? ⟨g, j, none⟩ = some v → jh v
theorem fA (b : Bool) : jh (.bool b) := fun _ => ⟨by simp, by simp⟩
theorem dH (a : Option Addr) (l c : Nat) : jh (.slice a l c) := fun _ => ⟨by simp, by simp⟩
theorem xZ (x : Int) : jh (.int .i64 x) := fun _ => ⟨by simp, by simp⟩
theorem mZ.of_block {w : World} {g : Nat} {cs : Array Value} {t : TypeId} {fr : Nat × Nat} (hg : w.heap[g]? = some (.cells cs t fr)) (h : ∀ v ∈ cs.toList, jh v) : mZ w g := by
 intro j v hv
 rw [cell_of_row w g j cs t fr hg] at hv
 exact h v (by simpa using Array.mem_of_getElem? hv)
def dL (w : World) (base : Nat) (e : TypeId) (size : Nat) (v : Value) (n : Nat) (xs : List Value) : Prop :=
 w.ownsRow base e size v n xs ∧ ∀ g, v.ownBlock = some g → mZ w g
theorem dL.nil (w : World) (base : Nat) (e : TypeId) (size : Nat) : dL w base e size (.slice none 0 0) 0 [] :=
 ⟨World.ownsRow_nil w base e size, fun g h => by simp [Value.ownBlock] at h⟩
theorem dL.lt {w : World} {base : Nat} {e : TypeId} {size : Nat} {v : Value} {n : Nat} {xs : List Value} (h : dL w base e size v n xs) {g : Nat} (hg : v.ownBlock = some g) : g < w.heap.size ∧ base ≤ g := by
 rcases h.1.2 with ⟨rfl, _⟩ | ⟨g', cap, cur, rfl, hb, hh, _⟩
 · simp [Value.ownBlock] at hg
 ·
  simp [Value.ownBlock] at hg
  subst hg
  exact ⟨(Array.getElem?_eq_some_iff.1 hh).1, hb⟩
theorem dL.keep {w w' : World} {base : Nat} {e : TypeId} {size : Nat} {v : Value} {n : Nat} {xs : List Value} (h : dL w base e size v n xs) (hk : ∀ g, v.ownBlock = some g → w'.heap[g]? = w.heap[g]?) : dL w' base e size v n xs := by
 refine ⟨⟨h.1.1, ?_⟩, fun g hg j u hu => h.2 g hg j u ?_⟩
 ·
  rcases h.1.2 with h1 | ⟨g, cap, cur, rfl, hb, hh, h2⟩
  · exact .inl h1
  · exact .inr ⟨g, cap, cur, rfl, hb, (hk g rfl).trans hh, h2⟩
 ·
  rw [← hu]
  exact (World.cell?_of_block (a := ⟨g, j, none⟩) (hk g hg)).symm
theorem dL.below {w w' : World} {base : Nat} {e : TypeId} {size : Nat} {v : Value} {n : Nat} {xs : List Value} (h : dL w base e size v n xs) (hb : Below w.heap.size w w') : dL w' base e size v n xs :=
 h.keep fun g hg => hb.block g (h.lt hg).1
theorem dL.grown {w w' : World} {base : Nat} {e : TypeId} {size : Nat} {v : Value} {n : Nat} {xs : List Value} {row : Option Nat} (h : dL w base e size v n xs) (hb : w.grownBy w' row) (hne : ∀ g, v.ownBlock = some g → some g ≠ row) : dL w' base e size v n xs :=
 h.keep fun g hg => hb.block g (h.lt hg).1 (hne g hg)
theorem aX.grown {k : IntKind} (hk : k = .u64 ∨ k = .u32) {w w' : World} {v : Value} {ds : List Nat} {row : Option Nat} (h : aX k w v ds) (hg : w.grownBy w' row) (hr : ∀ g, row = some g → mZ w g) : aX k w' v ds := by
 rcases h with ⟨rfl, ao, cap, rfl, h2, h3⟩ | ⟨h0, b, off, cap, rfl, h1, h2, h3, h4⟩
 · exact .inl ⟨rfl, ao, cap, rfl, h2, h3⟩
 ·
  have hne : some b ≠ row := by
   intro e
   have := hr b e.symm off _ (h4 0 h0)
   rcases hk with rfl | rfl
   · exact (this _).1 rfl
   · exact (this _).2 rfl
  refine .inr ⟨h0, b, off, cap, rfl, h1, h2, Nat.lt_of_lt_of_le h3 hg.size, fun j hj => ?_⟩
  rw [← h4 j hj]
  exact World.cell?_of_block (a := ⟨b, off + j, none⟩) (hg.block b h3 hne)
theorem Cm {P : Program} (w : World) (t ty : TypeId) (base : Nat) (e : TypeId) (i : TypeInfo) (z : Value) (size bytes : Nat) (ht : P.underlying t = some (.slice e)) (hi : P.info? e = some i) (hz : i.zero = some z)
  (hsize : i.size = size) (hby : i.bytes = bytes) (hzs : z.cells.size = size) (hsz : 0 < size) (hzd : ∀ u ∈ z.cells.toList, jh u)
  (v : Value) (n : Nat) (xs : List Value) (hown : dL w base e size v n xs)
  (ad : Addr) (m c : Nat) (news : List Value) (hl : news.length = m * size) (hnews : ∀ j u, news[j]? = some u → w.cell? (ad.add j) = some u) (h1 : ∀ u ∈ news, u.oneCell' = true) (hnd : ∀ u ∈ news, jh u)
  (hm : 0 < m) (h63 : n + m ≤ maxLen) (hbytes : (n + m) * bytes ≤ 140737488355328) (hbase : base ≤ w.heap.size) :
  ∃ g cap w', (Builtin.append_ #[t, t] ty #[v, .slice (some ad) m c]).run P w = .ok (.slice (some ⟨g, 0, none⟩) (n + m) cap) w' ∧
   dL w' base e size (.slice (some ⟨g, 0, none⟩) (n + m) cap) (n + m) (xs ++ news) ∧ w.grownBy w' v.ownBlock ∧ (v.ownBlock = some g ∨ g = w.heap.size) := by
 obtain ⟨g, cap, w', hr, h2, h3, h4, h5⟩ := run_append_lies (P := P) w t ty base e i z size bytes ht hi hz hsize hby hzs hsz v n xs hown.1 ad m c news hl hnews h1 hm h63 hbytes hbase w.heap.size rfl
 refine ⟨g, cap, w', hr, ⟨h2, ?_⟩, h3, h4⟩
 intro g' hg'
 obtain rfl : g = g' := by simpa [Value.ownBlock] using hg'
 subst hsize
 subst hby
 have h63' : n + m ≤ 9223372036854775807 := by unfold maxLen at h63; omega
 have hzc : ∀ k, ∀ u ∈ (Builtin.zeroCells z.cells k).toList, jh u := by
  intro k u hu
  refine hzd u ?_
  simp only [Builtin.zeroCells] at hu
  simp at hu
  obtain ⟨j, h1, h2⟩ := hu
  have hp : 0 < z.cells.size := by omega
  have hlt : j % z.cells.size < z.cells.size := Nat.mod_lt _ hp
  rw [← h2, getElem!_pos z.cells _ hlt]
  simp
 rcases hown.1.2 with ⟨rfl, rfl⟩ | ⟨g1, cap1, cur, rfl, hbg, hg, hnc, hcm, hcs, htake⟩
 ·
  have hr2 := run_append_nil (P := P) w t ty e i z ht hi hz ad m c news hl hnews hm (by omega) (by have hb := hbytes; simp only [Nat.zero_add] at hb; omega)
  rw [hr2] at hr
  simp only [Result.ok.injEq, Value.slice.injEq, Option.some.injEq, Addr.mk.injEq] at hr
  obtain ⟨⟨⟨rfl, _⟩, _⟩, rfl⟩ := hr
  refine mZ.of_block (heap_alloc_new w.drew _) ?_
  intro u hu
  simp only [Array.toList_append, List.mem_append] at hu
  rcases hu with hu | hu
  · exact hnd u (by simpa using hu)
  · exact hzc _ u hu
 ·
  by_cases hroom : n + m ≤ cap1
  ·
   have hfit : n * i.size + news.length ≤ cur.size := by rw [hl, hcs, ← Nat.add_mul]; exact Nat.mul_le_mul_right _ hroom
   have hr2 := run_append_room (P := P) w t ty e i ht hi g1 n cap1 cur hg ad m c news hl hnews h1 hroom hfit
   rw [hr2] at hr
   simp only [Result.ok.injEq, Value.slice.injEq, Option.some.injEq, Addr.mk.injEq] at hr
   obtain ⟨⟨⟨rfl, _⟩, _⟩, rfl⟩ := hr
   have hold : ∀ u ∈ cur.toList, jh u := by
    intro u hu
    obtain ⟨j, hj, rfl⟩ := List.getElem_of_mem hu
    refine hown.2 g1 rfl j _ ?_
    rw [cell_of_row w g1 j cur e (0, 0) hg]
    simp at hj
    simp [hj]
   refine mZ.of_block (setRow_heap w g1 cur _ e _ hg) ?_
   intro u hu
   simp only [List.append_assoc, List.mem_append] at hu
   rcases hu with hu | hu | hu
   · exact hold u (List.mem_of_mem_take hu)
   · exact hnd u hu
   · exact hold u (List.mem_of_mem_drop hu)
  ·
   have holds : ∀ j u, xs[j]? = some u → w.cell? ((⟨g1, 0, none⟩ : Addr).add j) = some u := hown.1.cells (g := g1) rfl
   have hr2 := run_append_grow (P := P) w t ty e i z ht hi hz ⟨g1, 0, none⟩ n cap1 xs hown.1.1 holds ad m c news hl hnews (by omega) (by omega) (growslice_fits (by omega) hbytes)
   rw [hr2] at hr
   simp only [Result.ok.injEq, Value.slice.injEq, Option.some.injEq, Addr.mk.injEq] at hr
   obtain ⟨⟨⟨rfl, _⟩, _⟩, rfl⟩ := hr
   have hold : ∀ u ∈ xs, jh u := by
    intro u hu
    obtain ⟨j, hj, rfl⟩ := List.getElem_of_mem hu
    have hx := holds j xs[j] (by simp [hj])
    have ha : (⟨g1, 0, none⟩ : Addr).add j = ⟨g1, j, none⟩ := by unfold Addr.add; split <;> simp_all
    rw [ha] at hx
    exact hown.2 g1 rfl j _ hx
   refine mZ.of_block (heap_alloc_new w.drew _) ?_
   intro u hu
   simp only [Array.toList_append, List.mem_append] at hu
   rcases hu with (hu | hu) | hu
   · exact hold u hu
   · exact hnd u hu
   · exact hzc _ u hu
theorem xF {P : Program} (w : World) {o : Oper} {a : Act} {K : Act → World → Prop} {Q : Exit → Act → World → Prop} (s x : Operand) (t : TypeId)
  (ho : o.op = .call { callee := .builtin .append, args := #[s, x], argTypes := #[t, t] })
  (base : Nat) (e : TypeId) (i : TypeInfo) (z : Value) (size bytes : Nat) (ht : P.underlying t = some (.slice e)) (hi : P.info? e = some i) (hz : i.zero = some z)
  (hsize : i.size = size) (hby : i.bytes = bytes) (hzs : z.cells.size = size) (hsz : 0 < size) (hzd : ∀ u ∈ z.cells.toList, jh u)
  (v : Value) (n : Nat) (xs : List Value) (hs : a.eval s = v) (hown : dL w base e size v n xs)
  (ad : Addr) (m c : Nat) (news : List Value) (hx : a.eval x = .slice (some ad) m c) (hl : news.length = m * size) (hnews : ∀ j u, news[j]? = some u → w.cell? (ad.add j) = some u) (h1 : ∀ u ∈ news, u.oneCell' = true) (hnd : ∀ u ∈ news, jh u)
  (hm : 0 < m) (h63 : n + m ≤ maxLen) (hbytes : (n + m) * bytes ≤ 140737488355328) (hbase : base ≤ w.heap.size)
  (h : ∀ g cap w', dL w' base e size (.slice (some ⟨g, 0, none⟩) (n + m) cap) (n + m) (xs ++ news) → w.grownBy w' v.ownBlock → (v.ownBlock = some g ∨ g = w.heap.size) → K (a.put o.dst (.slice (some ⟨g, 0, none⟩) (n + m) cap)) w') : o.wp P a w K Q := by
 obtain ⟨g, cap, w', hr, h2, h3, h4⟩ := Cm (P := P) w t o.type base e i z size bytes ht hi hz hsize hby hzs hsz hzd v n xs hown ad m c news hl hnews h1 hnd hm h63 hbytes hbase
 unfold Oper.wp execOp
 simp only [ho, resolve, invoke, builtin, Sem.run_bind, Sem.run_pure, Result.andThen_ok, List.map_toArray, List.map_cons, List.map_nil, hs, hx, hr]
 exact h g cap w' h2 h3 h4
theorem dZ {P : Program} (w : World) {ops : Array Oper} {rest : List Oper} {o : Oper} {a : Act} {Q : Exit → Act → World → Prop} (hgd : o.guard = none) (s x : Operand) (t : TypeId)
  (ho : o.op = .call { callee := .builtin .append, args := #[s, x], argTypes := #[t, t] })
  (base : Nat) (e : TypeId) (i : TypeInfo) (z : Value) (size bytes : Nat) (ht : P.underlying t = some (.slice e)) (hi : P.info? e = some i) (hz : i.zero = some z)
  (hsize : i.size = size) (hby : i.bytes = bytes) (hzs : z.cells.size = size) (hsz : 0 < size) (hzd : ∀ u ∈ z.cells.toList, jh u)
  (v : Value) (n : Nat) (xs : List Value) (hs : a.eval s = v) (hown : dL w base e size v n xs)
  (ad : Addr) (m c : Nat) (news : List Value) (hx : a.eval x = .slice (some ad) m c) (hl : news.length = m * size) (hnews : ∀ j u, news[j]? = some u → w.cell? (ad.add j) = some u) (h1 : ∀ u ∈ news, u.oneCell' = true) (hnd : ∀ u ∈ news, jh u)
  (hm : 0 < m) (h63 : n + m ≤ maxLen) (hbytes : (n + m) * bytes ≤ 140737488355328) (hbase : base ≤ w.heap.size)
  (h : ∀ g cap w', dL w' base e size (.slice (some ⟨g, 0, none⟩) (n + m) cap) (n + m) (xs ++ news) → w.grownBy w' v.ownBlock → (v.ownBlock = some g ∨ g = w.heap.size) → wpList P ops Q rest (a.put o.dst (.slice (some ⟨g, 0, none⟩) (n + m) cap)) w') : wpList P ops Q (o :: rest) a w :=
 wpList_plain hgd fun _ hK => xF w s x t ho base e i z size bytes ht hi hz hsize hby hzs hsz hzd v n xs hs hown ad m c news hx hl hnews h1 hnd hm h63 hbytes hbase fun g cap w' h2 h3 h4 => hK _ _ (h g cap w' h2 h3 h4)
theorem A7 {P : Program} (w : World) {ops : Array Oper} {o : Oper} {a : Act} {K : Act → World → Prop} {Q : Exit → Act → World → Prop} {E : Prop} (hgd : o.guard = none) (s x : Operand) (t : TypeId)
  (ho : o.op = .call { callee := .builtin .append, args := #[s, x], argTypes := #[t, t] })
  (base : Nat) (e : TypeId) (i : TypeInfo) (z : Value) (size bytes : Nat) (ht : P.underlying t = some (.slice e)) (hi : P.info? e = some i) (hz : i.zero = some z)
  (hsize : i.size = size) (hby : i.bytes = bytes) (hzs : z.cells.size = size) (hsz : 0 < size) (hzd : ∀ u ∈ z.cells.toList, jh u)
  (v : Value) (n : Nat) (xs : List Value) (hs : a.eval s = v) (hown : dL w base e size v n xs)
  (ad : Addr) (m c : Nat) (news : List Value) (hx : a.eval x = .slice (some ad) m c) (hl : news.length = m * size) (hnews : ∀ j u, news[j]? = some u → w.cell? (ad.add j) = some u) (h1 : ∀ u ∈ news, u.oneCell' = true) (hnd : ∀ u ∈ news, jh u)
  (hm : 0 < m) (h63 : n + m ≤ maxLen) (hbytes : (n + m) * bytes ≤ 140737488355328) (hbase : base ≤ w.heap.size)
  (h : ∀ g cap w', dL w' base e size (.slice (some ⟨g, 0, none⟩) (n + m) cap) (n + m) (xs ++ news) → w.grownBy w' v.ownBlock → (v.ownBlock = some g ∨ g = w.heap.size) → K (a.put o.dst (.slice (some ⟨g, 0, none⟩) (n + m) cap)) w') :
  if Region.wanted o (yielded ops a.tmps) = true then Oper.wp P o a w K Q else E := by
 have hw : Region.wanted o (yielded ops a.tmps) = true := by simp [Region.wanted, hgd]
 rw [if_pos hw]
 exact xF w s x t ho base e i z size bytes ht hi hz hsize hby hzs hsz hzd v n xs hs hown ad m c news hx hl hnews h1 hnd hm h63 hbytes hbase h
def Rk (R : World → Value → Rat → Prop) (w : World) (b o : Nat) (e : Rat × Int) : Prop :=
 ∃ v0 vn vd, w.cell? ⟨b, o, none⟩ = some v0 ∧ w.cell? ⟨b, o + 1, none⟩ = some vn ∧ w.cell? ⟨b, o + 2, none⟩ = some vd ∧ w.cell? ⟨b, o + 3, none⟩ = some (.int .i64 e.2) ∧ R w (.agg #[v0, vn, vd]) e.1
def Dq (R : World → Value → Rat → Prop) (w : World) (v : Value) (es : List (Rat × Int)) : Prop :=
 ∃ ao cap, v = .slice ao es.length cap ∧ (0 < es.length → ∃ b off, ao = some ⟨b, off, none⟩ ∧ b < w.heap.size ∧ ∀ i, i < es.length → Rk R w b (off + i * 4) (es.getD i (0, 0)))
theorem Rk.below {R : World → Value → Rat → Prop} (hR : ∀ w w' v q, R w v q → Below w.heap.size w w' → R w' v q) {w w' : World} {b o : Nat} {e : Rat × Int} (h : Rk R w b o e) (hb : Below w.heap.size w w') (hl : b < w.heap.size) : Rk R w' b o e := by
 obtain ⟨v0, vn, vd, h0, h1, h2, h3, h4⟩ := h
 have c : ∀ j v, w.cell? ⟨b, j, none⟩ = some v → w'.cell? ⟨b, j, none⟩ = some v := fun j v h => (hb.cell (p := ⟨b, j, none⟩) hl).trans h
 exact ⟨v0, vn, vd, c _ _ h0, c _ _ h1, c _ _ h2, c _ _ h3, hR _ _ _ _ h4 hb⟩
theorem Dq.below {R : World → Value → Rat → Prop} (hR : ∀ w w' v q, R w v q → Below w.heap.size w w' → R w' v q) {w w' : World} {v : Value} {es : List (Rat × Int)} (h : Dq R w v es) (hb : Below w.heap.size w w') : Dq R w' v es := by
 obtain ⟨ao, cap, rfl, h⟩ := h
 refine ⟨ao, cap, rfl, fun hl => ?_⟩
 obtain ⟨b, off, rfl, hlt, h⟩ := h hl
 exact ⟨b, off, rfl, Nat.lt_of_lt_of_le hlt hb.size, fun i hi => (h i hi).below hR hb hlt⟩
def pG (es : List (Rat × Int)) (T : Rat) : Int := es.foldl (fun acc e => if dN e.1 T ≤ 0 then e.2 else acc) 0
theorem NT (es : List (Rat × Int)) (T : Rat) (i : Nat) (hi : i < es.length) :
  pG (es.take (i + 1)) T = if dN (es.getD i (0, 0)).1 T ≤ 0 then (es.getD i (0, 0)).2 else pG (es.take i) T := by
 unfold pG
 rw [List.take_add_one, List.foldl_append]
 simp [hi]
def iO (f : Nat → Int) : Nat → Int
 | 0 => 0
 | k + 1 => if iO f k = 0 then f k else iO f k
theorem GG {f : Nat → Int} {i : Nat} (h : iO f i = 0) : iO f (i + 1) = f i := by simp [iO, h]
theorem Gz {f : Nat → Int} {i n : Nat} (h : iO f i ≠ 0) (hn : i ≤ n) : iO f n = iO f i := by
 obtain ⟨k, rfl⟩ : ∃ k, n = i + k := ⟨n - i, by omega⟩
 induction k with
 | zero => rfl
 | succ k ih =>
  have := ih (by omega)
  show (if iO f (i + k) = 0 then f (i + k) else iO f (i + k)) = _
  rw [this, if_neg h]
def YZ (es : List (Rat × Int)) (i : Nat) : Int :=
 if 0 < i ∧ dN (es.getD i (0, 0)).1 (es.getD (i - 1) (0, 0)).1 ≤ 0 then 7
 else if (es.getD i (0, 0)).2 < 0 ∨ 1000 < (es.getD i (0, 0)).2 ∨ (0 < i ∧ (es.getD i (0, 0)).2 < (es.getD (i - 1) (0, 0)).2) then 1 else 0
def QV (es : List (Rat × Int)) : Int := if es.length < 1 ∨ 16 < es.length then 4 else iO (YZ es) es.length
def I8 (w : World) (b o : Nat) (r : Int × Int) : Prop := w.cell? ⟨b, o, none⟩ = some (.int .i64 r.1) ∧ w.cell? ⟨b, o + 1, none⟩ = some (.int .i64 r.2)
def I9 (w : World) (v : Value) (ps : List (Int × Int)) : Prop :=
 ∃ ao cap, v = .slice ao ps.length cap ∧ (0 < ps.length → ∃ b off, ao = some ⟨b, off, none⟩ ∧ b < w.heap.size ∧ ∀ i, i < ps.length → I8 w b (off + i * 2) (ps.getD i (0, 0)))
theorem I8.below {w w' : World} {b o : Nat} {r : Int × Int} (h : I8 w b o r) (hb : Below w.heap.size w w') (hl : b < w.heap.size) : I8 w' b o r :=
 ⟨(hb.cell (p := ⟨b, o, none⟩) hl).trans h.1, (hb.cell (p := ⟨b, o + 1, none⟩) hl).trans h.2⟩
theorem I9.below {w w' : World} {v : Value} {ps : List (Int × Int)} (h : I9 w v ps) (hb : Below w.heap.size w w') : I9 w' v ps := by
 obtain ⟨ao, cap, rfl, h⟩ := h
 refine ⟨ao, cap, rfl, fun hl => ?_⟩
 obtain ⟨b, off, rfl, hlt, h⟩ := h hl
 exact ⟨b, off, rfl, Nat.lt_of_lt_of_le hlt hb.size, fun i hi => (h i hi).below hb hlt⟩
def TT (n : Int) : Bool := decide (0 ≤ n) && decide (n ≤ 1073741824)
def Xt (b : Bool) (w : World) (e : Ending) (w' : World) : Prop := e = .returned (.bool b) ∧ w = w'
def aoi : Nat := 2147483648
def anO : Nat := 2139095040
def Gq (b : Nat) : Bool := decide (b % aoi < anO)
def TS (b : Nat) : Rat := if Gq b = true then apB ((floatToFloatBits .f32 b .f64).getD 0) else 0
def adJ (w : World) (b o : Nat) (r : Int × Nat) : Prop := w.cell? ⟨b, o, none⟩ = some (.int .i64 r.1) ∧ w.cell? ⟨b, o + 1, none⟩ = some (.float .f32 r.2)
def Xo (w : World) (v : Value) (ls : List (Int × Nat)) : Prop :=
 ∃ ao cap, v = .slice ao ls.length cap ∧ (0 < ls.length → ∃ b off, ao = some ⟨b, off, none⟩ ∧ b < w.heap.size ∧ ∀ i, i < ls.length → adJ w b (off + i * 2) (ls.getD i (0, 0)))
theorem adJ.below {w w' : World} {b o : Nat} {r : Int × Nat} (h : adJ w b o r) (hb : Below w.heap.size w w') (hl : b < w.heap.size) : adJ w' b o r :=
 ⟨(hb.cell (p := ⟨b, o, none⟩) hl).trans h.1, (hb.cell (p := ⟨b, o + 1, none⟩) hl).trans h.2⟩
theorem Xo.below {w w' : World} {v : Value} {ls : List (Int × Nat)} (h : Xo w v ls) (hb : Below w.heap.size w w') : Xo w' v ls := by
 obtain ⟨ao, cap, rfl, h⟩ := h
 refine ⟨ao, cap, rfl, fun hl => ?_⟩
 obtain ⟨b, off, rfl, hlt, h⟩ := h hl
 exact ⟨b, off, rfl, Nat.lt_of_lt_of_le hlt hb.size, fun i hi => (h i hi).below hb hlt⟩
def agE (ls : List (Int × Nat)) (i : Nat) : Int :=
 if TT (ls.getD i (0, 0)).1 = false ∨ Gq (ls.getD i (0, 0)).2 = false then 1
 else if 0 < i ∧ (ls.getD i (0, 0)).1 ≤ (ls.getD (i - 1) (0, 0)).1 then 7 else 0
def Qc (ls : List (Int × Nat)) : Int := if 256 < ls.length then 4 else iO (agE ls) ls.length
def YE (f t a b : Int) : Int := max 0 (min t b - max f a)
theorem zH {f : Nat → Int} {n : Nat} (h : iO f n = 0) : ∀ i, i < n → f i = 0 := by
 induction n with
 | zero => intro i hi; omega
 | succ n ih =>
  intro i hi
  have h0 : iO f n = 0 := by
   rcases Classical.em (iO f n = 0) with h1 | h1
   · exact h1
   ·
    have := Gz h1 (Nat.le_succ n)
    rw [this] at h
    exact absurd h h1
  rw [GG h0] at h
  rcases Nat.lt_or_ge i n with h1 | h1
  · exact ih h0 i h1
  ·
   obtain rfl : i = n := by omega
   exact h
theorem acj {es : List (Rat × Int)} (h : QV es = 0) : 0 < es.length ∧ es.length ≤ 16 ∧ ∀ i, i < es.length → 0 ≤ (es.getD i (0, 0)).2 ∧ (es.getD i (0, 0)).2 ≤ 1000 := by
 unfold QV at h
 split at h
 · omega
 ·
  rename_i hl
  refine ⟨by omega, by omega, fun i hi => ?_⟩
  have := zH h i hi
  unfold YZ at this
  split at this
  · omega
  ·
   split at this
   · omega
   · omega
theorem KE {es : List (Rat × Int)} (h : ∀ i, i < es.length → 0 ≤ (es.getD i (0, 0)).2 ∧ (es.getD i (0, 0)).2 ≤ 1000) (T : Rat) : 0 ≤ pG es T ∧ pG es T ≤ 1000 := by
 have key : ∀ i, i ≤ es.length → 0 ≤ pG (es.take i) T ∧ pG (es.take i) T ≤ 1000 := by
  intro i
  induction i with
  | zero => intro _; simp [pG]
  | succ i ih =>
   intro hi
   rw [NT es T i (by omega)]
   split
   · exact h i (by omega)
   · exact ih (by omega)
 have := key es.length (Nat.le_refl _)
 rwa [List.take_length] at this
theorem ajH {ls : List (Int × Nat)} (h : Qc ls = 0) : ls.length ≤ 256 ∧ ∀ i, i < ls.length → 0 ≤ (ls.getD i (0, 0)).1 ∧ (ls.getD i (0, 0)).1 ≤ 1073741824 ∧ Gq (ls.getD i (0, 0)).2 = true := by
 unfold Qc at h
 split at h
 · omega
 ·
  refine ⟨by omega, fun i hi => ?_⟩
  have := zH h i hi
  unfold agE at this
  split at this
  · omega
  ·
   rename_i hn
   have h1 : TT (ls.getD i (0, 0)).1 = true := by
    cases h : TT (ls.getD i (0, 0)).1
    · exact absurd (.inl h) hn
    · rfl
   have h2 : Gq (ls.getD i (0, 0)).2 = true := by
    cases h : Gq (ls.getD i (0, 0)).2
    · exact absurd (.inr h) hn
    · rfl
   unfold TT at h1
   simp at h1
   exact ⟨h1.1, h1.2, h2⟩
def ajt (es : List (Rat × Int)) : Int := (es.getD (es.length - 1) (0, 0)).2
def aaR (es : List (Rat × Int)) (gap : Int) (ls : List (Int × Nat)) (i : Nat) : Int :=
 if 0 < i ∧ (ls.getD i (0, 0)).1 - (ls.getD (i - 1) (0, 0)).1 ≤ gap then max (pG es (TS (ls.getD (i - 1) (0, 0)).2)) (pG es (TS (ls.getD i (0, 0)).2)) else ajt es
def lastT (ls : List (Int × Nat)) (i : Nat) : Int := if i = 0 then 0 else (ls.getD (i - 1) (0, 0)).1
structure oG (es : List (Rat × Int)) (ls : List (Int × Nat)) (f t : Int) : Prop where
 tab : QV es = 0
 log : Qc ls = 0
 f0 : 0 ≤ f
 f1 : f ≤ 1073741824
 t0 : 0 ≤ t
 t1 : t ≤ 1073741824
theorem oG.hot {es : List (Rat × Int)} {ls : List (Int × Nat)} {f t : Int} (h : oG es ls f t) : 0 ≤ ajt es ∧ ajt es ≤ 1000 := by
 obtain ⟨h1, h2, h3⟩ := acj h.tab
 exact h3 _ (by omega)
theorem oG.up {es : List (Rat × Int)} {ls : List (Int × Nat)} {f t : Int} (h : oG es ls f t) (T : Rat) : 0 ≤ pG es T ∧ pG es T ≤ 1000 := KE (acj h.tab).2.2 T
theorem oG.rate {es : List (Rat × Int)} {ls : List (Int × Nat)} {f t : Int} (h : oG es ls f t) (gap : Int) (i : Nat) : 0 ≤ aaR es gap ls i ∧ aaR es gap ls i ≤ 1000 := by
 unfold aaR
 split
 ·
  have a := h.up (TS (ls.getD (i - 1) (0, 0)).2)
  have b := h.up (TS (ls.getD i (0, 0)).2)
  omega
 · exact h.hot
theorem oG.last {es : List (Rat × Int)} {ls : List (Int × Nat)} {f t : Int} (h : oG es ls f t) (i : Nat) (hi : i ≤ ls.length) : 0 ≤ lastT ls i ∧ lastT ls i ≤ 1073741824 := by
 unfold lastT
 split
 · omega
 ·
  have := (ajH h.log).2 (i - 1) (by omega)
  omega
theorem oG.both {es : List (Rat × Int)} {ls : List (Int × Nat)} {f t : Int} (h : oG es ls f t) (a b : Int) : 0 ≤ YE f t a b ∧ YE f t a b ≤ 1073741824 := by
 have := h.f0
 have := h.t1
 unfold YE
 omega
def ZZ (l : List Nat) : List Value := l.map (fun j : Nat => Value.int .i64 (j : Int))
theorem dL.isRow {w : World} {base : Nat} {e : TypeId} {v : Value} {l : List Nat} (h : dL w base e 1 v l.length (ZZ l)) : aX .i64 w v l := by
 rcases Nat.eq_zero_or_pos l.length with h0 | hp
 ·
  left
  have hl := List.eq_nil_of_length_eq_zero h0
  refine ⟨hl, ?_⟩
  rcases h.1.2 with ⟨rfl, _⟩ | ⟨g, cap, cur, rfl, _, _, _, hcm, _⟩
  · exact ⟨_, _, rfl, by unfold maxLen; omega, fun _ => rfl⟩
  · exact ⟨_, _, by rw [h0], hcm, by simp⟩
 ·
  obtain ⟨g, cap, rfl⟩ := ownsRow_some h.1 hp
  obtain ⟨ho, h1, h2, _⟩ := Own.uF (k := .i64) (ds := l) rfl h.1
  exact ho.sO cap h1 h2
theorem aA.grown {w w' : World} {v : Value} {q : Rat} {row : Option Nat} (h : aA w v q) (hg : w.grownBy w' row) (hr : ∀ g, row = some g → mZ w g) : aA w' v q := by
 obtain ⟨vn, vd, rfl, h1, h2⟩ := h
 exact ⟨vn, vd, rfl, aX.grown (.inl rfl) h1 hg hr, aX.grown (.inl rfl) h2 hg hr⟩
theorem uZ.grown {w w' : World} {v : Value} {q : Rat} {row : Option Nat} (h : uZ w v q) (hg : w.grownBy w' row) (hr : ∀ g, row = some g → mZ w g) : uZ w' v q := by
 obtain ⟨vn, vd, d', rfl, h1, h2, h3⟩ := h
 exact ⟨vn, vd, d', rfl, aX.grown (.inr rfl) h1 hg hr, aX.grown (.inr rfl) h2 hg hr, h3⟩
def t_ (R : World → Value → Rat → Prop) (w : World) (xs : List Value) (es : List (Rat × Int)) : Prop :=
 xs.length = es.length * 4 ∧ ∀ j, j < es.length → ∃ v0 vn vd, xs[j * 4]? = some v0 ∧ xs[j * 4 + 1]? = some vn ∧ xs[j * 4 + 2]? = some vd ∧ xs[j * 4 + 3]? = some (.int .i64 (es.getD j (0, 0)).2) ∧ R w (.agg #[v0, vn, vd]) (es.getD j (0, 0)).1
theorem t_.mono {R : World → Value → Rat → Prop} {w w' : World} {xs : List Value} {es : List (Rat × Int)} (h : t_ R w xs es) (hr : ∀ v q, R w v q → R w' v q) : t_ R w' xs es :=
 ⟨h.1, fun j hj => by obtain ⟨v0, vn, vd, h0, h1, h2, h3, h4⟩ := h.2 j hj; exact ⟨v0, vn, vd, h0, h1, h2, h3, hr _ _ h4⟩⟩
theorem t_.nil (R : World → Value → Rat → Prop) (w : World) : t_ R w [] [] := ⟨rfl, fun j hj => absurd hj (by simp)⟩
theorem t_.snoc {R : World → Value → Rat → Prop} {w : World} {xs : List Value} {es : List (Rat × Int)} (h : t_ R w xs es) {v0 vn vd : Value} {q : Rat} {r : Int} (hq : R w (.agg #[v0, vn, vd]) q) :
  t_ R w (xs ++ [v0, vn, vd, .int .i64 r]) (es ++ [(q, r)]) := by
 obtain ⟨hl, h⟩ := h
 refine ⟨by simp [hl]; omega, fun j hj => ?_⟩
 rcases Nat.lt_or_ge j es.length with h1 | h1
 ·
  obtain ⟨u0, un, ud, h0, h2, h3, h4, h5⟩ := h j h1
  have e : ∀ k, k < 4 → (xs ++ [v0, vn, vd, .int .i64 r])[j * 4 + k]? = xs[j * 4 + k]? := fun k hk => List.getElem?_append_left (by omega)
  have e2 : (es ++ [(q, r)]).getD j (0, 0) = es.getD j (0, 0) := by simp [List.getD, List.getElem?_append_left h1]
  rw [e2]
  exact ⟨u0, un, ud, by rw [← h0]; exact e 0 (by omega), by rw [← h2]; exact e 1 (by omega), by rw [← h3]; exact e 2 (by omega), by rw [← h4]; exact e 3 (by omega), h5⟩
 ·
  obtain rfl : j = es.length := by simp at hj; omega
  have e : ∀ k, (xs ++ [v0, vn, vd, .int .i64 r])[es.length * 4 + k]? = ([v0, vn, vd, .int .i64 r] : List Value)[k]? := fun k => by rw [List.getElem?_append_right (by omega), hl]; congr 1; omega
  have e2 : (es ++ [(q, r)]).getD es.length (0, 0) = (q, r) := by simp [List.getD]
  rw [e2]
  exact ⟨v0, vn, vd, e 0, e 1, e 2, e 3, hq⟩
theorem Dq.ofRow {R : World → Value → Rat → Prop} {w : World} {base : Nat} {e : TypeId} {v : Value} {xs : List Value} {es : List (Rat × Int)} (h : dL w base e 4 v es.length xs) (ht : t_ R w xs es) : Dq R w v es := by
 rcases Nat.eq_zero_or_pos es.length with h0 | hp
 ·
  rcases h.1.2 with ⟨rfl, _⟩ | ⟨g, cap, cur, rfl, _⟩
  · exact ⟨none, 0, by rw [h0], fun h => absurd h (by omega)⟩
  · exact ⟨_, _, rfl, fun h => absurd h (by omega)⟩
 ·
  obtain ⟨g, cap, rfl⟩ := ownsRow_some h.1 hp
  have hc : ∀ j u, xs[j]? = some u → w.cell? ((⟨g, 0, none⟩ : Addr).add j) = some u := h.1.cells (g := g) rfl
  have hlt : g < w.heap.size := (h.lt rfl).1
  refine ⟨_, _, rfl, fun _ => ⟨g, 0, rfl, hlt, fun i hi => ?_⟩⟩
  obtain ⟨v0, vn, vd, h0, h1, h2, h3, h4⟩ := ht.2 i hi
  have ea : ∀ j, (⟨g, 0, none⟩ : Addr).add j = ⟨g, 0 + j, none⟩ := fun j => by unfold Addr.add; split <;> simp_all
  refine ⟨v0, vn, vd, ?_, ?_, ?_, ?_, h4⟩
  · rw [← ea]; exact hc _ _ h0
  · rw [show 0 + i * 4 + 1 = 0 + (i * 4 + 1) by omega, ← ea]; exact hc _ _ h1
  · rw [show 0 + i * 4 + 2 = 0 + (i * 4 + 2) by omega, ← ea]; exact hc _ _ h2
  · rw [show 0 + i * 4 + 3 = 0 + (i * 4 + 3) by omega, ← ea]; exact hc _ _ h3
theorem dL.apart {w : World} {base : Nat} {eA eB : TypeId} {sA sB : Nat} {va vb : Value} {n m : Nat} {xs ys : List Value} (h : dL w base eA sA va n xs) (k : dL w base eB sB vb m ys) (hne : eA ≠ eB) : ∀ g, vb.ownBlock = some g → some g ≠ va.ownBlock := by
 intro g hg e
 rcases h.1.2 with ⟨rfl, _⟩ | ⟨g1, c1, atH, rfl, _, hh1, _⟩
 · simp [Value.ownBlock] at e
 ·
  rcases k.1.2 with ⟨rfl, _⟩ | ⟨g2, c2, atI, rfl, _, hh2, _⟩
  · simp [Value.ownBlock] at hg
  ·
   simp [Value.ownBlock] at e hg
   subst e hg
   rw [hh1] at hh2
   simp at hh2
   exact hne hh2.2
def Rx (w : World) (b o : Nat) (t : Int × Int × Int) : Prop := w.cell? ⟨b, o, none⟩ = some (.int .i64 t.1) ∧ w.cell? ⟨b, o + 1, none⟩ = some (.int .i64 t.2.1) ∧ w.cell? ⟨b, o + 2, none⟩ = some (.int .i64 t.2.2)
def OH (w : World) (v : Value) (ts : List (Int × Int × Int)) : Prop :=
 ∃ ao cap, v = .slice ao ts.length cap ∧ (0 < ts.length → ∃ b off, ao = some ⟨b, off, none⟩ ∧ b < w.heap.size ∧ ∀ i, i < ts.length → Rx w b (off + i * 3) (ts.getD i (0, 0, 0)))
theorem Rx.below {w w' : World} {b o : Nat} {r : Int × Int × Int} (h : Rx w b o r) (hb : Below w.heap.size w w') (hl : b < w.heap.size) : Rx w' b o r :=
 ⟨(hb.cell (p := ⟨b, o, none⟩) hl).trans h.1, (hb.cell (p := ⟨b, o + 1, none⟩) hl).trans h.2.1, (hb.cell (p := ⟨b, o + 2, none⟩) hl).trans h.2.2⟩
theorem OH.below {w w' : World} {v : Value} {ps : List (Int × Int × Int)} (h : OH w v ps) (hb : Below w.heap.size w w') : OH w' v ps := by
 obtain ⟨ao, cap, rfl, h⟩ := h
 refine ⟨ao, cap, rfl, fun hl => ?_⟩
 obtain ⟨b, off, rfl, hlt, h⟩ := h hl
 exact ⟨b, off, rfl, Nat.lt_of_lt_of_le hlt hb.size, fun i hi => (h i hi).below hb hlt⟩
end Go.Proofs.YtkblihocfapklaaGreat
namespace Go.Proofs.YtkblihocfapklaaGreat
open Go.ChangeShapes Go.WideShapes Go.ChangeAt Go.RowKit
section
variable {H : Type} {enc : TypeId × Value → H} {P : Program} {w : World} {base : Nat} {spare : Nat → Bool} {held : Bool}
theorem QY {t : TypeId} {fuel : Nat} {cs : List Value} {x : DataW H × List MemPlace} {k : FloatKind} (ht : P.underlying t = some (.float k)) (h : DataW.trod enc P w base spare held fuel t cs = some x) :
  ∃ n, cs = [.float k n] ∧ x = (.lit (.float k n), []) ∧ (Lit.float k n).wf = true := by
 cases fuel with
 | zero => simp [DataW.trod] at h
 | succ n =>
  unfold DataW.trod at h
  rw [ht] at h
  split at h <;> simp_all
theorem U6 {r : Reach} {b0 : Nat} {t e : TypeId} {k : Nat} {v : Value} {d : DataW H} {p : List MemPlace} (ht : P.underlying t = some (.slice e)) (hk : P.cellsOf e = k) (hk0 : 0 < k) (Law : List Value → Prop)
  (aqs : ∀ n cs y, DataW.trod enc P w 0 (fun _ => true) true n e cs = some y → Law cs) (hv : Value.okWide P w r b0 t v) (h : DataW.Trod enc P w 0 (fun _ => true) true t v d p) :
  ∃ ao len cap, v = .slice ao len cap ∧ len ≤ cap ∧ cap ≤ maxLen ∧ (0 < len → ∃ b off, ao = some ⟨b, off, none⟩ ∧ b < w.heap.size ∧ ∀ i, i < len → ∃ cs : List Value, cs.length = k ∧ Law cs ∧ ∀ j, j < k → w.cell? ⟨b, off + i * k + j, none⟩ = cs[j]?) := by
 obtain ⟨ao, len, cap, rfl⟩ := okWide_slice ht hv
 refine ⟨ao, len, cap, rfl, ?_⟩
 obtain ⟨fuel, hf⟩ := h
 rcases Deep.open_slice ht hf with ⟨hcs, _⟩ | ⟨a, len', cap', m, n, D, Pl, hcs, _, hl, hm, hmm, _, hi⟩
 ·
  simp [Value.cells] at hcs
  obtain ⟨rfl, rfl, rfl⟩ := hcs
  exact ⟨Nat.le_refl _, by unfold maxLen; omega, fun h => absurd h (by omega)⟩
 ·
  simp [Value.cells] at hcs
  obtain ⟨rfl, rfl, rfl⟩ := hcs
  refine ⟨hl, hm, fun hlen => ?_⟩
  simp only [if_true] at hmm
  subst hmm
  have key : ∀ i, i < len → ∃ cs : List Value, cs.length = k ∧ Law cs ∧ ∀ j, j < k → w.cell? (a.add (i * k + j)) = cs[j]? := by
   intro i hlt
   obtain ⟨cs', hc, hT⟩ := hi i (by omega)
   rw [hk] at hc
   obtain ⟨_, hcl, hat⟩ := World.cells?_some hc
   exact ⟨cs', hcl, aqs _ _ _ hT, fun j hj => by rw [← hat j hj, Deep.add_add]⟩
  obtain ⟨b, off, spot⟩ := a
  have hsp : spot = none := by
   obtain ⟨cs, hcl, _, hat⟩ := key 0 hlen
   have h0 := hat 0 hk0
   rw [List.getElem?_eq_getElem (by omega)] at h0
   have := World.cell?_spot h0
   simpa [Addr.add] using this
  subst hsp
  have ea : ∀ j, (⟨b, off, none⟩ : Addr).add j = ⟨b, off + j, none⟩ := fun j => by unfold Addr.add; split <;> simp_all
  refine ⟨b, off, rfl, ?_, fun i hlt => ?_⟩
  ·
   obtain ⟨cs, hcl, _, hat⟩ := key 0 hlen
   have h0 := hat 0 hk0
   rw [List.getElem?_eq_getElem (by omega), ea] at h0
   exact World.block_lt_of_cell? (h := h0)
  ·
   obtain ⟨cs, hcl, hL, hat⟩ := key i hlt
   exact ⟨cs, hcl, hL, fun j hj => by rw [← hat j hj, ea, Nat.add_assoc]⟩
end
theorem Bi {α : Type} (n : Nat) (d : α) (p : Nat → α → Prop) (h : ∀ i, i < n → ∃ x, p i x) : ∃ l : List α, l.length = n ∧ ∀ i, i < n → p i (l.getD i d) := by
 have h2 : ∀ i, ∃ x, i < n → p i x := fun i => by
  by_cases hi : i < n
  ·
   obtain ⟨x, hx⟩ := h i hi
   exact ⟨x, fun _ => hx⟩
  · exact ⟨d, fun h => absurd h hi⟩
 refine ⟨(List.range n).map fun i => Classical.choose (h2 i), by simp, fun i hi => ?_⟩
 have e : ((List.range n).map fun i => Classical.choose (h2 i)).getD i d = Classical.choose (h2 i) := by simp [hi]
 rw [e]
 exact Classical.choose_spec (h2 i) hi
section
variable {H : Type} {enc : TypeId × Value → H} {w : World}
end
theorem aau : ownKnob Tryz.prog.godebug = none := by kernel_rfl
theorem FW : laidOutB Tryz.prog = true := by kernel_rfl
end Go.Proofs.YtkblihocfapklaaGreat
namespace Go.Proofs.YtkblihocfapklaaGreat
open Go.ChangeShapes Go.WideShapes Go.ChangeAt Go.RowKit
inductive tY where
 | int (k : IntKind) | float (k : FloatKind) | bool | string
def ajF : tY → Value → Prop
 | .int k, v => ∃ n, v = .int k n ∧ (Lit.int k n).wf = true
 | .float k, v => ∃ n, v = .float k n ∧ (Lit.float k n).wf = true
 | .bool, v => ∃ b, v = .bool b
 | .string, v => ∃ s : ByteArray, v = .string s ∧ s.size ≤ maxLen
def jT : List tY → List Value → Prop
 | [], [] => True
 | l :: ls, v :: vs => ajF l v ∧ jT ls vs
 | _, _ => False
theorem qj : ∀ {ls : List tY} {vs : List Value} {ls' : List tY} {vs' : List Value}, jT ls vs → jT ls' vs' → jT (ls ++ ls') (vs ++ vs')
 | [], [], _, _, _, h => h
 | _ :: _, _ :: _, _, _, ⟨h1, h2⟩, h => ⟨h1, qj h2 h⟩
theorem vH : ∀ {ls : List tY} {vs : List Value}, jT ls vs → vs.length = ls.length
 | [], [], _ => rfl
 | _ :: _, _ :: _, ⟨_, h⟩ => by simp [vH h]
section
variable (P : Program)
def En (fl : TypeId → Option (List tY)) : List Field → Nat → Option (List tY)
 | [], _ => some []
 | f :: fs, o => if f.offset = o then (fl f.type).bind fun l => if P.cellsOf f.type = l.length then (En fl fs (o + l.length)).map (l ++ ·) else none else none
def Mc (l : List tY) : Nat → List tY
 | 0 => []
 | n + 1 => Mc l n ++ l
def flat : Nat → TypeId → Option (List tY)
 | 0, _ => none
 | n + 1, t => match P.underlying t with
  | some .bool => some [.bool]
  | some (.int k) => some [.int k]
  | some (.float k) => some [.float k]
  | some .string => some [.string]
  | some (.struct fs) => (En P (flat n) fs.toList 0).bind fun l => if P.cellsOf t = l.length then some l else none
  | some (.array m e) => (flat n e).bind fun l => if P.cellsOf e = l.length ∧ P.cellsOf t = m * l.length then some (Mc l m) else none
  | _ => none
end
section
variable {H : Type} {enc : TypeId × Value → H} {P : Program} {w : World}
theorem Eo (fl : TypeId → Option (List tY)) (n : Nat) (cs : List Value) (ih : ∀ t l cs y, fl t = some l → DataW.trod enc P w 0 (fun _ => true) true n t cs = some y → jT l cs) :
  ∀ (fs : List Field) (o : Nat) (ls : List tY), En P fl fs o = some ls → (∀ f ∈ fs, ∃ y, DataW.trod enc P w 0 (fun _ => true) true n f.type ((cs.drop f.offset).take (P.cellsOf f.type)) = some y) →
   jT ls ((cs.drop o).take ls.length)
 | [], o, ls, h, _ => by
  simp [En] at h
  subst h
  simp [jT]
 | f :: fs, o, ls, h, hf => by
  unfold En at h
  split at h
  ·
   rename_i ho
   subst ho
   rw [Option.bind_eq_some_iff] at h
   obtain ⟨l, h1, h2⟩ := h
   split at h2
   ·
    rename_i hc
    rw [Option.map_eq_some_iff] at h2
    obtain ⟨l2, h3, rfl⟩ := h2
    obtain ⟨y, hy⟩ := hf f (by simp)
    have a1 := ih _ _ _ _ h1 hy
    rw [hc] at a1
    have a2 := Eo fl n cs ih fs _ _ h3 (fun g hg => hf g (by simp [hg]))
    rw [List.length_append, List.take_add, List.drop_drop]
    exact qj a1 a2
   · cases h2
  · cases h
theorem trod_array {t e : TypeId} {fuel m : Nat} {cs : List Value} {x : DataW H × List MemPlace} (ht : P.underlying t = some (.array m e)) (h : DataW.trod enc P w 0 (fun _ => true) true fuel t cs = some x) :
  ∃ n, fuel = n + 1 ∧ cs.length = P.cellsOf t ∧ ∀ i, i < m → ∃ y, DataW.trod enc P w 0 (fun _ => true) true n e ((cs.drop (i * P.cellsOf e)).take (P.cellsOf e)) = some y := by
 cases fuel with
 | zero => simp [DataW.trod] at h
 | succ n =>
  unfold DataW.trod at h
  rw [ht] at h
  split at h <;> simp_all
  obtain ⟨hl, xs, hp, hd⟩ := h
  intro i hi
  have hlen := mapM_some_length hp
  have := mapM_some_get hp i i (by simp [hi])
  rw [this]
  simp at hlen
  exact ⟨xs[i].1, xs[i].2, by simp [hlen, hi]⟩
theorem Md : ∀ (k : Nat) (t : TypeId) (ls : List tY) (n : Nat) (cs : List Value) (y : DataW H × List MemPlace), flat P k t = some ls → DataW.trod enc P w 0 (fun _ => true) true n t cs = some y → jT ls cs := by
 intro k
 induction k with
 | zero => intro t ls n cs y h; simp [flat] at h
 | succ k ih =>
  intro t ls n cs y h ht
  unfold flat at h
  split at h
  ·
   rename_i hu
   obtain ⟨b, rfl, _⟩ := DataW.trod_bool hu ht
   obtain rfl : [tY.bool] = ls := by simpa using h
   exact ⟨⟨b, rfl⟩, trivial⟩
  ·
   rename_i kk hu
   obtain ⟨b, rfl, _, hw⟩ := DataW.trod_int hu ht
   obtain rfl : [tY.int kk] = ls := by simpa using h
   exact ⟨⟨b, rfl, hw⟩, trivial⟩
  ·
   rename_i kk hu
   obtain ⟨b, rfl, _, hw⟩ := QY hu ht
   obtain rfl : [tY.float kk] = ls := by simpa using h
   exact ⟨⟨b, rfl, hw⟩, trivial⟩
  ·
   rename_i hu
   obtain ⟨s, rfl, _, hw⟩ := DataW.trod_string hu ht
   obtain rfl : [tY.string] = ls := by simpa using h
   exact ⟨⟨s, rfl, hw⟩, trivial⟩
  ·
   rename_i fs hu
   rw [Option.bind_eq_some_iff] at h
   obtain ⟨l, h1, h2⟩ := h
   split at h2
   ·
    rename_i hc
    obtain rfl : l = ls := by simpa using h2
    obtain ⟨xs, m, _, _, hcl, hxl, hf⟩ := DataW.trod_struct hu ht
    have := Eo (enc := enc) (w := w) (flat P k) m cs (fun t l cs y a b => ih t l m cs y a b) fs.toList 0 l h1 (fun f hf' => by
     obtain ⟨i, hi, rfl⟩ := List.getElem_of_mem hf'
     simp at hi
     have e := hf i fs[i] (by simp [hi])
     exact ⟨xs[i], by simp at e ⊢; rw [e]; simp [hxl, hi]⟩)
    rw [List.drop_zero, List.take_of_length_le (by rw [hcl, hc]; exact Nat.le_refl _)] at this
    exact this
   · cases h2
  ·
   rename_i m e hu
   rw [Option.bind_eq_some_iff] at h
   obtain ⟨l, h1, h2⟩ := h
   split at h2
   ·
    rename_i hc
    obtain ⟨hc1, hc2⟩ := hc
    obtain rfl : Mc l m = ls := by simpa using h2
    obtain ⟨n', _, hcl, hE⟩ := trod_array hu ht
    have key : ∀ j, j ≤ m → jT (Mc l j) (cs.take (j * l.length)) := by
     intro j hj
     induction j with
     | zero => simp [Mc, jT]
     | succ j ihj =>
      obtain ⟨y, hy⟩ := hE j (by omega)
      have a1 := ih _ _ _ _ _ h1 hy
      rw [hc1] at a1
      rw [Nat.succ_mul, List.take_add]
      exact qj (ihj (by omega)) a1
    have := key m (Nat.le_refl _)
    rw [List.take_of_length_le (by rw [hcl, hc2]; exact Nat.le_refl _)] at this
    exact this
   · cases h2
  · cases h
theorem Gf {r : Reach} {b0 : Nat} {t e : TypeId} {k : Nat} {ls : List tY} {v : Value} {d : DataW H} {p : List MemPlace} (ht : P.underlying t = some (.slice e)) (hk : P.cellsOf e = k) (hk0 : 0 < k) (hfl : flat P 8 e = some ls)
  (hv : Value.okWide P w r b0 t v) (h : DataW.Trod enc P w 0 (fun _ => true) true t v d p) :
  ∃ ao len cap, v = .slice ao len cap ∧ len ≤ cap ∧ cap ≤ maxLen ∧ (0 < len → ∃ b off, ao = some ⟨b, off, none⟩ ∧ b < w.heap.size ∧ ∀ i, i < len → ∃ cs : List Value, cs.length = k ∧ jT ls cs ∧ ∀ j, j < k → w.cell? ⟨b, off + i * k + j, none⟩ = cs[j]?) :=
 U6 ht hk hk0 (jT ls) (fun n cs y hy => Md 8 e ls n cs y hfl hy) hv h
theorem U5 {t : TypeId} {ls : List tY} {v : Value} {d : DataW H} {p : List MemPlace} (hfl : flat P 8 t = some ls) (h : DataW.Trod enc P w 0 (fun _ => true) true t v d p) : jT ls v.cells.toList := by
 obtain ⟨fuel, hf⟩ := h
 exact Md 8 t ls fuel _ _ hfl hf
end
end Go.Proofs.YtkblihocfapklaaGreat
namespace Go.Proofs.YtkblihocfapklaaGreat
open Go.RowKit
theorem tJ {P : Program} (w : World) {ops : Array Oper} {rest : List Oper} {o : Oper} {a : Act} {Q : Exit → Act → World → Prop}
  (hg : o.guard = none) (l c : Operand) (t : TypeId) (hop : o.op = Op.makeSlice t l c)
  (base : Nat) (e : TypeId) (i : TypeInfo) (z : Value) (size : Nat) (h1 : P.underlying t = some (.slice e)) (h2 : P.info? e = some i) (h3 : i.zero = some z) (h4 : i.size = size)
  (kl kc : IntKind) (L C : Int) (n m : Nat) (hl : a.eval l = .int kl L) (hc : a.eval c = .int kc C) (hL : L = (n : Int)) (hC : C = (m : Int)) (hnm : n ≤ m) (b2 : i.bytes * m ≤ 281474976710656) (b3 : m ≤ maxLen) (_b4 : base ≤ w.heap.size)
  (hK : ∀ w', w'.heap[w.heap.size]? = some (.cells (madeCells z.cells (m * size)) e (0, 0)) → w.grownBy w' none → wpList P ops Q rest (a.put o.dst (.slice (some ⟨w.heap.size, 0, none⟩) n m)) w') :
  wpList P ops Q (o :: rest) a w := by
 subst h4
 subst hL
 subst hC
 refine wpList_plain hg fun K hK' => ?_
 have b3' : (m : Int) ≤ 9223372036854775807 := by
  have h := b3
  simp [maxLen] at h
  omega
 have hb' : (i.bytes : Int) * (m : Int) ≤ 281474976710656 := by
  have h : ((i.bytes * m : Nat) : Int) ≤ 281474976710656 := by omega
  rwa [Int.natCast_mul] at h
 have hr := run_make (P := P) w t e i z h1 h2 h3 kl kc n m (by omega) (by omega) hb' b3'
 simp only [Int.toNat_natCast] at hr
 unfold Oper.wp
 simp [execOp, hop, hl, hc, hr, Result.andThen]
 exact hK' _ _ (hK _ (heap_alloc_new w _) (World.grownBy_alloc w _ none))
structure BN (a b : List Nat) (n i : Nat) (o : List Nat) (c : Nat) : Prop where
 len : o.length = n
 o7 : fQ ak o
 Jp : c ≤ 1
 val : lv ak o + ak ^ i * c = lv ak (a.take i) + lv ak (b.take i)
 top : ∀ j, i ≤ j → o.getD j 0 = 0
theorem rF (a : List Nat) (i : Nat) : lv ak (a.take (i + 1)) = lv ak (a.take i) + ak ^ i * a.getD i 0 := by
 by_cases h : i < a.length
 · exact dM ak a i h
 ·
  rw [List.take_of_length_le (by omega), List.take_of_length_le (by omega)]
  simp [List.getElem?_eq_none (Nat.le_of_not_lt h)]
theorem BN.start (a b : List Nat) (n : Nat) : BN a b n 0 (List.replicate n 0) 0 :=
 ⟨by simp, fQ.replicate bD _, by omega, by simp [iD, lv], fun j _ => by simp [List.getElem?_replicate]; split <;> rfl⟩
theorem BN.step {a b : List Nat} {n i : Nat} {o : List Nat} {c : Nat} (h : BN a b n i o c) (ha : fQ ak a) (hb : fQ ak b) (hi : i < n) (x y : Nat) (hx : x = a.getD i 0) (hy : y = b.getD i 0) :
  BN a b n (i + 1) (o.set i (iF x y c)) (fV x y c) := by
 have hxl := ha.getD bD i
 have hyl := hb.getD bD i
 rw [← hx] at hxl
 rw [← hy] at hyl
 refine ⟨by simpa using h.len, h.o7.set _ _ (vk _ _ _), XB _ _ _ hxl hyl h.Jp, ?_, fun j hj => ?_⟩
 ·
  have h1 := og ak o i (iF x y c) (by rw [h.len]; exact hi)
  rw [h.top i (Nat.le_refl _)] at h1
  have h2 := h.val
  rw [rF, rF, Nat.pow_succ, ← hx, ← hy]
  have e4 := add_eq x y c
  have e5 : ak ^ i * (iF x y c + ak * fV x y c) = ak ^ i * (x + y + c) := by rw [e4]
  rw [Nat.mul_assoc]
  simp only [Nat.mul_add] at e5
  omega
 ·
  have := h.top j (by omega)
  rw [List.getD_eq_getElem?_getD] at *
  rw [List.getElem?_set_ne (by omega)]
  exact this
theorem BN.done {a b : List Nat} {o : List Nat} {c : Nat} (h : BN a b a.length a.length o c) (hl : b.length ≤ a.length) : lv ak o + ak ^ a.length * c = lv ak a + lv ak b := by
 have hv := h.val
 rw [List.take_of_length_le (Nat.le_refl _), List.take_of_length_le hl] at hv
 exact hv
theorem NM {a b o : List Nat} {c : Nat} (h : BN a b a.length a.length o c) (hl : b.length ≤ a.length) (hla : ∀ h : a ≠ [], a.getLast h ≠ 0) :
  (c = 0 → aU ak (lv ak a + lv ak b) = o) ∧ (0 < c → aU ak (lv ak a + lv ak b) = o ++ [c]) := by
 have hd := h.done hl
 constructor
 ·
  intro h0
  subst h0
  rw [← hd, Nat.mul_zero, Nat.add_zero]
  refine Pj aO o h.o7 fun hne => ?_
  -- the greatest digit of o is not 0: o is at least a
  have hpos : 0 < a.length := by
   rcases Nat.eq_zero_or_pos a.length with h1 | h1
   · exact absurd (List.eq_nil_of_length_eq_zero (h.len.trans h1)) hne
   · exact h1
  have aeg : a ≠ [] := fun e => by rw [e] at hpos; simp at hpos
  intro hz
  have h2 : lv ak o < ak ^ (a.length - 1) := by
   have e1 : o = o.take (o.length - 1) ++ [0] := by
    conv => lhs; rw [← List.dropLast_concat_getLast hne, hz, List.dropLast_eq_take]
   have e2 : fQ ak (o.take (o.length - 1)) := h.o7.take _
   rw [e1, nZ]
   have := q_ e2
   rw [List.length_take, Nat.min_eq_left (by omega)] at this
   rw [h.len] at this ⊢
   exact this
  have h3 : ak ^ (a.length - 1) ≤ lv ak a := by
   have e1 : a = a.dropLast ++ [a.getLast aeg] := (List.dropLast_concat_getLast aeg).symm
   have h4 := hla aeg
   generalize a.getLast aeg = q at *
   rw [e1, jZ]
   have : a.dropLast.length = a.length - 1 := by simp
   rw [this]
   have e3 : lv ak [q] = q := by simp [lv]
   rw [e3]
   have := Nat.le_mul_of_pos_right (ak ^ (a.length - 1)) (show 0 < q by omega)
   simp only [List.length_append, List.length_dropLast, List.length_cons, List.length_nil]
   have e4 : a.length - 1 + (0 + 1) - 1 = a.length - 1 := by omega
   rw [e4]
   omega
  omega
 ·
  intro h0
  have hc : c = 1 := by have := h.Jp; omega
  subst hc
  have e : lv ak a + lv ak b = lv ak (o ++ [1]) := by rw [jZ, h.len, ← hd]; simp [lv]
  rw [e]
  exact Pj aO _ (h.o7.append (by intro d hd; simp at hd; rw [hd]; exact aO)) fun hne => by simp
def jS (w : World) (g : Nat) (k : IntKind) (e : TypeId) (ds : List Nat) : Prop := w.heap[g]? = some (.cells (ds.map (fun d : Nat => Value.int k (d : Int))).toArray e (0, 0))
theorem jS.own {w : World} {g : Nat} {k : IntKind} {e : TypeId} {ds : List Nat} (h : jS w g k e ds) : Own w g k e ds := ⟨[], by rw [List.append_nil]; exact h⟩
theorem jS.frozen {w : World} {g : Nat} {k : IntKind} {e : TypeId} {ds : List Nat} (h : jS w g k e ds) (j : Nat) : w.frozen? ⟨g, j, none⟩ = false := h.own.frozen j
theorem jS.cell {w : World} {g : Nat} {k : IntKind} {e : TypeId} {ds : List Nat} (h : jS w g k e ds) (j : Nat) (hj : j < ds.length) : ∃ q, w.cell? ⟨g, j, none⟩ = some (.int k q) := ⟨_, h.own.cell j hj⟩
theorem jS.store {w : World} {g : Nat} {k : IntKind} {e : TypeId} {ds : List Nat} (h : jS w g k e ds) (j x : Nat) : jS (w.setCell ⟨g, j, none⟩ (.int k x)) g k e (ds.set j x) := by
 unfold jS at *
 rw [heap_setCell_same w g j _ e _ h]
 simp [List.map_set]
theorem jS.Td {w : World} {g : Nat} {e : TypeId} {n : Nat} (h : w.heap[g]? = some (.cells (madeCells #[Value.int .u64 0] (n + 1)) e (0, 0))) : jS w g .u64 e (List.replicate n 0 ++ [0]) := by
 unfold jS
 rw [h]
 have e1 : (madeCells #[Value.int .u64 0] (n + 1)).toList = List.replicate (n + 1) (Value.int .u64 0) := toList_madeCells_one _ _
 have e2 : (List.replicate n 0 ++ [0]).map (fun d : Nat => Value.int .u64 (d : Int)) = List.replicate (n + 1) (Value.int .u64 0) := by
  rw [List.replicate_succ']
  simp
 rw [e2, ← e1]
theorem Own.init {w : World} {g : Nat} {k : IntKind} {e : TypeId} {a b : List Nat} (h : Own w g k e (a ++ b)) : Own w g k e a := by
 obtain ⟨tl, h⟩ := h
 refine ⟨b.map (fun d : Nat => Value.int k (d : Int)) ++ tl, ?_⟩
 rw [h]
 simp
theorem jS.ownsRow {w : World} {g : Nat} {k : IntKind} {e : TypeId} {o : List Nat} (h : jS w g k e (o ++ [0])) (n base : Nat) (hb : base ≤ g) (hn : o.length = n) (hm : n + 1 ≤ maxLen) :
  w.ownsRow base e 1 (.slice (some ⟨g, 0, none⟩) n (n + 1)) n (o.map (fun d : Nat => Value.int k (d : Int))) := by
 refine ⟨by simp [hn], .inr ⟨g, n + 1, _, rfl, hb, h, by omega, hm, by simp [hn], ?_⟩⟩
 simp [← hn]
theorem Ef {w : World} {base g n : Nat} {e : TypeId} {o : List Nat} {c : Nat} (hn : o.length = n) (h : w.ownsRow base e 1 (.slice (some ⟨g, 0, none⟩) (n + 1) (n + 1)) (n + 1) (o.map (fun d : Nat => Value.int .u64 (d : Int)) ++ [.int .u64 (c : Int)])) :
  aX .u64 w (.slice (some ⟨g, 0, none⟩) (n + 1) (n + 1)) (o ++ [c]) := by
 have hl : (o ++ [c]).length = n + 1 := by simp [hn]
 obtain ⟨ho, h1, h2, _⟩ := Own.uF (k := .u64) (ds := o ++ [c]) hl (by simpa using h)
 have := ho.sO (n + 1) (by omega) h2
 rw [hl] at this
 exact this
theorem zW (x c : Nat) (hc : c ≤ 1) (w : World) :
  (callFunc 80 #[.int .u64 x, .int .u64 0, .int .u64 c]).run Tryz.prog w = .ok (.value (.tuple #[.int .u64 (iF x 0 c : Nat), .int .u64 (fV x 0 c : Nat)])) w :=
 x_ x 0 c hc w
theorem KI (x c : Nat) (hc : c ≤ 1) (w : World) :
  (callFunc 91 #[.int .u64 x, .int .u64 0, .int .u64 c]).run Tryz.prog w = .ok (.value (.tuple #[.int .u64 (nR x 0 c : Nat), .int .u64 (pM x 0 c : Nat)])) w :=
 AX x 0 c hc w
theorem NL (m n : Nat) (va vb : Value) (w : World) (ha : bT .u64 ak w va m) (hb : bT .u64 ak w vb n) (hla : (aU ak m).length ≤ 1099511627776) (hlb : (aU ak n).length ≤ 1099511627776) :
  Calls Tryz.prog 55 #[va, vb] w (qh .u64 ak (m + n) w) := by
 obtain ⟨aa, ca, rfl, hA⟩ := aX.opened ha
 obtain ⟨ab, cb, rfl, hB⟩ := aX.opened hb
 have hdA := gy aO m
 have hdB := gy aO n
 have HLA := ae (Ee aO m)
 have Dt := ae (Ee aO n)
 have HVA : Hid (lv ak (aU ak m) + lv ak (aU ak n) = m + n) := by show _ = _; rw [iP aO, iP aO]
 have HVB : Hid (lv ak (aU ak n) + lv ak (aU ak m) = m + n) := by show _ = _; rw [iP aO, iP aO, Nat.add_comm]
 clear ha hb
 generalize aU ak m = dA at *
 generalize aU ak n = dB at *
 obtain ⟨i0, hi, hz0, hz1, hz2⟩ := info_parts oV
 by_cases hsw : dA.length < dB.length
 ·
  have tsw : decide (dA.length < dB.length) = true := decide_eq_true hsw
  go_enter Tryz.func55, Tryz.ntmps55
  go_wp2_with (at_make; refine tJ _ rfl _ _ 38 rfl w.heap.size 107 i0 (.int .u64 0) 1 Tryz.underlying38 hi hz0 hz1 _ _ _ _ dB.length (dB.length + 1) rfl rfl (by omega) (by omega) (by omega) (by rw [hz2]; omega) (by unfold maxLen; omega) (by omega) ?_)
  intro w1 hown hgrow
  have ho := jS.Td hown
  have hbel := (Below.refl w.heap.size w).grown hgrow (Nat.le_refl _) (by simp)
  clear hown hgrow
  go_wp2_with fail
  go_loopw [6, 25] (fun cv iv wr => ∃ (i : Nat) (o : List Nat) (c : Nat), i ≤ dB.length ∧ iv = .int .i64 i ∧ cv = .int .u64 c ∧ jS wr w.heap.size .u64 107 (o ++ [0]) ∧ Hid (BN dB dA dB.length i o c) ∧ Below w.heap.size w wr)
   (fun _ iv _ => dB.length - (intOf iv).toNat)
  case atStart => exact ⟨0, _, 0, Nat.zero_le _, rfl, rfl, ho, BN.start _ _ _, hbel⟩
  case round =>
   clear ho hbel
   obtain ⟨i, o, c, hil, rfl, rfl, ho, hM, hbel⟩ := hrel
   by_cases hlt : i < dB.length
   ·
    obtain ⟨b, off, rfl, ji, hcA⟩ := hB (by omega)
    have hca := (hbel.cell (p := ⟨b, off + i, none⟩) ji).trans (hcA i hlt)
    have hfo := ho.frozen i
    have hlo := hM.out.len
    obtain ⟨q0, hco⟩ := ho.cell i (by rw [List.length_append]; omega)
    have hst := ae (fun x y hx hy => hM.out.step hdB hdA hlt x y hx hy)
    have hlt' : (i : Int) < dB.length := by omega
    have hge' : (0 : Int) ≤ i := by omega
    have hset : ∀ v, (o ++ [0]).set i v = o.set i v ++ [0] := fun v => by rw [List.set_append_left _ _ (by omega)]
    have Xc := ae hset
    have hcar := hM.out.Jp
    clear hset hlo
    by_cases hlb : i < dA.length
    ·
     obtain ⟨b', off', rfl, hbB, hcB⟩ := hA (by omega)
     have hcb := (hbel.cell (p := ⟨b', off' + i, none⟩) hbB).trans (hcB i hlb)
     have amO : (i : Int) < dA.length := by omega
     have tb : decide (i < dA.length) = true := decide_eq_true hlb
     have HST := ae (hst.out _ _ rfl rfl)
     clear hst
     generalize dB.getD i 0 = x at *
     generalize dA.getD i 0 = y at *
     have hadd := x_ x y c hcar
     clear hcar
     go_wp2_with fail
     exact ⟨⟨i + 1, _, _, by omega, by go_num, rfl, by rw [← Xc.out]; exact ho.store i _, HST.out, hbel.setCell (p := ⟨w.heap.size, i, none⟩) (Nat.le_refl _) _⟩, bU hlt⟩
    ·
     have tb : decide (i < dA.length) = false := decide_eq_false hlb
     have HST := ae (hst.out _ 0 rfl (by simp [List.getElem?_eq_none (Nat.le_of_not_lt hlb)]))
     clear hst
     generalize dB.getD i 0 = x at *
     have hadd := zW x c hcar
     clear hcar
     go_wp2_with fail
     exact ⟨⟨i + 1, _, _, by omega, by go_num, rfl, by rw [← Xc.out]; exact ho.store i _, HST.out, hbel.setCell (p := ⟨w.heap.size, i, none⟩) (Nat.le_refl _) _⟩, bU hlt⟩
   ·
    obtain rfl : i = dB.length := by omega
    have hlen := ae hM.out.len
    have hpd := NM hM.out (by omega) Dt.out
    have hv : lv ak dB + lv ak dA = m + n := HVB.out
    rw [hv] at hpd
    have HP0 := ae hpd.1
    have HP1 := ae hpd.2
    clear hpd hv
    rcases Nat.eq_zero_or_pos c with hc | hc
    ·
     subst hc
     have HP := ae (HP0.out rfl)
     have hrow := (Own.init ho.own).sO (dB.length + 1) (by rw [hlen.out]; omega) (by unfold maxLen; omega)
     rw [hlen.out] at hrow
     have HR := ae hrow
     clear hrow
     go_wp2_with fail
     go_ret
     exact ⟨_, rfl, by show aX _ _ _ _; rw [HP.out]; exact HR.out, hbel⟩
    ·
     have tc : decide (0 < c) = true := decide_eq_true hc
     have HP := ae (HP1.out hc)
     have how := ho.ownsRow dB.length w.heap.size (Nat.le_refl _) hlen.out (by unfold maxLen; omega)
     have hx1 := hbel.alloc hbel.size (.cells #[.int .u64 (c : Int)] 107)
     have hcn := cell_one_new wr (.int .u64 (c : Int)) 107
     have HCN := ae hcn
     have HOW := ae (how.alloc (.cells #[.int .u64 (c : Int)] 107))
     clear how hcn hc ho
     go_wp2_with (at_builtin; refine wpList_append_fits _ rfl (.tmp 51) (.tmp 53) 38 rfl w.heap.size 107 i0 1 Tryz.underlying38 hi hz1 _ _ _ _ rfl HOW.out ⟨wr.heap.size, 0, none⟩ 1 1 [.int .u64 (c : Int)] rfl rfl HCN.out (by simp [Value.oneCell']) (by omega) ?_)
     intro w2 hown2 Zx
     have hb2 : Below w.heap.size w w2 := hx1.grown Zx hx1.size (by simp)
     have HR := ae (Ef hlen.out hown2)
     clear hown2 Zx hx1
     go_wp2_with fail
     go_ret
     exact ⟨_, rfl, by show aX _ _ _ _; rw [HP.out]; exact HR.out, hb2⟩
 ·
  have tsw : decide (dA.length < dB.length) = false := decide_eq_false hsw
  go_enter Tryz.func55, Tryz.ntmps55
  go_wp2_with (at_make; refine tJ _ rfl _ _ 38 rfl w.heap.size 107 i0 (.int .u64 0) 1 Tryz.underlying38 hi hz0 hz1 _ _ _ _ dA.length (dA.length + 1) rfl rfl (by omega) (by omega) (by omega) (by rw [hz2]; omega) (by unfold maxLen; omega) (by omega) ?_)
  intro w1 hown hgrow
  have ho := jS.Td hown
  have hbel := (Below.refl w.heap.size w).grown hgrow (Nat.le_refl _) (by simp)
  clear hown hgrow
  go_wp2_with fail
  go_loopw [6, 25] (fun cv iv wr => ∃ (i : Nat) (o : List Nat) (c : Nat), i ≤ dA.length ∧ iv = .int .i64 i ∧ cv = .int .u64 c ∧ jS wr w.heap.size .u64 107 (o ++ [0]) ∧ Hid (BN dA dB dA.length i o c) ∧ Below w.heap.size w wr)
   (fun _ iv _ => dA.length - (intOf iv).toNat)
  case atStart => exact ⟨0, _, 0, Nat.zero_le _, rfl, rfl, ho, BN.start _ _ _, hbel⟩
  case round =>
   clear ho hbel
   obtain ⟨i, o, c, hil, rfl, rfl, ho, hM, hbel⟩ := hrel
   by_cases hlt : i < dA.length
   ·
    obtain ⟨b, off, rfl, ji, hcA⟩ := hA (by omega)
    have hca := (hbel.cell (p := ⟨b, off + i, none⟩) ji).trans (hcA i hlt)
    have hfo := ho.frozen i
    have hlo := hM.out.len
    obtain ⟨q0, hco⟩ := ho.cell i (by rw [List.length_append]; omega)
    have hst := ae (fun x y hx hy => hM.out.step hdA hdB hlt x y hx hy)
    have hlt' : (i : Int) < dA.length := by omega
    have hge' : (0 : Int) ≤ i := by omega
    have hset : ∀ v, (o ++ [0]).set i v = o.set i v ++ [0] := fun v => by rw [List.set_append_left _ _ (by omega)]
    have Xc := ae hset
    have hcar := hM.out.Jp
    clear hset hlo
    by_cases hlb : i < dB.length
    ·
     obtain ⟨b', off', rfl, hbB, hcB⟩ := hB (by omega)
     have hcb := (hbel.cell (p := ⟨b', off' + i, none⟩) hbB).trans (hcB i hlb)
     have amO : (i : Int) < dB.length := by omega
     have tb : decide (i < dB.length) = true := decide_eq_true hlb
     have HST := ae (hst.out _ _ rfl rfl)
     clear hst
     generalize dA.getD i 0 = x at *
     generalize dB.getD i 0 = y at *
     have hadd := x_ x y c hcar
     clear hcar
     go_wp2_with fail
     exact ⟨⟨i + 1, _, _, by omega, by go_num, rfl, by rw [← Xc.out]; exact ho.store i _, HST.out, hbel.setCell (p := ⟨w.heap.size, i, none⟩) (Nat.le_refl _) _⟩, bU hlt⟩
    ·
     have tb : decide (i < dB.length) = false := decide_eq_false hlb
     have HST := ae (hst.out _ 0 rfl (by simp [List.getElem?_eq_none (Nat.le_of_not_lt hlb)]))
     clear hst
     generalize dA.getD i 0 = x at *
     have hadd := zW x c hcar
     clear hcar
     go_wp2_with fail
     exact ⟨⟨i + 1, _, _, by omega, by go_num, rfl, by rw [← Xc.out]; exact ho.store i _, HST.out, hbel.setCell (p := ⟨w.heap.size, i, none⟩) (Nat.le_refl _) _⟩, bU hlt⟩
   ·
    obtain rfl : i = dA.length := by omega
    have hlen := ae hM.out.len
    have hpd := NM hM.out (by omega) HLA.out
    have hv : lv ak dA + lv ak dB = m + n := HVA.out
    rw [hv] at hpd
    have HP0 := ae hpd.1
    have HP1 := ae hpd.2
    clear hpd hv
    rcases Nat.eq_zero_or_pos c with hc | hc
    ·
     subst hc
     have HP := ae (HP0.out rfl)
     have hrow := (Own.init ho.own).sO (dA.length + 1) (by rw [hlen.out]; omega) (by unfold maxLen; omega)
     rw [hlen.out] at hrow
     have HR := ae hrow
     clear hrow
     go_wp2_with fail
     go_ret
     exact ⟨_, rfl, by show aX _ _ _ _; rw [HP.out]; exact HR.out, hbel⟩
    ·
     have tc : decide (0 < c) = true := decide_eq_true hc
     have HP := ae (HP1.out hc)
     have how := ho.ownsRow dA.length w.heap.size (Nat.le_refl _) hlen.out (by unfold maxLen; omega)
     have hx1 := hbel.alloc hbel.size (.cells #[.int .u64 (c : Int)] 107)
     have hcn := cell_one_new wr (.int .u64 (c : Int)) 107
     have HCN := ae hcn
     have HOW := ae (how.alloc (.cells #[.int .u64 (c : Int)] 107))
     clear how hcn hc ho
     go_wp2_with (at_builtin; refine wpList_append_fits _ rfl (.tmp 51) (.tmp 53) 38 rfl w.heap.size 107 i0 1 Tryz.underlying38 hi hz1 _ _ _ _ rfl HOW.out ⟨wr.heap.size, 0, none⟩ 1 1 [.int .u64 (c : Int)] rfl rfl HCN.out (by simp [Value.oneCell']) (by omega) ?_)
     intro w2 hown2 Zx
     have hb2 : Below w.heap.size w w2 := hx1.grown Zx hx1.size (by simp)
     have HR := ae (Ef hlen.out hown2)
     clear hown2 Zx hx1
     go_wp2_with fail
     go_ret
     exact ⟨_, rfl, by show aX _ _ _ _; rw [HP.out]; exact HR.out, hb2⟩
structure I7 (a b : List Nat) (n i : Nat) (o : List Nat) (c : Nat) : Prop where
 len : o.length = n
 o7 : fQ ak o
 Jp : c ≤ 1
 val : lv ak o + lv ak (b.take i) = lv ak (a.take i) + ak ^ i * c
 top : ∀ j, i ≤ j → o.getD j 0 = 0
theorem I7.start (a b : List Nat) (n : Nat) : I7 a b n 0 (List.replicate n 0) 0 :=
 ⟨by simp, fQ.replicate bD _, by omega, by simp [iD, lv], fun j _ => by simp [List.getElem?_replicate]; split <;> rfl⟩
theorem Oo (x y c : Nat) (hx : x < ak) (hy : y < ak) (hc : c ≤ 1) : nR x y c + y + c = x + ak * pM x y c := by
 unfold nR pM
 by_cases h : x < y + c
 · rw [if_pos h, Nat.mod_eq_of_lt (by omega)]; omega
 ·
  rw [if_neg h]
  have e : ak + x - y - c = (x - y - c) + ak := by omega
  rw [e, Nat.add_mod_right, Nat.mod_eq_of_lt (by omega)]
  omega
theorem I7.step {a b : List Nat} {n i : Nat} {o : List Nat} {c : Nat} (h : I7 a b n i o c) (ha : fQ ak a) (hb : fQ ak b) (hi : i < n) (x y : Nat) (hx : x = a.getD i 0) (hy : y = b.getD i 0) :
  I7 a b n (i + 1) (o.set i (nR x y c)) (pM x y c) := by
 have hxl := ha.getD bD i
 have hyl := hb.getD bD i
 rw [← hx] at hxl
 rw [← hy] at hyl
 refine ⟨by simpa using h.len, h.o7.set _ _ (Om _ _ _), Ol _ _ _, ?_, fun j hj => ?_⟩
 ·
  have h1 := og ak o i (nR x y c) (by rw [h.len]; exact hi)
  rw [h.top i (Nat.le_refl _)] at h1
  have h2 := h.val
  rw [rF, rF, Nat.pow_succ, ← hx, ← hy]
  have e4 := Oo x y c hxl hyl h.Jp
  have e5 : ak ^ i * (nR x y c + y + c) = ak ^ i * (x + ak * pM x y c) := by rw [e4]
  rw [Nat.mul_assoc]
  simp only [Nat.mul_add] at e5
  omega
 ·
  have := h.top j (by omega)
  rw [List.getD_eq_getElem?_getD] at *
  rw [List.getElem?_set_ne (by omega)]
  exact this
theorem I7.done {a b o : List Nat} {c : Nat} (h : I7 a b a.length a.length o c) (hl : b.length ≤ a.length) (hle : lv ak b ≤ lv ak a) : lv ak o = lv ak a - lv ak b := by
 have hv := h.val
 rw [List.take_of_length_le (Nat.le_refl _), List.take_of_length_le hl] at hv
 rcases Nat.eq_zero_or_pos c with h0 | h0
 · subst h0; omega
 ·
  have hc : c = 1 := by have := h.Jp; omega
  subst hc
  have := q_ h.o7
  rw [h.len] at this
  omega
theorem Ir (m n : Nat) (va vb : Value) (w : World) (ha : bT .u64 ak w va m) (hb : bT .u64 ak w vb n) (hle : n ≤ m) (hla : (aU ak m).length ≤ 1099511627776) :
  Calls Tryz.prog 68 #[va, vb] w (qh .u64 ak (m - n) w) := by
 obtain ⟨aa, ca, rfl, hA⟩ := aX.opened ha
 obtain ⟨ab, cb, rfl, hB⟩ := aX.opened hb
 have hdA := gy aO m
 have hdB := gy aO n
 have hlen := aZ aO hle
 have Hva := ae (iP aO m)
 have Hvb := ae (iP aO n)
 clear ha hb
 generalize aU ak m = dA at *
 generalize aU ak n = dB at *
 obtain ⟨i0, hi, hz0, hz1, hz2⟩ := info_parts oV
 go_enter Tryz.func68, Tryz.ntmps68
 go_wp2_with (at_make; refine wpList_make_full _ rfl _ _ 38 rfl w.heap.size 107 i0 (.int .u64 0) 1 Tryz.underlying38 hi hz0 hz1 _ _ _ _ dA.length rfl rfl (by omega) (by omega) (by rw [hz2]; omega) (by unfold maxLen; omega) (by omega) ?_)
 intro w1 hown hgrow
 have ho := Own.uD hown
 have hbel := (Below.refl w.heap.size w).grown hgrow (Nat.le_refl _) (by simp)
 clear hown hgrow hi hz0 hz1 hz2
 go_wp2_with fail
 go_loopw [6, 15] (fun cv iv wr => ∃ (i : Nat) (o : List Nat) (c : Nat), i ≤ dA.length ∧ iv = .int .i64 i ∧ cv = .int .u64 c ∧ Own wr w.heap.size .u64 107 o ∧ Hid (I7 dA dB dA.length i o c) ∧ Below w.heap.size w wr)
  (fun _ iv _ => dA.length - (intOf iv).toNat)
 case atStart => exact ⟨0, _, 0, Nat.zero_le _, rfl, rfl, ho, I7.start _ _ _, hbel⟩
 case round =>
  clear ho hbel
  obtain ⟨i, o, c, hil, rfl, rfl, ho, hM, hbel⟩ := hrel
  by_cases hlt : i < dA.length
  ·
   obtain ⟨b, off, rfl, ji, hcA⟩ := hA (by omega)
   have hca := (hbel.cell (p := ⟨b, off + i, none⟩) ji).trans (hcA i hlt)
   have hfo := ho.frozen i
   have hco := ho.cell i (by rw [hM.out.len]; omega)
   have hst := ae (fun x y hx hy => hM.out.step hdA hdB hlt x y hx hy)
   have hlt' : (i : Int) < dA.length := by omega
   have hge' : (0 : Int) ≤ i := by omega
   have hcar := hM.out.Jp
   generalize o.getD i 0 = q0 at *
   by_cases hlb : i < dB.length
   ·
    obtain ⟨b', off', rfl, hbB, hcB⟩ := hB (by omega)
    have hcb := (hbel.cell (p := ⟨b', off' + i, none⟩) hbB).trans (hcB i hlb)
    have amO : (i : Int) < dB.length := by omega
    have tb : decide (i < dB.length) = true := decide_eq_true hlb
    have HST := ae (hst.out _ _ rfl rfl)
    clear hst
    generalize dA.getD i 0 = x at *
    generalize dB.getD i 0 = y at *
    have hsub := AX x y c hcar
    clear hcar
    go_wp2_with fail
    exact ⟨⟨i + 1, _, _, by omega, by go_num, rfl, ho.store i _, HST.out, hbel.setCell (p := ⟨w.heap.size, i, none⟩) (Nat.le_refl _) _⟩, bU hlt⟩
   ·
    have tb : decide (i < dB.length) = false := decide_eq_false hlb
    have HST := ae (hst.out _ 0 rfl (by simp [List.getElem?_eq_none (Nat.le_of_not_lt hlb)]))
    clear hst
    generalize dA.getD i 0 = x at *
    have hsub := KI x c hcar
    clear hcar
    go_wp2_with fail
    exact ⟨⟨i + 1, _, _, by omega, by go_num, rfl, ho.store i _, HST.out, hbel.setCell (p := ⟨w.heap.size, i, none⟩) (Nat.le_refl _) _⟩, bU hlt⟩
  ·
   obtain rfl : i = dA.length := by omega
   have hl := hM.out.len
   have hrow := ho.isRow (by rw [hl]; unfold maxLen; omega)
   rw [hl] at hrow
   have HR := ae hrow
   have HD := ae hM.out.o7
   have HV := ae (hM.out.done hlen (by rw [Hva.out, Hvb.out]; exact hle))
   clear hl hrow ho
   go_wp2_with fail
   refine (oK o _ _ HR.out HD.out).mono ?_
   rintro e w' ⟨v, rfl, hv, rfl⟩
   go_wp2_with fail
   go_ret
   exact ⟨v, rfl, by rw [← Hva.out, ← Hvb.out, ← HV.out]; exact hv, hbel⟩
theorem aA.stored {w : World} {B : Nat} {neg : Bool} {x1 y1 : Option Addr} {i1 j1 k1 l1 n : Nat} {q : Rat}
  (hB : RB w B) (h1 : bT .u64 ak w (.slice x1 i1 j1) n) (h2 : bT .u64 ak w (.slice y1 k1 l1) (dn q.den))
  (hn : decide (q.num < 0) = neg) (hm : q.num.natAbs = n) :
  aA (((w.setCell ⟨B, 0, none⟩ (.bool neg)).setCell ⟨B, 1, none⟩ (.slice x1 i1 j1)).setCell ⟨B, 2, none⟩ (.slice y1 k1 l1)) (.agg #[.bool neg, .slice x1 i1 j1, .slice y1 k1 l1]) q := by
 subst hn hm
 obtain ⟨b, x, i, j, y, k, l, T, hB⟩ := hB
 exact ⟨_, _, rfl, nD hB h1, nD hB h2⟩
theorem lS (x y : Rat) (vx vy : Value) (w : World) (hx : aA w vx x) (hy : aA w vy y) (hlx : bQ x 68719476736) (CW : bQ y 68719476736) : Calls Tryz.prog 33 #[vx, vy] w (dW (x + y) w) := by
 obtain ⟨a1, c1, a2, c2, rfl, n1, n2⟩ := hx.opened
 obtain ⟨a3, c3, a4, c4, rfl, n3, n4⟩ := hy.opened
 have N1 := ae n1
 have N2 := ae n2
 have N3 := ae n3
 have N4 := ae n4
 have He := ae (SX x y)
 have hA := dJ aO x.num.natAbs y.den
 have hB := dJ aO y.num.natAbs x.den
 have hC := dJ aO x.den y.den
 have HA : Hid ((aU ak (x.num.natAbs * y.den)).length ≤ 137438953472) := by have := hlx.1; have := CW.2; show _ ≤ _; omega
 have IX : Hid ((aU ak (y.num.natAbs * x.den)).length ≤ 137438953472) := by have := hlx.2; have := CW.1; show _ ≤ _; omega
 have HC : Hid ((aU ak (x.den * y.den)).length ≤ 137438953472) := by have := hlx.2; have := CW.2; show _ ≤ _; omega
 have hS := qI aO (x.num.natAbs * y.den) (y.num.natAbs * x.den) 137438953472 HA.out IX.out
 have HS := ae hS
 have HP := ae (Nat.mul_pos x.den_pos y.den_pos)
 have I4 := ae hlx
 have I5 := ae CW
 clear hx hy n1 n2 n3 n4 hlx CW hA hB hC hS
 go_enter Tryz.func33, Tryz.ntmps33
 go_wp2_with fail
 generalize hsx : decide (x.num < 0) = sx at *
 generalize hsy : decide (y.num < 0) = sy at *
 clear hsx hsy
 generalize hW0 : ((w.alloc (.cells #[.bool sx, .slice a1 (aU ak x.num.natAbs).length c1, .slice a2 (aU ak (dn x.den)).length c2] 40)).alloc (.cells #[.bool sy, .slice a3 (aU ak y.num.natAbs).length c3, .slice a4 (aU ak (dn y.den)).length c4] 40)).alloc (.cells #[.bool false, .slice none 0 0, .slice none 0 0] 40) = W at *
 obtain ⟨hal, hB1, hB2, hB3⟩ := Jl w _ _ _ _ W hW0.symm
 clear hW0
 have hW : Below w.heap.size w W.drew := hal.drew
 have p0 := af hB1 0 (.bool sx) rfl
 have p1 := af hB1 1 (.slice a1 (aU ak x.num.natAbs).length c1) rfl
 have p2 := af hB1 2 (.slice a2 (aU ak (dn x.den)).length c2) rfl
 have r0 := af hB2 0 (.bool sy) rfl
 have r1 := af hB2 1 (.slice a3 (aU ak y.num.natAbs).length c3) rfl
 have r2 := af hB2 2 (.slice a4 (aU ak (dn y.den)).length c4) rfl
 have HB : Hid (RB W (w.heap.size + 2)) := ⟨false, none, 0, 0, none, 0, 0, _, hB3⟩
 have hl3 := ai hB3
 clear hB1 hB2 hB3
 go_region_held3 (fun w' => Below w.heap.size w w' ∧ RB w' (w.heap.size + 2) ∧ w'.cell? ⟨w.heap.size, 0, none⟩ = some (.bool sx) ∧ w'.cell? ⟨w.heap.size, 1, none⟩ = some (.slice a1 (aU ak x.num.natAbs).length c1) ∧ w'.cell? ⟨w.heap.size, 2, none⟩ = some (.slice a2 (aU ak (dn x.den)).length c2) ∧ w'.cell? ⟨w.heap.size + 1, 0, none⟩ = some (.bool sy) ∧ w'.cell? ⟨w.heap.size + 1, 1, none⟩ = some (.slice a3 (aU ak y.num.natAbs).length c3) ∧ w'.cell? ⟨w.heap.size + 1, 2, none⟩ = some (.slice a4 (aU ak (dn y.den)).length c4) ∧ w'.cell? ⟨w.heap.size + 2, 0, none⟩ = some (cellOf w' ⟨w.heap.size + 2, 0, none⟩) ∧ w'.cell? ⟨w.heap.size + 2, 1, none⟩ = some (cellOf w' ⟨w.heap.size + 2, 1, none⟩) ∧ w'.cell? ⟨w.heap.size + 2, 2, none⟩ = some (cellOf w' ⟨w.heap.size + 2, 2, none⟩) ∧ w'.frozen? ⟨w.heap.size + 2, 0, none⟩ = false ∧ w'.frozen? ⟨w.heap.size + 2, 1, none⟩ = false ∧ w'.frozen? ⟨w.heap.size + 2, 2, none⟩ = false)
  (first | exact yI hW p0 p1 p2 r0 r1 r2 HB.out | exact dP (Nat.le_refl _) hbB (by assumption) | exact dP (Nat.le_refl _) ji (by assumption))
  (first
   | (go_at_call_of 54 (Value.slice a2 (aU ak (dn x.den)).length c2); (with_reducible refine (lh x.den _ _ (N2.out.below (And.left (by assumption))) x.den_pos).mono ?_); rintro e wA ⟨vA, rfl, hvA, ji⟩)
   | (go_at_call_of 54 (Value.slice a4 (aU ak (dn y.den)).length c4); (with_reducible refine (lh y.den _ _ (N4.out.below (And.left (by assumption))) y.den_pos).mono ?_); rintro e wB ⟨vB, rfl, hvB, hbB⟩))
 rename_i hS1
 have hD := ax ji hbB
 have HB1 : Hid (RB wB (w.heap.size + 2)) := RB.keep (a := W.drew) HB.out hD hl3
 have amM := HB1.out.lt
 have hXA := ae (hvA.below hbB)
 have hXB := ae hvB
 obtain ⟨hWB, -, p0', p1', p2', r0', r1', r2', -⟩ := hS1
 clear p0 p1 p2 r0 r1 r2
 replace p0 := p0'
 replace p1 := p1'
 replace p2 := p2'
 replace r0 := r0'
 replace r1 := r1'
 replace r2 := r2'
 clear p0' p1' p2' r0' r1' r2'
 have al8 : Below w.heap.size w wB.drew := hWB.drew
 clear ji hbB hvA hvB hD HB hW hal hl3
 go_wp2_with fail
 go_region_held3 (fun w' => Below w.heap.size w w' ∧ RB w' (w.heap.size + 2) ∧ w'.cell? ⟨w.heap.size, 0, none⟩ = some (.bool sx) ∧ w'.cell? ⟨w.heap.size, 1, none⟩ = some (.slice a1 (aU ak x.num.natAbs).length c1) ∧ w'.cell? ⟨w.heap.size, 2, none⟩ = some (.slice a2 (aU ak (dn x.den)).length c2) ∧ w'.cell? ⟨w.heap.size + 1, 0, none⟩ = some (.bool sy) ∧ w'.cell? ⟨w.heap.size + 1, 1, none⟩ = some (.slice a3 (aU ak y.num.natAbs).length c3) ∧ w'.cell? ⟨w.heap.size + 1, 2, none⟩ = some (.slice a4 (aU ak (dn y.den)).length c4) ∧ w'.cell? ⟨w.heap.size + 2, 0, none⟩ = some (cellOf w' ⟨w.heap.size + 2, 0, none⟩) ∧ w'.cell? ⟨w.heap.size + 2, 1, none⟩ = some (cellOf w' ⟨w.heap.size + 2, 1, none⟩) ∧ w'.cell? ⟨w.heap.size + 2, 2, none⟩ = some (cellOf w' ⟨w.heap.size + 2, 2, none⟩) ∧ w'.frozen? ⟨w.heap.size + 2, 0, none⟩ = false ∧ w'.frozen? ⟨w.heap.size + 2, 1, none⟩ = false ∧ w'.frozen? ⟨w.heap.size + 2, 2, none⟩ = false)
  (first | exact yI al8 p0 p1 p2 r0 r1 r2 HB1.out | exact dP (Nat.le_refl _) hbD (by assumption) | exact dP (Nat.le_refl _) hbC (by assumption))
  (first
   | (go_at_call_of 66 (Value.slice a1 (aU ak x.num.natAbs).length c1); refine (times_any x.num.natAbs y.den _ _ _ (N1.out.below (And.left (by assumption))) (hXB.out.below (Below.refl _ _).drew) (by have := I4.out.1; have := I5.out.2; omega)).mono ?_; rintro e wC ⟨vC, rfl, CX, hbC⟩)
   | (go_at_call_of 66 (Value.slice a3 (aU ak y.num.natAbs).length c3); refine (times_any y.num.natAbs x.den _ _ _ (N3.out.below (And.left (by assumption))) ((hXA.out.below (Below.refl _ _).drew).below hbC) (by have := I4.out.2; have := I5.out.1; omega)).mono ?_; rintro e wD ⟨vD, rfl, EM, hbD⟩))
 rename_i hS1
 have hD : Below wB.heap.size wB wD := ax (Below.refl _ _).drew (ax hbC hbD)
 have HB2 : Hid (RB wD (w.heap.size + 2)) := RB.keep HB1.out hD amM
 have MP := HB2.out.lt
 have hB3 := ae (CX.below hbD)
 have hD3 := ae EM
 have al9 := ae (hXA.out.below hD)
 have al' := ae (hXB.out.below hD)
 obtain ⟨hWD, -, p0', p1', p2', r0', r1', r2', -⟩ := hS1
 clear p0 p1 p2 r0 r1 r2
 replace p0 := p0'
 replace p1 := p1'
 replace p2 := p2'
 replace r0 := r0'
 replace r1 := r1'
 replace r2 := r2'
 clear p0' p1' p2' r0' r1' r2'
 clear hbC hbD CX EM hD HB1 hXA hXB hWB al8 amM
 go_wp2_with fail
 refine (times_any x.den y.den _ _ _ al9.out al'.out (by have := I4.out.2; have := I5.out.2; omega)).mono ?_
 rintro e W2 ⟨vC, rfl, CX, Ag⟩
 have VF := ae CX
 have OD := ae (hB3.out.below Ag)
 have Hu := ae (hD3.out.below Ag)
 have HB3 : Hid (RB W2 (w.heap.size + 2)) := RB.keep HB2.out Ag MP
 have e6 := dP (Nat.le_refl _) Ag (yI hWD p0 p1 p2 r0 r1 r2 HB2.out)
 obtain ⟨hW2, -, p0', p1', p2', r0', r1', r2', -⟩ := e6
 clear p0 p1 p2 r0 r1 r2 Ag HB2 hB3 hD3 al9 al' CX hWD MP
 replace p0 := p0'
 replace p1 := p1'
 replace p2 := p2'
 replace r0 := r0'
 replace r1 := r1'
 replace r2 := r2'
 clear p0' p1' p2' r0' r1' r2'
 have HB2 := HB3
 have MP := HB2.out.lt
 clear HB3
 generalize x.num.natAbs * y.den = A at *
 generalize y.num.natAbs * x.den = B at *
 generalize x.den * y.den = C at *
 by_cases hs : (sx == sy) = true
 ·
  have Hs := ae hs
  go_wp2_with fail
  have Zb : Below w.heap.size w W2.drew := hW2.drew
  go_region_held3 (fun w' => Below w.heap.size w w' ∧ RB w' (w.heap.size + 2) ∧ w'.cell? ⟨w.heap.size, 0, none⟩ = some (.bool sx) ∧ w'.cell? ⟨w.heap.size, 1, none⟩ = some (.slice a1 (aU ak x.num.natAbs).length c1) ∧ w'.cell? ⟨w.heap.size, 2, none⟩ = some (.slice a2 (aU ak (dn x.den)).length c2) ∧ w'.cell? ⟨w.heap.size + 1, 0, none⟩ = some (.bool sy) ∧ w'.cell? ⟨w.heap.size + 1, 1, none⟩ = some (.slice a3 (aU ak y.num.natAbs).length c3) ∧ w'.cell? ⟨w.heap.size + 1, 2, none⟩ = some (.slice a4 (aU ak (dn y.den)).length c4) ∧ w'.cell? ⟨w.heap.size + 2, 0, none⟩ = some (cellOf w' ⟨w.heap.size + 2, 0, none⟩) ∧ w'.cell? ⟨w.heap.size + 2, 1, none⟩ = some (cellOf w' ⟨w.heap.size + 2, 1, none⟩) ∧ w'.cell? ⟨w.heap.size + 2, 2, none⟩ = some (cellOf w' ⟨w.heap.size + 2, 2, none⟩) ∧ w'.frozen? ⟨w.heap.size + 2, 0, none⟩ = false ∧ w'.frozen? ⟨w.heap.size + 2, 1, none⟩ = false ∧ w'.frozen? ⟨w.heap.size + 2, 2, none⟩ = false)
   (first | exact yI Zb p0 p1 p2 r0 r1 r2 HB2.out | exact dP (Nat.le_refl _) Aw (by assumption) | exact dP (Nat.le_refl _) hbD (by assumption) | exact oU _ _ _ _ _ _ _ (by omega) (by omega) (by omega) (by assumption) _ rfl)
   (first
    | (go_at_call 55; (refine (NL A B _ _ _ (OD.out.below (Below.refl _ _).drew) (Hu.out.below (Below.refl _ _).drew) (by have := HA.out; omega) (by have := IX.out; omega)).mono ?_); rintro e wD' ⟨vE, rfl, hvE, hbD⟩)
    | (go_at_call 27; (refine (jR _ (A + B) C _ _ _ hvE (VF.out.below (ax (show Below W2.heap.size W2 W2.drew from (Below.refl _ _).drew) hbD)) HP.out (by have := HA.out; have := IX.out; have := HS.out; omega) (by have := HC.out; omega)).mono ?_); rintro e wE ⟨vF, rfl, UU, Aw⟩; obtain ⟨a5, c5, a6, c6, rfl, n5, n6⟩ := aA.opened UU))
  have hE := ax hbD Aw
  have yU := RB.keep (a := W2.drew) HB2.out hE MP
  obtain ⟨g0, g1, g2, f0', f1', f2'⟩ := yU.cell
  have hx := Zb.trans (hE.mono Zb.size)
  have hBl := yU.lt
  have He' := He.out sx (A + B) (by have e : sx = sy := (by simpa using Hs.out); rw [← e]; exact akt sx A B)
  generalize pK sx (A + B) C = q at *
  subst He'
  go_wp2_with fail
  refine bodyPost_ret (v := .agg #[.bool (decide ((x + y).num < 0)), .slice a5 (aU ak (x + y).num.natAbs).length _, .slice a6 (aU ak (dn (x + y).den)).length _]) (by simp [results, Tryz.results33, go_sem, g0, g1, g2]; first | done | exact ⟨rfl, rfl⟩ | rfl) rfl ⟨_, rfl, ?_, dm hx (by omega)⟩
  exact aA.stored yU n5 n6 rfl rfl
 ·
  have hs' : (sx == sy) = false := by simpa using hs
  have Hs := ae hs'
  clear hs
  go_wp2_with fail
  refine (xO A B _ _ W2 OD.out Hu.out).mono ?_
  rintro e w' ⟨rfl, nq, rfl⟩
  have hWn : Below w.heap.size w (W2.drewN nq) := sF hW2 nq
  have HC4 := ae (VF.out.below (sF (Below.refl W2.heap.size W2) nq))
  have HN3 := ae (OD.out.below (sF (Below.refl W2.heap.size W2) nq))
  have HN4 := ae (Hu.out.below (sF (Below.refl W2.heap.size W2) nq))
  have HB4 : Hid (RB (W2.drewN nq) (w.heap.size + 2)) := HB2.out
  have amN := HB4.out.lt
  clear HB2 OD Hu VF hW2 MP
  have q0 : (W2.drewN nq).cell? ⟨w.heap.size, 0, none⟩ = _ := p0
  have q1 : (W2.drewN nq).cell? ⟨w.heap.size, 1, none⟩ = _ := p1
  have q2 : (W2.drewN nq).cell? ⟨w.heap.size, 2, none⟩ = _ := p2
  have q3 : (W2.drewN nq).cell? ⟨w.heap.size + 1, 0, none⟩ = _ := r0
  have q4 : (W2.drewN nq).cell? ⟨w.heap.size + 1, 1, none⟩ = _ := r1
  have q5 : (W2.drewN nq).cell? ⟨w.heap.size + 1, 2, none⟩ = _ := r2
  clear p0 p1 p2 r0 r1 r2
  have p0 := q0
  have p1 := q1
  have p2 := q2
  have r0 := q3
  have r1 := q4
  have r2 := q5
  clear q0 q1 q2 q3 q4 q5
  generalize W2.drewN nq = W3 at *
  have VF := HC4
  have OD := HN3
  have Hu := HN4
  have HB2 := HB4
  have MP := amN
  have hW2 := hWn
  clear HC4 HN3 HN4 HB4 amN hWn
  have hWW : W3 = W3 := rfl
  clear hWW
  by_cases hge : B ≤ A
  ·
   have hc := adU hge
   generalize jw A B = c at *
   have Hge := ae hge
   clear hge
   go_wp2_with fail
   have Zb : Below w.heap.size w W3.drew := hW2.drew
   go_region_held3 (fun w' => Below w.heap.size w w' ∧ RB w' (w.heap.size + 2) ∧ w'.cell? ⟨w.heap.size, 0, none⟩ = some (.bool sx) ∧ w'.cell? ⟨w.heap.size, 1, none⟩ = some (.slice a1 (aU ak x.num.natAbs).length c1) ∧ w'.cell? ⟨w.heap.size, 2, none⟩ = some (.slice a2 (aU ak (dn x.den)).length c2) ∧ w'.cell? ⟨w.heap.size + 1, 0, none⟩ = some (.bool sy) ∧ w'.cell? ⟨w.heap.size + 1, 1, none⟩ = some (.slice a3 (aU ak y.num.natAbs).length c3) ∧ w'.cell? ⟨w.heap.size + 1, 2, none⟩ = some (.slice a4 (aU ak (dn y.den)).length c4) ∧ w'.cell? ⟨w.heap.size + 2, 0, none⟩ = some (cellOf w' ⟨w.heap.size + 2, 0, none⟩) ∧ w'.cell? ⟨w.heap.size + 2, 1, none⟩ = some (cellOf w' ⟨w.heap.size + 2, 1, none⟩) ∧ w'.cell? ⟨w.heap.size + 2, 2, none⟩ = some (cellOf w' ⟨w.heap.size + 2, 2, none⟩) ∧ w'.frozen? ⟨w.heap.size + 2, 0, none⟩ = false ∧ w'.frozen? ⟨w.heap.size + 2, 1, none⟩ = false ∧ w'.frozen? ⟨w.heap.size + 2, 2, none⟩ = false)
    (first | exact yI Zb p0 p1 p2 r0 r1 r2 HB2.out | exact dP (Nat.le_refl _) Aw (by assumption) | exact dP (Nat.le_refl _) hbD (by assumption) | exact oU _ _ _ _ _ _ _ (by omega) (by omega) (by omega) (by assumption) _ rfl)
    (first
     | (go_at_call 68; (refine (Ir A B _ _ _ (OD.out.below (Below.refl _ _).drew) (Hu.out.below (Below.refl _ _).drew) Hge.out (by have := HA.out; omega)).mono ?_); rintro e wD' ⟨vE, rfl, hvE, hbD⟩)
     | (go_at_call 27; (refine (jR _ (A - B) C _ _ _ hvE (VF.out.below (ax (show Below W3.heap.size W3 W3.drew from (Below.refl _ _).drew) hbD)) HP.out (by have := HA.out; exact Nat.le_trans (aZ aO (Nat.sub_le _ _)) (by omega)) (by have := HC.out; omega)).mono ?_); rintro e wE ⟨vF, rfl, UU, Aw⟩; obtain ⟨a5, c5, a6, c6, rfl, n5, n6⟩ := aA.opened UU))
   have hE := ax hbD Aw
   have yU := RB.keep (a := W3.drew) HB2.out hE MP
   obtain ⟨g0, g1, g2, f0', f1', f2'⟩ := yU.cell
   have hx := Zb.trans (hE.mono Zb.size)
   have hBl := yU.lt
   have He' := He.out sx (A - B) (aca Hs.out Hge.out)
   generalize pK sx (A - B) C = q at *
   subst He'
   go_wp2_with fail
   refine bodyPost_ret (v := .agg #[.bool (decide ((x + y).num < 0)), .slice a5 (aU ak (x + y).num.natAbs).length _, .slice a6 (aU ak (dn (x + y).den)).length _]) (by simp [results, Tryz.results33, go_sem, g0, g1, g2]; first | done | exact ⟨rfl, rfl⟩ | rfl) rfl ⟨_, rfl, ?_, dm hx (by omega)⟩
   exact aA.stored yU n5 n6 rfl rfl
  ·
   have hc := YM hge
   generalize jw A B = c at *
   have Hge : Hid (A ≤ B) := Nat.le_of_lt (Nat.lt_of_not_le hge)
   clear hge
   go_wp2_with fail
   have Zb : Below w.heap.size w W3.drew := hW2.drew
   go_region_held3 (fun w' => Below w.heap.size w w' ∧ RB w' (w.heap.size + 2) ∧ w'.cell? ⟨w.heap.size, 0, none⟩ = some (.bool sx) ∧ w'.cell? ⟨w.heap.size, 1, none⟩ = some (.slice a1 (aU ak x.num.natAbs).length c1) ∧ w'.cell? ⟨w.heap.size, 2, none⟩ = some (.slice a2 (aU ak (dn x.den)).length c2) ∧ w'.cell? ⟨w.heap.size + 1, 0, none⟩ = some (.bool sy) ∧ w'.cell? ⟨w.heap.size + 1, 1, none⟩ = some (.slice a3 (aU ak y.num.natAbs).length c3) ∧ w'.cell? ⟨w.heap.size + 1, 2, none⟩ = some (.slice a4 (aU ak (dn y.den)).length c4) ∧ w'.cell? ⟨w.heap.size + 2, 0, none⟩ = some (cellOf w' ⟨w.heap.size + 2, 0, none⟩) ∧ w'.cell? ⟨w.heap.size + 2, 1, none⟩ = some (cellOf w' ⟨w.heap.size + 2, 1, none⟩) ∧ w'.cell? ⟨w.heap.size + 2, 2, none⟩ = some (cellOf w' ⟨w.heap.size + 2, 2, none⟩) ∧ w'.frozen? ⟨w.heap.size + 2, 0, none⟩ = false ∧ w'.frozen? ⟨w.heap.size + 2, 1, none⟩ = false ∧ w'.frozen? ⟨w.heap.size + 2, 2, none⟩ = false)
    (first | exact yI Zb p0 p1 p2 r0 r1 r2 HB2.out | exact dP (Nat.le_refl _) Aw (by assumption) | exact dP (Nat.le_refl _) hbD (by assumption) | exact oU _ _ _ _ _ _ _ (by omega) (by omega) (by omega) (by assumption) _ rfl)
    (first
     | (go_at_call 68; (refine (Ir B A _ _ _ (Hu.out.below (Below.refl _ _).drew) (OD.out.below (Below.refl _ _).drew) Hge.out (by have := IX.out; omega)).mono ?_); rintro e wD' ⟨vE, rfl, hvE, hbD⟩)
     | (go_at_call 27; (refine (jR _ (B - A) C _ _ _ hvE (VF.out.below (ax (show Below W3.heap.size W3 W3.drew from (Below.refl _ _).drew) hbD)) HP.out (by have := IX.out; exact Nat.le_trans (aZ aO (Nat.sub_le _ _)) (by omega)) (by have := HC.out; omega)).mono ?_); rintro e wE ⟨vF, rfl, UU, Aw⟩; obtain ⟨a5, c5, a6, c6, rfl, n5, n6⟩ := aA.opened UU))
   have hE := ax hbD Aw
   have yU := RB.keep (a := W3.drew) HB2.out hE MP
   obtain ⟨g0, g1, g2, f0', f1', f2'⟩ := yU.cell
   have hx := Zb.trans (hE.mono Zb.size)
   have hBl := yU.lt
   have He' := He.out sy (B - A) (by rw [Int.add_comm]; exact aca (by have := Hs.out; cases sx <;> cases sy <;> simp_all) Hge.out)
   generalize pK sy (B - A) C = q at *
   subst He'
   go_wp2_with fail
   refine bodyPost_ret (v := .agg #[.bool (decide ((x + y).num < 0)), .slice a5 (aU ak (x + y).num.natAbs).length _, .slice a6 (aU ak (dn (x + y).den)).length _]) (by simp [results, Tryz.results33, go_sem, g0, g1, g2]; first | done | exact ⟨rfl, rfl⟩ | rfl) rfl ⟨_, rfl, ?_, dm hx (by omega)⟩
   exact aA.stored yU n5 n6 rfl rfl
theorem kQ (x y : Rat) (vx vy : Value) (w : World) (hx : aA w vx x) (hy : aA w vy y) (hlx : bQ x 68719476736) (CW : bQ y 68719476736) : Calls Tryz.prog 34 #[vx, vy] w (dW (x * y) w) := by
 obtain ⟨a1, c1, a2, c2, rfl, n1, n2⟩ := hx.opened
 obtain ⟨a3, c3, a4, c4, rfl, n3, n4⟩ := hy.opened
 have N1 := ae n1
 have N2 := ae n2
 have N3 := ae n3
 have N4 := ae n4
 have He := ae (Kw x y)
 have I4 := ae hlx
 have I5 := ae CW
 clear hx hy n1 n2 n3 n4 hlx CW
 go_enter Tryz.func34, Tryz.ntmps34
 go_wp2_with fail
 generalize hsx : decide (x.num < 0) = sx at *
 generalize hsy : decide (y.num < 0) = sy at *
 clear hsx hsy
 generalize hW0 : ((w.alloc (.cells #[.bool sx, .slice a1 (aU ak x.num.natAbs).length c1, .slice a2 (aU ak (dn x.den)).length c2] 40)).alloc (.cells #[.bool sy, .slice a3 (aU ak y.num.natAbs).length c3, .slice a4 (aU ak (dn y.den)).length c4] 40)).alloc (.cells #[.bool false, .slice none 0 0, .slice none 0 0] 40) = W at *
 obtain ⟨hal, hB1, hB2, hB3⟩ := Jl w _ _ _ _ W hW0.symm
 clear hW0
 have hW : Below w.heap.size w W.drew := hal.drew
 have p0 := af hB1 0 (.bool sx) rfl
 have p1 := af hB1 1 (.slice a1 (aU ak x.num.natAbs).length c1) rfl
 have p2 := af hB1 2 (.slice a2 (aU ak (dn x.den)).length c2) rfl
 have r0 := af hB2 0 (.bool sy) rfl
 have r1 := af hB2 1 (.slice a3 (aU ak y.num.natAbs).length c3) rfl
 have r2 := af hB2 2 (.slice a4 (aU ak (dn y.den)).length c4) rfl
 have HB : Hid (RB W (w.heap.size + 2)) := ⟨false, none, 0, 0, none, 0, 0, _, hB3⟩
 have hl3 := ai hB3
 clear hB1 hB2 hB3
 go_region_held3 (fun w' => Below w.heap.size w w' ∧ RB w' (w.heap.size + 2) ∧ w'.cell? ⟨w.heap.size, 0, none⟩ = some (.bool sx) ∧ w'.cell? ⟨w.heap.size, 1, none⟩ = some (.slice a1 (aU ak x.num.natAbs).length c1) ∧ w'.cell? ⟨w.heap.size, 2, none⟩ = some (.slice a2 (aU ak (dn x.den)).length c2) ∧ w'.cell? ⟨w.heap.size + 1, 0, none⟩ = some (.bool sy) ∧ w'.cell? ⟨w.heap.size + 1, 1, none⟩ = some (.slice a3 (aU ak y.num.natAbs).length c3) ∧ w'.cell? ⟨w.heap.size + 1, 2, none⟩ = some (.slice a4 (aU ak (dn y.den)).length c4) ∧ w'.cell? ⟨w.heap.size + 2, 0, none⟩ = some (cellOf w' ⟨w.heap.size + 2, 0, none⟩) ∧ w'.cell? ⟨w.heap.size + 2, 1, none⟩ = some (cellOf w' ⟨w.heap.size + 2, 1, none⟩) ∧ w'.cell? ⟨w.heap.size + 2, 2, none⟩ = some (cellOf w' ⟨w.heap.size + 2, 2, none⟩) ∧ w'.frozen? ⟨w.heap.size + 2, 0, none⟩ = false ∧ w'.frozen? ⟨w.heap.size + 2, 1, none⟩ = false ∧ w'.frozen? ⟨w.heap.size + 2, 2, none⟩ = false)
  (first | exact yI hW p0 p1 p2 r0 r1 r2 HB.out | exact dP (Nat.le_refl _) Aw (by assumption) | exact dP (Nat.le_refl _) hbD (by assumption) | exact dP (Nat.le_refl _) hbC (by assumption) | exact dP (Nat.le_refl _) hbB (by assumption) | exact dP (Nat.le_refl _) ji (by assumption) | exact oU _ _ _ _ _ _ _ (by omega) (by omega) (by omega) (by assumption) _ rfl)
  (first
   | (go_at_call_of 66 (Value.slice a1 (aU ak x.num.natAbs).length c1); refine (times_any x.num.natAbs y.num.natAbs _ _ _ (N1.out.below (And.left (by assumption))) (N3.out.below (And.left (by assumption))) (by have := I4.out.1; have := I5.out.1; omega)).mono ?_; rintro e wA ⟨vA, rfl, hvA, ji⟩)
   | (go_at_call_of 54 (Value.slice a2 (aU ak (dn x.den)).length c2); (with_reducible refine (lh x.den _ _ (N2.out.below (And.left (by assumption))) x.den_pos).mono ?_); rintro e wB ⟨vB, rfl, hvB, hbB⟩)
   | (go_at_call_of 54 (Value.slice a4 (aU ak (dn y.den)).length c4); (with_reducible refine (lh y.den _ _ (N4.out.below (And.left (by assumption))) y.den_pos).mono ?_); rintro e wC ⟨vC, rfl, CX, hbC⟩)
   | (go_at_call 66; refine (times_any x.den y.den _ _ _ (hvB.below hbC) CX (by have := I4.out.2; have := I5.out.2; omega)).mono ?_; rintro e wD ⟨vD, rfl, EM, hbD⟩)
   | (go_at_call 27; refine (jR _ (x.num.natAbs * y.num.natAbs) (x.den * y.den) _ _ _ (hvA.below (ax hbB (ax hbC hbD))) EM (Nat.mul_pos x.den_pos y.den_pos) (by have := dJ aO x.num.natAbs y.num.natAbs; have := I4.out.1; have := I5.out.1; omega) (by have := dJ aO x.den y.den; have := I4.out.2; have := I5.out.2; omega)).mono ?_; rintro e wE ⟨vE, rfl, hvE, Aw⟩; obtain ⟨a5, c5, a6, c6, rfl, n5, n6⟩ := aA.opened hvE))
 have hE := ax (ax (ax (ax ji hbB) hbC) hbD) Aw
 have yU := RB.keep (a := W.drew) HB.out hE hl3
 obtain ⟨g0, g1, g2, f0', f1', f2'⟩ := yU.cell
 have hx := hW.trans (hE.mono hW.size)
 have hBl := yU.lt
 have He' := He.out
 generalize pK (!sx == sy) (x.num.natAbs * y.num.natAbs) (x.den * y.den) = q at *
 subst He'
 go_wp2_with fail
 refine bodyPost_ret (v := .agg #[.bool (decide ((x * y).num < 0)), .slice a5 (aU ak (x * y).num.natAbs).length _, .slice a6 (aU ak (dn (x * y).den)).length _]) (by simp [results, Tryz.results34, go_sem, g0, g1, g2]; first | done | exact ⟨rfl, rfl⟩ | rfl) rfl ⟨_, rfl, ?_, dm hx (by omega)⟩
 exact aA.stored yU n5 n6 rfl rfl
theorem F6 (s : Bool) (n d k : Nat) (hd : 0 < d) (h1 : (aU ak n).length ≤ k) (h2 : (aU ak d).length ≤ k) : bQ (pK s n d) k := by
 unfold bQ
 rw [xY s n d hd, xX s n d hd]
 exact ⟨Nat.le_trans (aZ aO (Nat.div_le_self _ _)) h1, Nat.le_trans (aZ aO (Nat.div_le_self _ _)) h2⟩
theorem gZ {x y : Rat} {j k : Nat} (hx : bQ x j) (hy : bQ y k) : bQ (x * y) (j + k) := by
 rw [← Kw]
 have h1 := dJ aO x.num.natAbs y.num.natAbs
 have h2 := dJ aO x.den y.den
 have := hx.1; have := hx.2; have := hy.1; have := hy.2
 exact F6 _ _ _ _ (Nat.mul_pos x.den_pos y.den_pos) (by omega) (by omega)
theorem yj {x : Rat} {j : Nat} (hx : bQ x j) : bQ (-x) j := ⟨by rw [kR]; exact hx.1, hx.2⟩
theorem aj {x : Rat} {j k : Nat} (h : bQ x j) (hjk : j ≤ k) : bQ x k := ⟨Nat.le_trans h.1 hjk, Nat.le_trans h.2 hjk⟩
theorem lN {x y : Rat} {j k : Nat} (hx : bQ x j) (hy : bQ y k) : bQ (x + y) (j + k + 1) := by
 have hz : ∃ (s : Bool) (n : Nat), sg s n = sg (decide (x.num < 0)) (x.num.natAbs * y.den) + sg (decide (y.num < 0)) (y.num.natAbs * x.den) ∧ n ≤ x.num.natAbs * y.den + y.num.natAbs * x.den := by
  generalize hz : sg (decide (x.num < 0)) (x.num.natAbs * y.den) + sg (decide (y.num < 0)) (y.num.natAbs * x.den) = z
  refine ⟨decide (z < 0), z.natAbs, ?_, ?_⟩
  ·
   unfold sg
   by_cases h : z < 0
   · simp [h]; omega
   · simp [h]; omega
  ·
   have e1 := oq (decide (x.num < 0)) (x.num.natAbs * y.den)
   have e2 := oq (decide (y.num < 0)) (y.num.natAbs * x.den)
   omega
 obtain ⟨s, n, h, hn⟩ := hz
 rw [← SX x y s n h]
 have h1 := dJ aO x.num.natAbs y.den
 have h2 := dJ aO y.num.natAbs x.den
 have h3 := dJ aO x.den y.den
 have := hx.1; have := hx.2; have := hy.1; have := hy.2
 have h4 := qI aO (x.num.natAbs * y.den) (y.num.natAbs * x.den) (j + k) (by omega) (by omega)
 exact F6 _ _ _ _ (Nat.mul_pos x.den_pos y.den_pos) (Nat.le_trans (aZ aO hn) h4) (by omega)
theorem oP {x y : Rat} {j k : Nat} (hx : bQ x j) (hy : bQ y k) : bQ (x - y) (j + k + 1) := by
 rw [Rat.sub_eq_add_neg]
 exact lN hx (yj hy)
theorem uK {n : Int} {k : Nat} (h : n.natAbs < ak ^ k) (hk : 1 ≤ k) : bQ (n : Rat) k := by
 refine ⟨b_ aO k _ (by simpa using h), Nat.le_trans (b_ aO 1 _ ?_) hk⟩
 simp
 unfold ak
 omega
theorem lQ : 2 ≤ 10 := by omega
def chD (d : Nat) : UInt8 := UInt8.ofNat (48 + d)
def yR (n m : Nat) : List UInt8 := ((aU 10 n).take m).reverse.map chD
def mP (n : Nat) : List UInt8 := (aU 10 n).reverse.map chD
def lI (n : Nat) : List UInt8 := if n = 0 then [48] else mP n
theorem vY {B : Nat} (hB : 2 ≤ B) : ∀ (k n : Nat), (aU B n).drop k = aU B (n / B ^ k)
 | 0, n => by simp
 | k + 1, n => by
  by_cases h : n = 0
  · subst h; simp [jW]
  · rw [pW hB h, List.drop_succ_cons, vY hB k, Nat.div_div_eq_div_mul, Nat.pow_succ, Nat.mul_comm B]
theorem iH {B : Nat} (hB : 2 ≤ B) (k n : Nat) : k < (aU B n).length ↔ n / B ^ k ≠ 0 := by
 rw [Ne, ← fD hB, ← vY hB, List.drop_eq_nil_iff]
 omega
theorem YR {B : Nat} (hB : 2 ≤ B) (k n : Nat) : (aU B n).getD k 0 = n / B ^ k % B := by
 by_cases h : n / B ^ k = 0
 ·
  have := (not_congr (iH hB k n)).2 (fun hne => hne h)
  rw [h, List.getD_eq_getElem?_getD, List.getElem?_eq_none (by omega)]
  simp
 ·
  have hl := (iH hB k n).2 h
  have e := vY hB k n
  rw [pW hB h, List.drop_eq_getElem_cons hl] at e
  rw [List.getD_eq_getElem?_getD, List.getElem?_eq_getElem hl]
  exact (List.cons.inj e).1
theorem Ul (n m : Nat) (h : n / 10 ^ m ≠ 0) : yR n (m + 1) = chD (n / 10 ^ m % 10) :: yR n m := by
 have hl := (iH lQ m n).2 h
 have e := YR lQ m n
 rw [List.getD_eq_getElem?_getD, List.getElem?_eq_getElem hl] at e
 unfold yR
 rw [List.take_succ_eq_append_getElem hl, List.reverse_append]
 simp at e ⊢
 rw [e]
theorem YP (n m : Nat) (h : n / 10 ^ m = 0) : yR n m = mP n := by
 have := (not_congr (iH lQ m n)).2 (fun hne => hne h)
 unfold yR mP
 rw [List.take_of_length_le (by omega)]
theorem LQ (n m : Nat) (h : m = 0 ∨ n / 10 ^ (m - 1) ≠ 0) : (yR n m).length = m := by
 rcases h with rfl | h
 · simp [yR]
 ·
  rcases Nat.eq_zero_or_pos m with rfl | hp
  · simp [yR]
  ·
   have := (iH lQ (m - 1) n).2 h
   simp [yR]
   omega
theorem Uk : mP 0 = [] := rfl
theorem mG (n : Nat) : (mP n).length = (aU 10 n).length := by simp [mP]
theorem aah {B : Nat} : ∀ {a b : List Nat}, fQ B a → fQ B b → a.length = b.length → lv B a = lv B b → a = b
 | [], [], _, _, _, _ => rfl
 | x :: a, y :: b, ha, hb, hl, hv => by
  rw [gY, gY] at hv
  have hx := ha.head
  have hy := hb.head
  have e1 : x = y := by
   have h1 : (x + B * lv B a) % B = x := by rw [Nat.add_mul_mod_self_left, Nat.mod_eq_of_lt hx]
   have h2 : (y + B * lv B b) % B = y := by rw [Nat.add_mul_mod_self_left, Nat.mod_eq_of_lt hy]
   rw [← h1, ← h2, hv]
  subst e1
  have e2 : lv B a = lv B b := Nat.eq_of_mul_eq_mul_left (show 0 < B by omega) (Nat.add_left_cancel hv)
  rw [aah ha.tail hb.tail (by simpa using hl) e2]
theorem YS {B : Nat} (hB : 2 ≤ B) (k n : Nat) (h : n / B ^ k ≠ 0) : (aU B n).take k = aU B (n % B ^ k) ++ List.replicate (k - (aU B (n % B ^ k)).length) 0 := by
 have hl := (iH hB k n).2 h
 have hp : 0 < B ^ k := Nat.pow_pos (by omega)
 have hm := b_ hB k (n % B ^ k) (Nat.mod_lt _ hp)
 have htk : ((aU B n).take k).length = k := by simp; omega
 refine aah ((gy hB n).take k) ((gy hB _).append (fQ.replicate (by omega) _)) (by simp; omega) ?_
 have hv := jV B (aU B n) k (by omega)
 have ht := q_ ((gy hB n).take k)
 rw [iP hB, vY hB, iP hB] at hv
 rw [htk] at ht
 have e : n % B ^ k = lv B ((aU B n).take k) := by
  have h1 : n % B ^ k = (lv B ((aU B n).take k) + B ^ k * (n / B ^ k)) % B ^ k := by rw [← hv]
  rw [h1, Nat.add_mul_mod_self_left, Nat.mod_eq_of_lt ht]
 rw [jZ, iD, iP hB, Nat.mul_zero, Nat.add_zero, e]
def Ph (k n : Nat) : List UInt8 := List.replicate (k - (mP n).length) 48 ++ mP n
theorem Pg (k n : Nat) (h : n / 10 ^ k ≠ 0) : mP n = mP (n / 10 ^ k) ++ Ph k (n % 10 ^ k) := by
 have e : aU 10 n = (aU 10 n).take k ++ aU 10 (n / 10 ^ k) := by
  rw [← vY lQ, List.take_append_drop]
 unfold mP Ph
 rw [e, YS lQ k n h, mG]
 simp [mP, chD, List.map_reverse]
theorem Uh (d : Nat) (h : d < 10) : (chD d).toNat = 48 + d := by
 unfold chD
 rw [UInt8.toNat_ofNat', Nat.mod_eq_of_lt (by omega)]
def qV (q : Rat) : List UInt8 := (if q.num < 0 then [45] else []) ++ (lI q.num.natAbs ++ (if q.den = 1 then [] else 47 :: lI q.den))
def Ho (R : World → Value → Rat → Prop) (w : World) (b o : Nat) (q : Rat) : Prop :=
 ∃ v0 vn vd, w.cell? ⟨b, o, none⟩ = some v0 ∧ w.cell? ⟨b, o + 1, none⟩ = some vn ∧ w.cell? ⟨b, o + 2, none⟩ = some vd ∧ R w (.agg #[v0, vn, vd]) q
def nS (R : World → Value → Rat → Prop) (w : World) (v : Value) (qs : List Rat) : Prop :=
 ∃ ao cap, v = .slice ao qs.length cap ∧ (0 < qs.length → ∃ b off, ao = some ⟨b, off, none⟩ ∧ b < w.heap.size ∧ ∀ i, i < qs.length → Ho R w b (off + i * 3) (qs.getD i 0))
theorem Ho.below {R : World → Value → Rat → Prop} (hR : ∀ w w' v q, R w v q → Below w.heap.size w w' → R w' v q) {w w' : World} {b o : Nat} {q : Rat} (h : Ho R w b o q) (hb : Below w.heap.size w w') (hl : b < w.heap.size) : Ho R w' b o q := by
 obtain ⟨v0, vn, vd, h0, h1, h2, h4⟩ := h
 have c : ∀ j v, w.cell? ⟨b, j, none⟩ = some v → w'.cell? ⟨b, j, none⟩ = some v := fun j v h => (hb.cell (p := ⟨b, j, none⟩) hl).trans h
 exact ⟨v0, vn, vd, c _ _ h0, c _ _ h1, c _ _ h2, hR _ _ _ _ h4 hb⟩
theorem nS.below {R : World → Value → Rat → Prop} (hR : ∀ w w' v q, R w v q → Below w.heap.size w w' → R w' v q) {w w' : World} {v : Value} {qs : List Rat} (h : nS R w v qs) (hb : Below w.heap.size w w') : nS R w' v qs := by
 obtain ⟨ao, cap, rfl, h⟩ := h
 refine ⟨ao, cap, rfl, fun hl => ?_⟩
 obtain ⟨b, off, rfl, hlt, h⟩ := h hl
 exact ⟨b, off, rfl, Nat.lt_of_lt_of_le hlt hb.size, fun i hi => (h i hi).below hR hb hlt⟩
theorem LV (n : Nat) : (aU b32 n).length ≤ 2 * (aU ak n).length := by
 refine b_ uh _ _ ?_
 rw [Nat.pow_mul, show b32 ^ 2 = ak from by unfold b32 ak; decide]
 rcases Nat.lt_or_ge n (ak ^ (aU ak n).length) with h | h
 · exact h
 ·
  exfalso
  have h0 : n / ak ^ (aU ak n).length ≠ 0 := by
   have hp : 0 < ak ^ (aU ak n).length := Nat.pow_pos (by unfold ak; omega)
   have := Nat.div_pos h hp
   omega
  have := (iH aO (aU ak n).length n).2 h0
  omega
structure Rn where
 ph : Int
 be : Int
 mi : Int
 wa : Int
 l0 : Bool
 l1 : Bool
 l2 : Bool
 te : Bool
structure Ru where
 m0 : Int
 m1 : Int
 m2 : Int
 pa : Int
 t00 : Int
 t01 : Int
 t02 : Int
 t10 : Int
 t11 : Int
 t12 : Int
 t20 : Int
 t21 : Int
 t22 : Int
def Ru.mn (r : Ru) (p : Int) : Int := if p = 1 then r.m0 else if p = 2 then r.m1 else r.m2
def Ru.tb (r : Ru) (p : Int) (d : Nat) : Int :=
 if p = 1 then (if d = 0 then r.t00 else if d = 1 then r.t01 else r.t02)
 else if p = 2 then (if d = 0 then r.t10 else if d = 1 then r.t11 else r.t12)
 else (if d = 0 then r.t20 else if d = 1 then r.t21 else r.t22)
def Rn.lost (x : Rn) (d : Nat) : Bool := if d = 0 then x.l0 else if d = 1 then x.l1 else x.l2
def Rn.uT (x : Rn) (d : Nat) (b : Bool) : Rn := if d = 0 then { x with l0 := b } else if d = 1 then { x with l1 := b } else { x with l2 := b }
def iC (n lo hi : Int) : Bool := decide (lo ≤ n) && decide (n ≤ hi)
def oM (r : Ru) : Bool :=
 iC r.pa 0 256 && iC r.m0 1 256 && iC r.t00 0 3 && iC r.t01 0 3 && iC r.t02 0 3 && iC r.m1 1 256 && iC r.t10 0 3 && iC r.t11 0 3 && iC r.t12 0 3 &&
 iC r.m2 1 256 && iC r.t20 0 3 && iC r.t21 0 3 && iC r.t22 0 3
structure aW (r : Ru) : Prop where
 pa : 0 ≤ r.pa ∧ r.pa ≤ 256
 m0 : 1 ≤ r.m0 ∧ r.m0 ≤ 256
 m1 : 1 ≤ r.m1 ∧ r.m1 ≤ 256
 m2 : 1 ≤ r.m2 ∧ r.m2 ≤ 256
 t00 : 0 ≤ r.t00 ∧ r.t00 ≤ 3
 t01 : 0 ≤ r.t01 ∧ r.t01 ≤ 3
 t02 : 0 ≤ r.t02 ∧ r.t02 ≤ 3
 t10 : 0 ≤ r.t10 ∧ r.t10 ≤ 3
 t11 : 0 ≤ r.t11 ∧ r.t11 ≤ 3
 t12 : 0 ≤ r.t12 ∧ r.t12 ≤ 3
 t20 : 0 ≤ r.t20 ∧ r.t20 ≤ 3
 t21 : 0 ≤ r.t21 ∧ r.t21 ≤ 3
 t22 : 0 ≤ r.t22 ∧ r.t22 ≤ 3
theorem KH {r : Ru} (h : oM r = true) : aW r := by
 simp only [oM, iC, Bool.and_eq_true, decide_eq_true_eq] at h
 obtain ⟨⟨⟨⟨⟨⟨⟨⟨⟨⟨⟨⟨a, b⟩, c⟩, d⟩, e⟩, f⟩, g⟩, i⟩, j⟩, k⟩, l⟩, m⟩, n⟩ := h
 exact ⟨a, b, f, k, c, d, e, g, i, j, l, m, n⟩
theorem aW.mn {r : Ru} (h : aW r) (p : Int) : 1 ≤ r.mn p ∧ r.mn p ≤ 256 := by
 unfold Ru.mn
 split
 · exact h.m0
 ·
  split
  · exact h.m1
  · exact h.m2
theorem aW.tb {r : Ru} (h : aW r) (p : Int) (d : Nat) : 0 ≤ r.tb p d ∧ r.tb p d ≤ 3 := by
 have ⟨_, _, _, _, a, b, c, d', e, f, g, i, j⟩ := h
 unfold Ru.tb
 split
 ·
  split
  · exact a
  ·
   split
   · exact b
   · exact c
 ·
  split
  ·
   split
   · exact d'
   ·
    split
    · exact e
    · exact f
  ·
   split
   · exact g
   ·
    split
    · exact i
    · exact j
def goes (p : Int) : Bool := iC p 1 3
def gQ (r : Ru) (x : Rn) (p : Int) : Bool := x.l0 && decide (r.tb p 0 = 2) || (x.l1 && decide (r.tb p 1 = 2) || x.l2 && decide (r.tb p 2 = 2))
def right (r : Ru) (x : Rn) : Bool :=
 if iC x.ph 0 7 then
  if x.ph = 4 then iC x.be 1 3 && (iC x.mi 0 (r.mn x.be - 1) && (iC x.wa 0 r.pa && gQ r x x.be))
  else if x.be = 0 ∧ x.wa = 0 then (if goes x.ph then iC x.mi 0 (r.mn x.ph - 1) else decide (x.mi = 0))
  else false
 else false
def Right (r : Ru) (x : Rn) : Prop :=
 (x.ph = 4 ∧ (1 ≤ x.be ∧ x.be ≤ 3) ∧ (0 ≤ x.mi ∧ x.mi < r.mn x.be) ∧ (0 ≤ x.wa ∧ x.wa ≤ r.pa) ∧ gQ r x x.be = true)
 ∨ (x.be = 0 ∧ x.wa = 0 ∧ (1 ≤ x.ph ∧ x.ph ≤ 3) ∧ (0 ≤ x.mi ∧ x.mi < r.mn x.ph))
 ∨ (x.be = 0 ∧ x.wa = 0 ∧ x.mi = 0 ∧ (x.ph = 0 ∨ x.ph = 5 ∨ x.ph = 6 ∨ x.ph = 7))
def ended (x : Rn) (p : Int) : Rn := { x with ph := p, be := 0, mi := 0, wa := 0 }
def uz (x : Rn) : Int := if x.ph = 4 then x.be else x.ph
def meet (r : Ru) (x : Rn) (d : Nat) : Rn :=
 if goes (uz x) then
  if r.tb (uz x) d = 3 then ended x 7
  else if r.tb (uz x) d = 1 then { x with te := true }
  else if r.tb (uz x) d = 2 then (if goes x.ph then { x with be := x.ph, ph := 4 } else x)
  else x
 else x
def ng (r : Ru) (x : Rn) (d : Nat) : Rn := if x.lost d then meet r x d else x
def begin (r : Ru) (x : Rn) (p : Int) : Rn := ng r (ng r (ng r { x with ph := p, mi := 0 } 0) 1) 2
def tick (r : Ru) (x : Rn) : Rn :=
 if x.ph = 4 then (if r.pa < x.wa + 1 then ended { x with wa := x.wa + 1 } 7 else { x with wa := x.wa + 1 })
 else if goes x.ph then
  if x.mi + 1 < r.mn x.ph then { x with mi := x.mi + 1 }
  else if x.ph < 3 then begin r { x with mi := x.mi + 1 } (x.ph + 1)
  else if x.te then ended { x with mi := x.mi + 1 } 6
  else ended { x with mi := x.mi + 1 } 5
 else x
def VH (e : Int) : Nat := ((e - 2) / 2).toNat
def wY (e : Int) : Bool := decide (e % 2 = 0)
def iE (r : Ru) (x : Rn) : Rn := if x.ph = 4 ∧ gQ r x x.be = false then { x with ph := x.be, be := 0, wa := 0 } else x
def next (r : Ru) (x : Rn) (e : Int) : Option Rn :=
 if e = 0 then some (tick r x)
 else if e = 1 then (if x.ph = 0 then some (begin r { x with te := false } 1) else none)
 else if iC x.ph 0 4 = false ∨ x.lost (VH e) = wY e then none
 else if wY e then some (meet r (x.uT (VH e) true) (VH e))
 else some (iE r (x.uT (VH e) false))
theorem wz (p : Int) : goes p = true ↔ 1 ≤ p ∧ p ≤ 3 := by
 unfold goes iC
 simp
theorem Me {p : Int} (h : 1 ≤ p ∧ p ≤ 3) : goes p = true := (wz p).2 h
theorem wu (r : Ru) (x : Rn) {p : Int} (h : p = 5 ∨ p = 6 ∨ p = 7) : Right r (ended x p) := .inr (.inr ⟨rfl, rfl, rfl, .inr h⟩)
theorem SN {r : Ru} {x : Rn} {p : Int} {d : Nat} (hd : d < 3) (hl : x.lost d = true) (ht : r.tb p d = 2) : gQ r x p = true := by
 unfold gQ
 match d, hd with
 | 0, _ => simp_all [Rn.lost]
 | 1, _ => simp_all [Rn.lost]
 | 2, _ => simp_all [Rn.lost]
theorem FZ {r : Ru} {x : Rn} {d : Nat} (G : aW r) (hd : d < 3) (hl : x.lost d = true) (h : Right r x) : Right r (meet r x d) := by
 unfold meet
 split
 ·
  rename_i hg
  split
  · exact wu _ _ (by simp)
  ·
   split
   · exact h
   ·
    split
    ·
     rename_i h2
     split
     ·
      rename_i hg2
      rcases h with ⟨a, _⟩ | ⟨a, b, c, e⟩ | ⟨a, b, c, e⟩
      ·
       rw [a] at hg2
       exact absurd hg2 (by decide)
      ·
       refine .inl ⟨rfl, c, e, ⟨by show 0 ≤ x.wa; omega, ?_⟩, ?_⟩
       ·
        show x.wa ≤ r.pa
        have := G.pa
        omega
       ·
        refine SN hd (x := { x with be := x.ph, ph := 4 }) (by unfold Rn.lost at *; exact hl) ?_
        rw [← h2, uz, if_neg (by omega)]
      · exact absurd ((wz _).1 hg2) (by omega)
     · exact h
    · exact h
 · exact h
theorem uB {r : Ru} {x : Rn} {d : Nat} (G : aW r) (hd : d < 3) (h : Right r x) : Right r (ng r x d) := by
 unfold ng
 split
 · exact FZ G hd (by assumption) h
 · exact h
theorem Bh {r : Ru} {x : Rn} {p : Int} (G : aW r) (hb : x.be = 0) (hw : x.wa = 0) (hp : 1 ≤ p ∧ p ≤ 3) : Right r (begin r x p) := by
 refine uB G (by omega) (uB G (by omega) (uB G (by omega) (.inr (.inl ⟨hb, hw, hp, ?_⟩))))
 have := G.mn p
 show (0 : Int) ≤ 0 ∧ 0 < r.mn p
 omega
theorem QW {r : Ru} {x : Rn} (G : aW r) (h : Right r x) : Right r (tick r x) := by
 unfold tick
 split
 ·
  rename_i h4
  split
  · exact wu _ _ (by simp)
  ·
   rcases h with ⟨a, b, c, d, e⟩ | ⟨a, b, c, d⟩ | ⟨a, b, c, d⟩
   · exact .inl ⟨a, b, c, ⟨by show 0 ≤ x.wa + 1; omega, by show x.wa + 1 ≤ r.pa; omega⟩, e⟩
   · omega
   · omega
 ·
  split
  ·
   rename_i h4 hg
   have hg := (wz _).1 hg
   have hB : x.be = 0 ∧ x.wa = 0 ∧ 0 ≤ x.mi := by
    rcases h with ⟨a, b, c, d, e⟩ | ⟨a, b, c, d⟩ | ⟨a, b, c, d⟩ <;> omega
   split
   · exact .inr (.inl ⟨hB.1, hB.2.1, hg, by show 0 ≤ x.mi + 1; omega, by assumption⟩)
   ·
    split
    · exact Bh G hB.1 hB.2.1 (by omega)
    · split <;> exact wu _ _ (by simp)
  · exact h
theorem U2 {x : Rn} {d : Nat} (hd : d < 3) (b : Bool) : (x.uT d b).lost d = b := by
 match d, hd with
 | 0, _ => rfl
 | 1, _ => rfl
 | 2, _ => rfl
theorem U1 {r : Ru} {x : Rn} {p : Int} {d : Nat} (h : gQ r x p = true) : gQ r (x.uT d true) p = true := by
 unfold Rn.uT gQ at *
 cases h0 : x.l0 <;> cases h1 : x.l1 <;> cases h2 : x.l2 <;> split <;> (try split) <;> simp_all <;> omega
theorem Iq (x : Rn) (d : Nat) (b : Bool) : (x.uT d b).ph = x.ph ∧ (x.uT d b).be = x.be ∧ (x.uT d b).mi = x.mi ∧ (x.uT d b).wa = x.wa ∧ (x.uT d b).te = x.te := by
 unfold Rn.uT
 split
 · exact ⟨rfl, rfl, rfl, rfl, rfl⟩
 · split <;> exact ⟨rfl, rfl, rfl, rfl, rfl⟩
theorem Qd {r : Ru} {x : Rn} {d : Nat} (h : Right r x) : Right r (x.uT d true) := by
 obtain ⟨s1, s2, s3, s4, _⟩ := Iq x d true
 unfold Right at *
 rw [s1, s2, s3, s4]
 rcases h with ⟨a, b, c, d, e⟩ | h | h
 · exact .inl ⟨a, b, c, d, U1 e⟩
 · exact .inr (.inl h)
 · exact .inr (.inr h)
theorem KO {r : Ru} {x : Rn} {d : Nat} (h : Right r x) : Right r (iE r (x.uT d false)) := by
 obtain ⟨s1, s2, s3, s4, _⟩ := Iq x d false
 unfold iE
 split
 ·
  rename_i h4
  obtain ⟨h4, _⟩ := h4
  rw [s1] at h4
  rcases h with ⟨a, b, c, d, e⟩ | ⟨a, b, c, d⟩ | ⟨a, b, c, d⟩
  ·
   refine .inr (.inl ⟨rfl, rfl, ?_, ?_⟩)
   ·
    show 1 ≤ (x.uT _ false).be ∧ _
    rw [s2]
    exact b
   ·
    show 0 ≤ (x.uT _ false).mi ∧ (x.uT _ false).mi < r.mn (x.uT _ false).be
    rw [s2, s3]
    exact c
  · omega
  · omega
 ·
  rename_i h4
  unfold Right at *
  rw [s1, s2, s3, s4]
  rw [s1, s2] at h4
  rcases h with ⟨a, b, c, d, e⟩ | h | h
  ·
   refine .inl ⟨a, b, c, d, ?_⟩
   cases hh : gQ r (x.uT _ false) x.be
   · exact absurd ⟨a, hh⟩ h4
   · rfl
  · exact .inr (.inl h)
  · exact .inr (.inr h)
theorem YO {e : Int} (h : e ≤ 7) : VH e < 3 := by
 unfold VH
 omega
theorem Qk {r : Ru} {x y : Rn} {e : Int} (G : aW r) (h : Right r x) (he : e ≤ 7) (hy : next r x e = some y) : Right r y := by
 unfold next at hy
 split at hy
 ·
  cases hy
  exact QW G h
 ·
  split at hy
  ·
   split at hy
   ·
    cases hy
    have hB : x.be = 0 ∧ x.wa = 0 := by rcases h with ⟨a, b, c, d, e⟩ | ⟨a, b, c, d⟩ | ⟨a, b, c, d⟩ <;> omega
    exact Bh G hB.1 hB.2 (by omega)
   · cases hy
  ·
   split at hy
   · cases hy
   ·
    split at hy
    ·
     cases hy
     exact FZ G (YO he) (U2 (YO he) _) (Qd h)
    ·
     cases hy
     exact KO h
/-! The reference's way. -/
theorem Right.wa {r : Ru} {x : Rn} (h : Right r x) : x.ph ≠ 4 → x.wa = 0 := by
 rcases h with ⟨a, b, c, d, e⟩ | ⟨a, b, c, d⟩ | ⟨a, b, c, d⟩ <;> omega
def lH : Rn := ⟨0, 0, 0, 0, false, false, false, false⟩
def kT (r : Ru) (s : Rn × Nat) (e : Int) : Rn × Nat := match next r s.1 e with | some y => (y, s.2 + 1) | none => s
def pY (r : Ru) (es : List Int) : Rn × Nat := es.foldl (kT r) (lH, 0)
theorem U9 {r : Ru} {es : List Int} {i : Nat} (h : i < es.length) : pY r (es.take (i + 1)) = kT r (pY r (es.take i)) (es.getD i 0) := by
 unfold pY
 rw [List.take_add_one, List.foldl_append]
 simp [List.getD_eq_getElem?_getD, List.getElem?_eq_getElem h]
theorem Vd (r : Ru) : Right r lH := .inr (.inr ⟨rfl, rfl, rfl, .inl rfl⟩)
theorem Qr {r : Ru} (G : aW r) (es : List Int) (h : ∀ e ∈ es, e ≤ 7) : Right r (pY r es).1 := by
 have key : ∀ (es : List Int) (s : Rn × Nat), (∀ e ∈ es, e ≤ 7) → Right r s.1 → Right r (es.foldl (kT r) s).1 := by
  intro es
  induction es with
  | nil => intro s _ hs; exact hs
  | cons e es ih =>
   intro s h hs
   refine ih _ (fun e' h' => h e' (by simp [h'])) ?_
   unfold kT
   split
   · exact Qk G hs (h e (by simp)) (by assumption)
   · exact hs
 exact key es _ h (Vd r)
abbrev iq (x : Rn) : Value := .agg #[.int .i64 x.ph, .int .i64 x.be, .int .i64 x.mi, .int .i64 x.wa, .bool x.l0, .bool x.l1, .bool x.l2, .bool x.te]
abbrev rZ (r : Ru) : Value := .agg #[.int .i64 r.m0, .int .i64 r.m1, .int .i64 r.m2, .int .i64 r.pa, .int .i64 r.t00, .int .i64 r.t01, .int .i64 r.t02, .int .i64 r.t10, .int .i64 r.t11, .int .i64 r.t12, .int .i64 r.t20, .int .i64 r.t21, .int .i64 r.t22]
def qi (y : Rn) (w : World) (e : Ending) (w' : World) : Prop := e = .returned (iq y) ∧ Below w.heap.size w w'
theorem gJ (w : World) (o : Obj) : Below w.heap.size w (w.alloc o) := (Below.refl w.heap.size w).alloc (Nat.le_refl _) o
theorem ba {W a : World} {o : Obj} (h : Below W.heap.size W a) : Below W.heap.size W (a.alloc o) := h.alloc h.size _
theorem below2 (w : World) (o o' : Obj) : Below w.heap.size w ((w.alloc o).alloc o') := ((Below.refl w.heap.size w).alloc (Nat.le_refl _) o).alloc (gJ w o).size o'
abbrev zf (x : Rn) : Array Value := #[.int .i64 x.ph, .int .i64 x.be, .int .i64 x.mi, .int .i64 x.wa, .bool x.l0, .bool x.l1, .bool x.l2, .bool x.te]
abbrev yF (r : Ru) : Array Value := #[.int .i64 r.m0, .int .i64 r.m1, .int .i64 r.m2, .int .i64 r.pa, .int .i64 r.t00, .int .i64 r.t01, .int .i64 r.t02, .int .i64 r.t10, .int .i64 r.t11, .int .i64 r.t12, .int .i64 r.t20, .int .i64 r.t21, .int .i64 r.t22]
def Xw (y : Rn) (W : World) (e : Ending) (w' : World) : Prop := e = .returned (iq y) ∧ w' = W
def af0 (b : Bool) (W : World) (e : Ending) (w' : World) : Prop := e = .returned (.bool b) ∧ w' = W
abbrev yE (x : Rn) : Obj := .cells (zf x) 66
abbrev Oc (r : Ru) : Obj := .cells (yF r) 63
theorem eH (x lo hi : Int) (w : World) : Calls Tryz.prog 31 #[.int .i64 x, .int .i64 lo, .int .i64 hi] w (Xt (iC x lo hi) w) := by
 by_cases h1 : lo ≤ x
 ·
  have t1 : decide (x ≥ lo) = true := decide_eq_true h1
  have e : iC x lo hi = decide (x ≤ hi) := by unfold iC; rw [decide_eq_true h1]; rfl
  rw [e]
  clear h1 e
  go_enter Tryz.func31, Tryz.ntmps31
  go_wp2_with fail
  go_ret
  exact ⟨rfl, rfl⟩
 ·
  have t1 : decide (x ≥ lo) = false := decide_eq_false h1
  have e : iC x lo hi = false := by unfold iC; rw [decide_eq_false h1]; rfl
  rw [e]
  clear h1 e
  go_enter Tryz.func31, Tryz.ntmps31
  go_wp2_with fail
  go_ret
  exact ⟨rfl, rfl⟩
theorem zK (x : Rn) (w : World) : Calls Tryz.prog 88 #[iq x] w (af0 (goes x.ph) (w.alloc (yE x))) := by
 go_enter Tryz.func88, Tryz.ntmps88
 go_wp2_with fail
 refine (eH _ _ _ _).mono ?_
 rintro e w' ⟨rfl, rfl⟩
 go_wp2_with fail
 go_ret
 exact ⟨rfl, rfl⟩
theorem xQ (x : Rn) (p : Int) (w : World) : Calls Tryz.prog 87 #[iq x, .int .i64 p] w (Xw (ended x p) ((w.alloc (yE (ended x p))).alloc (yE (ended x p)))) := by
 go_enter Tryz.func87, Tryz.ntmps87
 go_wp2_with fail
 refine bodyPost_ret (v := iq (ended x p)) (by simp [results, Tryz.results87, go_sem, ended]) rfl ?_
 exact ⟨rfl, rfl⟩
theorem XD (x : Rn) (w : World) : Calls Tryz.prog 101 #[iq x] w (Xw x ((w.alloc (yE x)).alloc (yE x))) := by
 go_enter Tryz.func101, Tryz.ntmps101
 go_wp2_with fail
 refine bodyPost_ret (v := iq x) (by simp [results, Tryz.results101, go_sem]) rfl ?_
 exact ⟨rfl, rfl⟩
theorem XE (x : Rn) (w : World) : Calls Tryz.prog 102 #[iq x] w (qi { x with te := true } w) := by
 go_enter Tryz.func102, Tryz.ntmps102
 go_wp2_with fail
 refine bodyPost_ret (v := iq { x with te := true }) (by simp [results, Tryz.results102, go_sem]) rfl ?_
 exact ⟨rfl, below2 _ _ _⟩
theorem XG (x : Rn) (w : World) : Calls Tryz.prog 104 #[iq x] w (qi (ended x 7) w) := by
 go_enter Tryz.func104, Tryz.ntmps104
 go_wp2_with fail
 refine (xQ _ _ _).mono ?_
 rintro e w' ⟨rfl, rfl⟩
 go_wp2_with fail
 refine bodyPost_ret (v := iq (ended x 7)) (by simp [results, Tryz.results104, go_sem]) rfl ?_
 refine ⟨rfl, ?_⟩
 exact ba (ba (below2 _ _ _))
theorem XF (x : Rn) (w : World) : Calls Tryz.prog 103 #[iq x] w (qi (if goes x.ph then { x with be := x.ph, ph := 4 } else x) w) := by
 cases hg : goes x.ph with
 | true =>
  go_enter Tryz.func103, Tryz.ntmps103
  go_wp2_with fail
  refine (zK _ _).mono ?_
  rintro e w' ⟨rfl, rfl⟩
  rw [hg]
  go_wp2_with fail
  refine bodyPost_ret (v := iq { x with be := x.ph, ph := 4 }) (by simp [results, Tryz.results103, go_sem]) rfl ?_
  refine ⟨by simp, ?_⟩
  exact ba (below2 _ _ _)
 | false =>
  go_enter Tryz.func103, Tryz.ntmps103
  go_wp2_with fail
  refine (zK _ _).mono ?_
  rintro e w' ⟨rfl, rfl⟩
  rw [hg]
  go_wp2_with fail
  refine bodyPost_ret (v := iq x) (by simp [results, Tryz.results103, go_sem]) rfl ?_
  refine ⟨by simp, ?_⟩
  exact ba (below2 _ _ _)
def CO (v : Value) : Option (DataW Unit × List MemPlace) :=
 match v with
 | .func (.func n) a b => if a.size = 0 ∧ b.size = 0 then some (.lit (.int .i64 n), []) else none
 | .nilFunc => some (.lit (.int .i64 (-1)), [])
 | _ => none
theorem La {v : Value} {n : Nat} {ps : List MemPlace} (h : CO v = some (.lit (.int .i64 n), ps)) : v = .func (.func n) #[] #[] := by
 unfold CO at h
 split at h
 ·
  rename_i m a b
  split at h
  ·
   rename_i hs
   simp only [Option.some.injEq, Prod.mk.injEq, DataW.lit.injEq, Lit.int.injEq] at h
   have hm : m = n := Int.ofNat.inj h.1.2
   rw [Array.eq_empty_of_size_eq_zero hs.1, Array.eq_empty_of_size_eq_zero hs.2, hm]
  · cases h
 ·
  simp only [Option.some.injEq, Prod.mk.injEq, DataW.lit.injEq, Lit.int.injEq] at h
  omega
 · cases h
def alx : DataW Unit := .map [(.int .i64 0, .lit (.int .i64 (101 : Nat))), (.int .i64 1, .lit (.int .i64 (102 : Nat))), (.int .i64 2, .lit (.int .i64 (103 : Nat))), (.int .i64 3, .lit (.int .i64 (104 : Nat)))]
def Dn (w : World) (M : Nat) : Prop := w.ownsMap Tryz.prog 3 CO M 4 alx
def ahE (w : World) (e : Ending) (w' : World) : Prop := ∃ M, e = .returned (.map (some M)) ∧ Dn w' M ∧ Below w.heap.size w w'
theorem Z7 (n : Int) (h1 : -9223372036854775808 ≤ n) (h2 : n ≤ 9223372036854775807) : keyOf Tryz.prog 3 (.int .i64 n) = some (.int .i64 n) := by
 refine Maps.keyOf_int_mk Tryz.underlying3 ?_
 have hmin : IntKind.i64.min = -9223372036854775808 := by decide
 have hmax : IntKind.i64.max = 9223372036854775807 := by decide
 simp only [Lit.wf, hmin, hmax, Bool.and_eq_true, decide_eq_true_eq]
 omega
theorem Bg (w : World) : Calls Tryz.prog 89 #[] w (ahE w) := by
 have hmk := fun w => run_makeMap (P := Tryz.prog) 142 w
 have K := Maps.int_keyed (P := Tryz.prog) Tryz.underlying3
 have ht := Tryz.underlying142
 have o0 := World.ownsMap_made w Tryz.prog 3 CO
 obtain ⟨w1, r1, o1, g1⟩ := o0.update K ht (by decide) (Z7 0 (by omega) (by omega)) (val := .func (.func 101) #[] #[]) rfl
 obtain ⟨w2, r2, o2, g2⟩ := o1.update K ht (by decide) (Z7 1 (by omega) (by omega)) (val := .func (.func 102) #[] #[]) rfl
 obtain ⟨w3, r3, o3, g3⟩ := o2.update K ht (by decide) (Z7 2 (by omega) (by omega)) (val := .func (.func 103) #[] #[]) rfl
 obtain ⟨w4, r4, o4, g4⟩ := o3.update K ht (by decide) (Z7 3 (by omega) (by omega)) (val := .func (.func 104) #[] #[]) rfl
 have hne : some w.heap.size ≠ some w.heap.size → False := fun h => h rfl
 have hb : Below w.heap.size w w4 := by
  have b1 := (gJ w (.map #[] 0)).grown g1 (gJ w (.map #[] 0)).size (by simp)
  have b2 := b1.grown g2 b1.size (by simp)
  have b3 := b2.grown g3 b2.size (by simp)
  exact b3.grown g4 b3.size (by simp)
 have O : Hid (Dn w4 w.heap.size) := o4
 clear K o0 o1 o2 o3 o4 g1 g2 g3 g4 ht
 go_enter Tryz.func89, Tryz.ntmps89
 go_wp2_with fail
 go_ret
 exact ⟨_, rfl, O.out, hb⟩
def ahG (v : Int) (x : Rn) : Rn := if v = 3 then ended x 7 else if v = 1 then { x with te := true } else if v = 2 then (if goes x.ph then { x with be := x.ph, ph := 4 } else x) else x
def XH (v : Int) : Nat := if v = 3 then 104 else if v = 1 then 102 else if v = 2 then 103 else 101
theorem RP (v : Int) (hv : 0 ≤ v ∧ v ≤ 3) (x : Rn) (w : World) : Calls Tryz.prog (XH v) #[iq x] w (qi (ahG v x) w) := by
 rcases (show v = 0 ∨ v = 1 ∨ v = 2 ∨ v = 3 by omega) with rfl | rfl | rfl | rfl
 ·
  refine (XD x w).mono fun e w' ⟨h1, h2⟩ => ⟨h1, ?_⟩
  rw [h2]
  exact below2 _ _ _
 · exact XE x w
 · exact XF x w
 · exact XG x w
theorem Lc {w : World} {M : Nat} (h : Dn w M) (v : Int) (hv : 0 ≤ v ∧ v ≤ 3) : (Instr.lookup 142 (.map (some M)) (.int .i64 v) false).run Tryz.prog w = .ok (.func (.func (XH v)) #[] #[]) w := by
 have hz : (zeroValue 141).run Tryz.prog w = .ok .nilFunc w := by kernel_rfl
 obtain ⟨u, ps, h1, h2⟩ := World.ownsMap.lookup h (Maps.int_keyed Tryz.underlying3) Tryz.underlying142 hz (zd := .lit (.int .i64 (-1))) (zp := []) rfl (Z7 v (by omega) (by omega))
 rw [h1]
 have h3 : alx.atKey (.int .i64 v) (.lit (.int .i64 (-1))) = .lit (.int .i64 (XH v : Nat)) := by
  rcases (show v = 0 ∨ v = 1 ∨ v = 2 ∨ v = 3 by omega) with rfl | rfl | rfl | rfl <;> rfl
 rw [h3] at h2
 rw [La h2]
end Go.Proofs.YtkblihocfapklaaGreat
