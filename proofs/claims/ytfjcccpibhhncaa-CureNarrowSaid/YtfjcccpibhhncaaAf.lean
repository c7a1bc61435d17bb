/- Part f of the lemmas and walks. -/
import Derived.Test.YtfjcccpibhhncaaAe

namespace Go.Proofs.Ytfjcccpibhhncaa
open Go.RowKit

theorem cmp_ge0 {x y : Rat} (h : y ≤ x) : cmpR x y ≥ 0 := by
 have := @cmp_lt0 x y
 rcases Decidable.em (cmpR x y < 0) with h1 | h1
 ·
  rw [this] at h1; grind
 ·
  omega
theorem hasB_true {a b y : Rat} (h1 : a ≤ y) (h2 : y ≤ b) : hasB a b y = true := by
 unfold hasB
 rw [decide_eq_true (cmp_le0.2 h1), decide_eq_true (cmp_le0.2 h2)]; rfl
theorem step_sz4 {a b p q : Rat} {k : Nat} (hk : k ≤ 256) (h0 : 0 ≤ a) (h1 : b ≤ 1) (h2 : 0 ≤ p) (h3 : q ≤ 1) (hab : a ≤ b) (hpq : p ≤ q) : szR (downQ (a + p * (1 - a)) k) 20 ∧ szR (upQ (b + q * (1 - b)) k) 20 ∧ downQ (a + p * (1 - a)) k ≤ upQ (b + q * (1 - b)) k := by
 have g1 := Rat.mul_nonneg (a := p) (b := 1 - a) h2 (by grind)
 have g2 := Rat.mul_nonneg (a := 1 - q) (b := 1 - b) (by grind) (by grind)
 have g3 := Rat.mul_nonneg (a := 1 - p) (b := 1 - a) (by grind) (by grind)
 have g4 := Rat.mul_nonneg (a := q) (b := 1 - b) (by grind) (by grind)
 have hm := cmp_le0.1 (step_mono (partB_iff.2 ⟨h0, h1⟩) (partB_iff.2 ⟨h2, h3⟩) hab hpq)
 exact ⟨down_unit_sz hk (by grind) (by grind), up_unit_sz hk (by grind) (by grind), Rat.le_trans (down_le _ k) (Rat.le_trans hm (up_ge _ k))⟩
set_option maxRecDepth 100000 in
set_option maxHeartbeats 4000000 in
theorem pin_any (c d a b : Rat) (vx vy : Value) (w : World) (hx : IsRng w vx c d) (hy : IsRng w vy a b) (h1 : a ≤ c) (h2 : c ≤ d) (h3 : d ≤ b) (sc : szR c 100000) (sd : szR d 100000) (sa : szR a 100000) (sb : szR b 100000) :
  Calls Try.prog 13 #[vx, vy] w (RetBool true w) := by
 obtain ⟨x1, x2, rfl, g1, g2⟩ := hx
 obtain ⟨y1, y2, rfl, g3, g4⟩ := hy
 have HS := Lib.hid (((((Sx.init w).addP g1).addP g2).addP g3).addP g4)
 have HD1 := Lib.hid h1
 have HD2 := Lib.hid (Rat.le_trans h2 h3)
 have HD3 := Lib.hid (Rat.le_trans h1 h2)
 have HD4 := Lib.hid h3
 have Sa := Lib.hid sa
 have Sb := Lib.hid sb
 have Sc := Lib.hid sc
 have Sd := Lib.hid sd
 clear g1 g2 g3 g4 h1 h2 h3 sa sb sc sd
 go_enter Try.func13, Try.ntmps13
 go_wp2_with fail
 generalize hW1 : ((w).alloc (.cells _ _)).alloc (.cells _ _) = W1 at *
 replace HS := Lib.hid ((((HS.out).alloc (B := w.heap.size) rfl (by rfl)).alloc (B := w.heap.size + 1) (by simp) (by rfl)).to hW1 (by (try simp only [nb5, nb6]); rfl))
 clear hW1
 refine (phas_any a b c _ _ _ (rngP (HS.out.p 1 _ _ rfl) (HS.out.p 0 _ _ rfl)) (HS.out.p 3 _ _ rfl) (szR_mono Sa.out (by omega)) (szR_mono Sb.out (by omega)) (szR_mono Sc.out (by omega))).mono ?_
 rw [hasB_true HD1.out HD2.out]
 rintro e w2 ⟨rfl, hb2⟩
 replace HS := Lib.hid (HS.out.below hb2)
 clear hb2
 obtain ⟨b1c0, b1c1, b1c2, b1c3, b1c4, b1c5, b1f0, b1f1, b1f2, b1f3, b1f4, b1f5⟩ := fac6 (x := y1) (y := y2) (HS.out.at 0 _ _ _ rfl)
 have b1l := blk_lt (HS.out.at 0 _ _ _ rfl)
 obtain ⟨b0c0, b0c1, b0c2, b0c3, b0c4, b0c5, b0f0, b0f1, b0f2, b0f3, b0f4, b0f5⟩ := fac6 (x := x1) (y := x2) (HS.out.at 1 _ _ _ rfl)
 have b0l := blk_lt (HS.out.at 1 _ _ _ rfl)
 go_wp2_with fail
 clear b1c0 b1c1 b1c2 b1c3 b1c4 b1c5 b1f0 b1f1 b1f2 b1f3 b1f4 b1f5 b1l b0c0 b0c1 b0c2 b0c3 b0c4 b0c5 b0f0 b0f1 b0f2 b0f3 b0f4 b0f5 b0l
 refine (phas_any a b d _ _ _ (rngP (HS.out.p 1 _ _ rfl) (HS.out.p 0 _ _ rfl)) (HS.out.p 2 _ _ rfl) (szR_mono Sa.out (by omega)) (szR_mono Sb.out (by omega)) (szR_mono Sd.out (by omega))).mono ?_
 rw [hasB_true HD3.out HD4.out]
 rintro e w3 ⟨rfl, hb3⟩
 replace HS := Lib.hid (HS.out.below hb3)
 clear hb3
 go_wp2_with fail
 go_ret
 exact ⟨by rfl, HS.out.bel⟩
set_option maxRecDepth 100000 in
set_option maxHeartbeats 8000000 in
theorem cureNarrow_any (c0 c1 r0 r1 n0 n1 n2 n3 s0 s1 : Nat) (w : World) (h1 : c0 ≤ 255) (h2 : c1 ≤ 255) (h3 : r0 ≤ 255) (h4 : r1 ≤ 255) (h5 : n0 ≤ 255) (h6 : n1 ≤ 255) (h7 : n2 ≤ 255) (h8 : n3 ≤ 255) (h9 : s0 ≤ 255) (h10 : s1 ≤ 255) :
  Calls Try.prog 3 #[.agg #[.int .u8 (c0 : Int), .int .u8 (c1 : Int)], .agg #[.int .u8 (r0 : Int), .int .u8 (r1 : Int)], .agg #[.int .u8 (n0 : Int), .int .u8 (n1 : Int), .int .u8 (n2 : Int), .int .u8 (n3 : Int)], .agg #[.int .u8 (s0 : Int), .int .u8 (s1 : Int)]] w (RetBool true w) := by
 obtain ⟨l, h_l⟩ : ∃ z, z = c0 % 101 := ⟨_, rfl⟩
 obtain ⟨p, h_p⟩ : ∃ z, z = r0 % 101 := ⟨_, rfl⟩
 obtain ⟨dl, h_dl⟩ : ∃ z, z = 101 - l := ⟨_, rfl⟩
 obtain ⟨dp, h_dp⟩ : ∃ z, z = 101 - p := ⟨_, rfl⟩
 obtain ⟨uc, h_uc⟩ : ∃ z, z = c1 % dl := ⟨_, rfl⟩
 obtain ⟨ur, h_ur⟩ : ∃ z, z = r1 % dp := ⟨_, rfl⟩
 obtain ⟨q2, h_q2⟩ : ∃ z, z = n2 % 4 := ⟨_, rfl⟩
 obtain ⟨q3, h_q3⟩ : ∃ z, z = n3 % 4 := ⟨_, rfl⟩
 obtain ⟨k, h_k⟩ : ∃ z, z = s0 % 40 := ⟨_, rfl⟩
 obtain ⟨e, h_e⟩ : ∃ z, z = s1 % 20 := ⟨_, rfl⟩
 obtain ⟨k2, h_k2⟩ : ∃ z, z = k + e := ⟨_, rfl⟩
 obtain ⟨m0, h_m0⟩ : ∃ z, z = n0 % 251 := ⟨_, rfl⟩
 obtain ⟨m1, h_m1⟩ : ∃ z, z = n1 % 251 := ⟨_, rfl⟩
 have hll : l ≤ 100 := by omega
 have hpp : p ≤ 100 := by omega
 have huc : uc < dl := by rw [h_uc]; exact Nat.mod_lt _ (by omega)
 have hur : ur < dp := by rw [h_ur]; exact Nat.mod_lt _ (by omega)
 have hq2 : q2 < 4 := by omega
 have hq3 : q3 < 4 := by omega
 have hk40 : k < 40 := by omega
 have he20 : e < 20 := by omega
 have hm0 : m0 < 251 := by omega
 have hm1 : m1 < 251 := by omega
 have hml1 : Int.tmod (c0 : Int) 101 = (l : Int) := by rw [Int.tmod_eq_emod_of_nonneg (by omega)]; omega
 have hml2 : (c0 : Int) % 101 = (l : Int) := by omega
 have hml3 : IntKind.i64.wrap (l : Int) = (l : Int) := IntWalk.i64_in _ (by omega)
 have hmp1 : Int.tmod (r0 : Int) 101 = (p : Int) := by rw [Int.tmod_eq_emod_of_nonneg (by omega)]; omega
 have hmp2 : (r0 : Int) % 101 = (p : Int) := by omega
 have hmp3 : IntKind.i64.wrap (p : Int) = (p : Int) := IntWalk.i64_in _ (by omega)
 have hmuc1 : Int.tmod (c1 : Int) (dl : Int) = (uc : Int) := by rw [Int.tmod_eq_emod_of_nonneg (by omega), h_uc]; exact (Int.natCast_emod c1 dl).symm
 have hmuc2 : (c1 : Int) % (dl : Int) = (uc : Int) := by rw [h_uc]; exact (Int.natCast_emod c1 dl).symm
 have hmuc3 : IntKind.i64.wrap (uc : Int) = (uc : Int) := IntWalk.i64_in _ (by omega)
 have hmur1 : Int.tmod (r1 : Int) (dp : Int) = (ur : Int) := by rw [Int.tmod_eq_emod_of_nonneg (by omega), h_ur]; exact (Int.natCast_emod r1 dp).symm
 have hmur2 : (r1 : Int) % (dp : Int) = (ur : Int) := by rw [h_ur]; exact (Int.natCast_emod r1 dp).symm
 have hmur3 : IntKind.i64.wrap (ur : Int) = (ur : Int) := IntWalk.i64_in _ (by omega)
 have hmq21 : Int.tmod (n2 : Int) 4 = (q2 : Int) := by rw [Int.tmod_eq_emod_of_nonneg (by omega)]; omega
 have hmq22 : (n2 : Int) % 4 = (q2 : Int) := by omega
 have hmq23 : IntKind.i64.wrap (q2 : Int) = (q2 : Int) := IntWalk.i64_in _ (by omega)
 have hmq24 : IntKind.u8.wrap (q2 : Int) = (q2 : Int) := IntWalk.u8_in _ (by omega)
 have hmq31 : Int.tmod (n3 : Int) 4 = (q3 : Int) := by rw [Int.tmod_eq_emod_of_nonneg (by omega)]; omega
 have hmq32 : (n3 : Int) % 4 = (q3 : Int) := by omega
 have hmq33 : IntKind.i64.wrap (q3 : Int) = (q3 : Int) := IntWalk.i64_in _ (by omega)
 have hmq34 : IntKind.u8.wrap (q3 : Int) = (q3 : Int) := IntWalk.u8_in _ (by omega)
 have hmk1 : Int.tmod (s0 : Int) 40 = (k : Int) := by rw [Int.tmod_eq_emod_of_nonneg (by omega)]; omega
 have hmk2 : (s0 : Int) % 40 = (k : Int) := by omega
 have hmk3 : IntKind.i64.wrap (k : Int) = (k : Int) := IntWalk.i64_in _ (by omega)
 have hme1 : Int.tmod (s1 : Int) 20 = (e : Int) := by rw [Int.tmod_eq_emod_of_nonneg (by omega)]; omega
 have hme2 : (s1 : Int) % 20 = (e : Int) := by omega
 have hme3 : IntKind.i64.wrap (e : Int) = (e : Int) := IntWalk.i64_in _ (by omega)
 have hwc0 : IntKind.i64.wrap (c0 : Int) = (c0 : Int) := IntWalk.i64_in _ (by omega)
 have hwc1 : IntKind.i64.wrap (c1 : Int) = (c1 : Int) := IntWalk.i64_in _ (by omega)
 have hwr0 : IntKind.i64.wrap (r0 : Int) = (r0 : Int) := IntWalk.i64_in _ (by omega)
 have hwr1 : IntKind.i64.wrap (r1 : Int) = (r1 : Int) := IntWalk.i64_in _ (by omega)
 have hwn0 : IntKind.i64.wrap (n0 : Int) = (n0 : Int) := IntWalk.i64_in _ (by omega)
 have hwn1 : IntKind.i64.wrap (n1 : Int) = (n1 : Int) := IntWalk.i64_in _ (by omega)
 have hwn2 : IntKind.i64.wrap (n2 : Int) = (n2 : Int) := IntWalk.i64_in _ (by omega)
 have hwn3 : IntKind.i64.wrap (n3 : Int) = (n3 : Int) := IntWalk.i64_in _ (by omega)
 have hws0 : IntKind.i64.wrap (s0 : Int) = (s0 : Int) := IntWalk.i64_in _ (by omega)
 have hws1 : IntKind.i64.wrap (s1 : Int) = (s1 : Int) := IntWalk.i64_in _ (by omega)
 have hdl0 : (dl : Int) ≠ 0 := by omega
 have hdp0 : (dp : Int) ≠ 0 := by omega
 have hdlN : dl ≠ 0 := by omega
 have hdpN : dp ≠ 0 := by omega
 have hdl1 : IntKind.i64.wrap (101 - (l : Int)) = (dl : Int) := (IntWalk.i64_in _ (by omega)).trans (by omega)
 have hdp1 : IntKind.i64.wrap (101 - (p : Int)) = (dp : Int) := (IntWalk.i64_in _ (by omega)).trans (by omega)
 have hk21 : IntKind.i64.wrap ((k : Int) + (e : Int)) = (k2 : Int) := (IntWalk.i64_in _ (by omega)).trans (by omega)
 obtain ⟨a0, h_a0⟩ : ∃ z, z = ptQ l 100 := ⟨_, rfl⟩
 obtain ⟨w0, h_w0⟩ : ∃ z, z = ptQ uc 100 := ⟨_, rfl⟩
 obtain ⟨a1, h_a1⟩ : ∃ z, z = ptQ p 100 := ⟨_, rfl⟩
 obtain ⟨w1, h_w1⟩ : ∃ z, z = ptQ ur 100 := ⟨_, rfl⟩
 obtain ⟨g0, h_g0⟩ : ∃ z, z = ptQ q2 4 := ⟨_, rfl⟩
 obtain ⟨g1, h_g1⟩ : ∃ z, z = ptQ q3 4 := ⟨_, rfl⟩
 obtain ⟨z0, h_z0⟩ : ∃ z, z = ptQ m0 250 := ⟨_, rfl⟩
 obtain ⟨z1, h_z1⟩ : ∃ z, z = ptQ m1 250 := ⟨_, rfl⟩
 obtain ⟨b0, h_b0⟩ : ∃ z, z = a0 + w0 := ⟨_, rfl⟩
 obtain ⟨b1, h_b1⟩ : ∃ z, z = a1 + w1 := ⟨_, rfl⟩
 obtain ⟨x0, h_x0⟩ : ∃ z, z = a0 + (w0 * z0) := ⟨_, rfl⟩
 obtain ⟨x1, h_x1⟩ : ∃ z, z = a1 + (w1 * z1) := ⟨_, rfl⟩
 have HPl : Hid (∀ W, Calls Try.prog 5 #[.int .i64 (l : Int), .int .i64 100] W (RetRat a0 W)) := fun W => by rw [h_a0]; exact partN_any l 100 100 rfl W (by omega) (by omega) (by omega)
 have p_a0 : 0 ≤ a0 := by rw [h_a0]; exact ptQ_pos _ _ (by omega)
 have s_a0 : szR a0 100 := by rw [h_a0]; exact ptQ_sz (by omega) (by omega) (by omega)
 have HPuc : Hid (∀ W, Calls Try.prog 5 #[.int .i64 (uc : Int), .int .i64 100] W (RetRat w0 W)) := fun W => by rw [h_w0]; exact partN_any uc 100 100 rfl W (by omega) (by omega) (by omega)
 have p_w0 : 0 ≤ w0 := by rw [h_w0]; exact ptQ_pos _ _ (by omega)
 have s_w0 : szR w0 100 := by rw [h_w0]; exact ptQ_sz (by omega) (by omega) (by omega)
 have HPp : Hid (∀ W, Calls Try.prog 5 #[.int .i64 (p : Int), .int .i64 100] W (RetRat a1 W)) := fun W => by rw [h_a1]; exact partN_any p 100 100 rfl W (by omega) (by omega) (by omega)
 have p_a1 : 0 ≤ a1 := by rw [h_a1]; exact ptQ_pos _ _ (by omega)
 have s_a1 : szR a1 100 := by rw [h_a1]; exact ptQ_sz (by omega) (by omega) (by omega)
 have HPur : Hid (∀ W, Calls Try.prog 5 #[.int .i64 (ur : Int), .int .i64 100] W (RetRat w1 W)) := fun W => by rw [h_w1]; exact partN_any ur 100 100 rfl W (by omega) (by omega) (by omega)
 have p_w1 : 0 ≤ w1 := by rw [h_w1]; exact ptQ_pos _ _ (by omega)
 have s_w1 : szR w1 100 := by rw [h_w1]; exact ptQ_sz (by omega) (by omega) (by omega)
 have HPq2 : Hid (∀ W, Calls Try.prog 5 #[.int .i64 (q2 : Int), .int .i64 4] W (RetRat g0 W)) := fun W => by rw [h_g0]; exact partN_any q2 4 4 rfl W (by omega) (by omega) (by omega)
 have p_g0 : 0 ≤ g0 := by rw [h_g0]; exact ptQ_pos _ _ (by omega)
 have s_g0 : szR g0 100 := by rw [h_g0]; exact ptQ_sz (by omega) (by omega) (by omega)
 have HPq3 : Hid (∀ W, Calls Try.prog 5 #[.int .i64 (q3 : Int), .int .i64 4] W (RetRat g1 W)) := fun W => by rw [h_g1]; exact partN_any q3 4 4 rfl W (by omega) (by omega) (by omega)
 have p_g1 : 0 ≤ g1 := by rw [h_g1]; exact ptQ_pos _ _ (by omega)
 have s_g1 : szR g1 100 := by rw [h_g1]; exact ptQ_sz (by omega) (by omega) (by omega)
 have p_z0 : 0 ≤ z0 := by rw [h_z0]; exact ptQ_pos _ _ (by omega)
 have e_z0 : z0 ≤ 1 := by rw [h_z0]; exact ptQ_le (by omega) (by omega)
 have e_g0 : g0 ≤ 1 := by rw [h_g0]; exact ptQ_le (by omega) (by omega)
 have s_z0 : szR z0 100 := by rw [h_z0]; exact ptQ_sz (by omega) (by omega) (by omega)
 have e_b0 : b0 ≤ 1 := by rw [h_b0, h_a0, h_w0, ptQ_add]; exact ptQ_le (by omega) (by omega)
 have s_b0 : szR b0 300 := by rw [h_b0]; exact szR_mono (szR_add s_a0 s_w0) (by omega)
 have s_x0 : szR x0 400 := by rw [h_x0]; exact szR_mono (szR_add s_a0 (szR_mul s_w0 s_z0)) (by omega)
 have o1_0 : a0 ≤ x0 := by have := Rat.mul_nonneg p_w0 p_z0; rw [h_x0]; grind
 have o2_0 : x0 ≤ b0 := by have := Rat.mul_nonneg (a := w0) (b := 1 - z0) p_w0 (by grind); rw [h_x0, h_b0]; grind
 have o3_0 : x0 ≤ (x0 + ((b0 - x0) * g0)) := by have := Rat.mul_nonneg (a := b0 - x0) (b := g0) (by grind) p_g0; grind
 have o4_0 : (x0 + ((b0 - x0) * g0)) ≤ b0 := by have := Rat.mul_nonneg (a := b0 - x0) (b := 1 - g0) (by grind) (by grind); grind
 have HSP0 : Hid (∀ W va vw, IsRat W va a0 → IsRat W vw w0 → Calls Try.prog 4 #[va, vw, .int .u8 (n0 : Int)] W (RetSpr a0 b0 x0 W)) := fun W va vw j1 j2 => by rw [h_b0, h_x0, h_z0]; exact spread_any a0 w0 n0 m0 (by omega) h_m0 va vw W j1 j2 p_w0 (szR_mono s_a0 (by omega)) (szR_mono s_w0 (by omega))
 have p_z1 : 0 ≤ z1 := by rw [h_z1]; exact ptQ_pos _ _ (by omega)
 have e_z1 : z1 ≤ 1 := by rw [h_z1]; exact ptQ_le (by omega) (by omega)
 have e_g1 : g1 ≤ 1 := by rw [h_g1]; exact ptQ_le (by omega) (by omega)
 have s_z1 : szR z1 100 := by rw [h_z1]; exact ptQ_sz (by omega) (by omega) (by omega)
 have e_b1 : b1 ≤ 1 := by rw [h_b1, h_a1, h_w1, ptQ_add]; exact ptQ_le (by omega) (by omega)
 have s_b1 : szR b1 300 := by rw [h_b1]; exact szR_mono (szR_add s_a1 s_w1) (by omega)
 have s_x1 : szR x1 400 := by rw [h_x1]; exact szR_mono (szR_add s_a1 (szR_mul s_w1 s_z1)) (by omega)
 have o1_1 : a1 ≤ x1 := by have := Rat.mul_nonneg p_w1 p_z1; rw [h_x1]; grind
 have o2_1 : x1 ≤ b1 := by have := Rat.mul_nonneg (a := w1) (b := 1 - z1) p_w1 (by grind); rw [h_x1, h_b1]; grind
 have o3_1 : x1 ≤ (x1 + ((b1 - x1) * g1)) := by have := Rat.mul_nonneg (a := b1 - x1) (b := g1) (by grind) p_g1; grind
 have o4_1 : (x1 + ((b1 - x1) * g1)) ≤ b1 := by have := Rat.mul_nonneg (a := b1 - x1) (b := 1 - g1) (by grind) (by grind); grind
 have HSP1 : Hid (∀ W va vw, IsRat W va a1 → IsRat W vw w1 → Calls Try.prog 4 #[va, vw, .int .u8 (n1 : Int)] W (RetSpr a1 b1 x1 W)) := fun W va vw j1 j2 => by rw [h_b1, h_x1, h_z1]; exact spread_any a1 w1 n1 m1 (by omega) h_m1 va vw W j1 j2 p_w1 (szR_mono s_a1 (by omega)) (szR_mono s_w1 (by omega))
 obtain ⟨d1, h_d1⟩ : ∃ z, z = downQ (a0 + a1 * (1 - a0)) k := ⟨_, rfl⟩
 obtain ⟨u1, h_u1⟩ : ∃ z, z = upQ (b0 + b1 * (1 - b0)) k := ⟨_, rfl⟩
 obtain ⟨d2, h_d2⟩ : ∃ z, z = downQ (x0 + x1 * (1 - x0)) k2 := ⟨_, rfl⟩
 obtain ⟨u2, h_u2⟩ : ∃ z, z = upQ ((x0 + ((b0 - x0) * g0)) + (x1 + ((b1 - x1) * g1)) * (1 - (x0 + ((b0 - x0) * g0)))) k2 := ⟨_, rfl⟩
 obtain ⟨v0, h_v0⟩ : ∃ z, z = downQ a0 k := ⟨_, rfl⟩
 have hpa : partB a0 b0 = true := partB_iff.2 ⟨p_a0, e_b0⟩
 have hpr : partB a1 b1 = true := partB_iff.2 ⟨p_a1, e_b1⟩
 have hpx : partB x0 (x0 + ((b0 - x0) * g0)) = true := partB_iff.2 ⟨by grind, by grind⟩
 have hpy : partB x1 (x1 + ((b1 - x1) * g1)) = true := partB_iff.2 ⟨by grind, by grind⟩
 have oab0 : a0 ≤ b0 := Rat.le_trans o1_0 o2_0
 have oab1 : a1 ≤ b1 := Rat.le_trans o1_1 o2_1
 have s_y0 : szR (x0 + ((b0 - x0) * g0)) 10000 := szR_mono (szR_add s_x0 (szR_mul (szR_sub s_b0 s_x0) s_g0)) (by omega)
 have s_y1 : szR (x1 + ((b1 - x1) * g1)) 10000 := szR_mono (szR_add s_x1 (szR_mul (szR_sub s_b1 s_x1) s_g1)) (by omega)
 have HST1 : Hid (∀ W vx vy, IsRng W vx a0 b0 → IsRng W vy a1 b1 → Calls Try.prog 12 #[vx, vy, .int .i64 (k : Int)] W (RetRngE d1 u1 0 W)) := fun W vx vy j1 j2 => by
  have := cStep_any a0 b0 a1 b1 k vx vy W j1 j2 (by omega) (k : Int) (by omega) oab0 oab1 (szR_mono s_a0 (by omega)) (szR_mono s_b0 (by omega)) (szR_mono s_a1 (by omega)) (szR_mono s_b1 (by omega))
  rw [stepQ_ok hpa hpr oab0 oab1, ← h_d1, ← h_u1] at this
  exact this
 have HST2 : Hid (∀ W vx vy, IsRng W vx x0 (x0 + ((b0 - x0) * g0)) → IsRng W vy x1 (x1 + ((b1 - x1) * g1)) → Calls Try.prog 12 #[vx, vy, .int .i64 (k2 : Int)] W (RetRngE d2 u2 0 W)) := fun W vx vy j1 j2 => by
  have := cStep_any x0 (x0 + ((b0 - x0) * g0)) x1 (x1 + ((b1 - x1) * g1)) k2 vx vy W j1 j2 (by omega) (k2 : Int) (by omega) o3_0 o3_1 (szR_mono s_x0 (by omega)) s_y0 (szR_mono s_x1 (by omega)) s_y1
  rw [stepQ_ok hpx hpy o3_0 o3_1, ← h_d2, ← h_u2] at this
  exact this
 have hni := narrow_in (a := a0) (b := b0) (p := a1) (q := b1) (a' := x0) (b' := (x0 + ((b0 - x0) * g0))) (p' := x1) (q' := (x1 + ((b1 - x1) * g1))) (k := k) (n := k2) (by omega) p_a0 e_b0 p_a1 e_b1 o1_0 o3_0 o4_0 o1_1 o3_1 o4_1
 rw [← h_d1, ← h_d2, ← h_u1, ← h_u2] at hni
 have hst := step_sz4 (a := a0) (b := b0) (p := a1) (q := b1) (k := k) (by omega) p_a0 e_b0 p_a1 e_b1 oab0 oab1
 rw [← h_d1, ← h_u1] at hst
 have hst2 := step_sz4 (a := x0) (b := (x0 + ((b0 - x0) * g0))) (p := x1) (q := (x1 + ((b1 - x1) * g1))) (k := k2) (by omega) (by grind) (by grind) (by grind) (by grind) o3_0 o3_1
 rw [← h_d2, ← h_u2] at hst2
 have HIN : Hid (∀ W vx vy, IsRng W vx d2 u2 → IsRng W vy d1 u1 → Calls Try.prog 13 #[vx, vy] W (RetBool true W)) := fun W vx vy j1 j2 => pin_any d2 u2 d1 u1 vx vy W j1 j2 hni.1 hst2.2.2 hni.2 (szR_mono hst2.1 (by omega)) (szR_mono hst2.2.1 (by omega)) (szR_mono hst.1 (by omega)) (szR_mono hst.2.1 (by omega))
 have HDN : Hid (∀ W v, IsRat W v a0 → Calls Try.prog 16 #[v, .int .i64 (k : Int)] W (RetRat v0 W)) := fun W v g => by rw [h_v0]; exact down_any a0 k (by omega) (k : Int) (by omega) v W g (szR_mono s_a0 (by omega))
 have HG1 : Hid (v0 ≤ d1) := by show _ ≤ _; rw [h_v0, h_d1]; exact keep_lo (by grind) p_a1
 have HG2 : Hid (b0 ≤ u1) := by show _ ≤ _; rw [h_u1]; exact keep_hi e_b0 (by grind)
 have Sd1 := Lib.hid hst.1
 have Su1 := Lib.hid hst.2.1
 have Sv0 : Hid (szR v0 20) := by show szR _ _; rw [h_v0]; exact down_unit_sz (by omega) (by grind) (by grind)
 have HY0 := Lib.hid o3_0
 have HY1 := Lib.hid o3_1
 have Sa0 := Lib.hid s_a0
 have Sa1 := Lib.hid s_a1
 have Sb0 := Lib.hid s_b0
 have Sb1 := Lib.hid s_b1
 have Sx0 := Lib.hid s_x0
 have Sx1 := Lib.hid s_x1
 have Sg0 := Lib.hid s_g0
 have Sg1 := Lib.hid s_g1
 clear h_l h_p h_dl h_dp h_uc h_ur h_q2 h_q3 h_k h_e h_k2 h_m0 h_m1 hst hst2 hni h_d1 h_u1 h_d2 h_u2 h_v0 h_a0 h_w0 h_a1 h_w1 h_g0 h_g1 h_z0 h_z1 h_b0 h_b1 h_x0 h_x1 s_a0 s_a1 s_w0 s_w1 s_g0 s_g1 s_z0 s_z1 s_b0 s_b1 s_x0 s_x1 s_y0 s_y1 o1_0 o1_1 o2_0 o2_1 o3_0 o3_1 o4_0 o4_1 oab0 oab1 hpa hpr hpx hpy p_a0 p_a1 p_w0 p_w1 p_g0 p_g1 p_z0 p_z1 e_z0 e_z1 e_g0 e_g1 e_b0 e_b1
 have HS := Lib.hid (Sx.init w)
 go_enter Try.func3, Try.ntmps3
 go_wp2_with fail
 generalize hW1 : ((((w).alloc (.cells _ _)).alloc (.cells _ _)).alloc (.cells _ _)).alloc (.cells _ _) = W1 at *
 replace HS := Lib.hid ((((((HS.out).alloc (B := w.heap.size) rfl (by rfl)).alloc (B := w.heap.size + 1) (by simp) (by rfl)).alloc (B := w.heap.size + 2) (by simp) (by rfl)).alloc (B := w.heap.size + 3) (by simp) (by rfl)).to hW1 (by (try simp only [nb5, nb6]); rfl))
 clear hW1
 refine wp_region_held_drew (S := (fun w' => Sx w w' [(w.heap.size + 3, #[.int .u8 (s0 : Int), .int .u8 (s1 : Int)], 22), (w.heap.size + 2, #[.int .u8 (n0 : Int), .int .u8 (n1 : Int), .int .u8 (n2 : Int), .int .u8 (n3 : Int)], 23), (w.heap.size + 1, #[.int .u8 (r0 : Int), .int .u8 (r1 : Int)], 22), (w.heap.size, #[.int .u8 (c0 : Int), .int .u8 (c1 : Int)], 22)] [])) (by kernel_rfl) ((HS.out.drew).bare) (fun hh => ?_)
 replace HS := Lib.hid HS.out.drew
 refine tkB (i := 0) (v := ?vk3) rfl ?hk3 ?rk3
 case hk3 => intro u hSu; go_simp <;> with_reducible rfl
 try simp only [nbs, Act.put]
 refine tkB (i := 1) (v := ?vk4) rfl ?hk4 ?rk4
 case hk4 => intro u hSu; (try dsimp only at hSu); have qb0e := (hSu.at 3 _ _ _ rfl); have qb0c0 := blk_cell qb0e 0 (.int .u8 (c0 : Int)) rfl; have qb0c1 := blk_cell qb0e 1 (.int .u8 (c1 : Int)) rfl; clear qb0e; clear hSu; go_simp <;> with_reducible rfl
 try simp only [nbs, Act.put]
 refine tkB (i := 2) (v := ?vk5) rfl ?hk5 ?rk5
 case hk5 => intro u hSu; go_simp <;> with_reducible rfl
 try simp only [nbs, Act.put]
 refine tkB (i := 3) (v := ?vk6) rfl ?hk6 ?rk6
 case hk6 => intro u hSu; go_simp <;> with_reducible rfl
 try simp only [nbs, Act.put]
 refine tkB (i := 4) (v := ?vk7) rfl ?hk7 ?rk7
 case hk7 => intro u hSu; go_simp <;> with_reducible rfl
 try simp only [nbs, Act.put]
 refine tkB (i := 5) (v := ?vk8) rfl ?hk8 ?rk8
 case hk8 => intro u hSu; (try dsimp only at hSu); have qb1e := (hSu.at 2 _ _ _ rfl); have qb1c0 := blk_cell qb1e 0 (.int .u8 (r0 : Int)) rfl; have qb1c1 := blk_cell qb1e 1 (.int .u8 (r1 : Int)) rfl; clear qb1e; clear hSu; go_simp <;> with_reducible rfl
 try simp only [nbs, Act.put]
 refine tkB (i := 6) (v := ?vk9) rfl ?hk9 ?rk9
 case hk9 => intro u hSu; go_simp <;> with_reducible rfl
 try simp only [nbs, Act.put]
 refine tkB (i := 7) (v := ?vk10) rfl ?hk10 ?rk10
 case hk10 => intro u hSu; go_simp <;> with_reducible rfl
 try simp only [nbs, Act.put]
 refine tkB (i := 8) (v := ?vk11) rfl ?hk11 ?rk11
 case hk11 => intro u hSu; go_simp <;> with_reducible rfl
 try simp only [nbs, Act.put]
 refine tkB (i := 9) (v := ?vk12) rfl ?hk12 ?rk12
 case hk12 => intro u hSu; go_simp <;> with_reducible rfl
 try simp only [nbs, Act.put]
 refine wpAnyH_done (by kernel_rfl) ?_ _
 generalize W1.drew = Wd13 at *
 go_wp2_with fail
 refine wp_region_held_drew (S := (fun w' => Sx w w' [(w.heap.size + 3, #[.int .u8 (s0 : Int), .int .u8 (s1 : Int)], 22), (w.heap.size + 2, #[.int .u8 (n0 : Int), .int .u8 (n1 : Int), .int .u8 (n2 : Int), .int .u8 (n3 : Int)], 23), (w.heap.size + 1, #[.int .u8 (r0 : Int), .int .u8 (r1 : Int)], 22), (w.heap.size, #[.int .u8 (c0 : Int), .int .u8 (c1 : Int)], 22)] [])) (by kernel_rfl) ((HS.out.drew).bare) (fun hh => ?_)
 replace HS := Lib.hid HS.out.drew
 have HSW := Lib.hid HS.out.bel.size
 refine tkB (i := 0) (v := ?vk15) rfl ?hk15 ?rk15
 case hk15 => intro u hSu; go_simp <;> with_reducible rfl
 try simp only [nbs, Act.put]
 refine tkB (i := 2) (v := ?vk16) rfl ?hk16 ?rk16
 case hk16 => intro u hSu; go_simp <;> with_reducible rfl
 try simp only [nbs, Act.put]
 refine tkB (i := 3) (v := ?vk17) rfl ?hk17 ?rk17
 case hk17 => intro u hSu; (try dsimp only at hSu); have qb0e := (hSu.at 3 _ _ _ rfl); have qb0c0 := blk_cell qb0e 0 (.int .u8 (c0 : Int)) rfl; have qb0c1 := blk_cell qb0e 1 (.int .u8 (c1 : Int)) rfl; clear qb0e; clear hSu; go_simp <;> with_reducible rfl
 try simp only [nbs, Act.put]
 refine tkB (i := 4) (v := ?vk18) rfl ?hk18 ?rk18
 case hk18 => intro u hSu; go_simp <;> with_reducible rfl
 try simp only [nbs, Act.put]
 refine tkB (i := 5) (v := ?vk19) rfl ?hk19 ?rk19
 case hk19 => intro u hSu; go_simp <;> with_reducible rfl
 try simp only [nbs, Act.put]
 refine tkB (i := 6) (v := ?vk20) rfl ?hk20 ?rk20
 case hk20 => intro u hSu; go_simp <;> with_reducible rfl
 try simp only [nbs, Act.put]
 refine tkB (i := 7) (v := ?vk21) rfl ?hk21 ?rk21
 case hk21 => intro u hSu; go_simp <;> with_reducible rfl
 try simp only [nbs, Act.put]
 refine tkB (i := 9) (v := ?vk22) rfl ?hk22 ?rk22
 case hk22 => intro u hSu; go_simp <;> with_reducible rfl
 try simp only [nbs, Act.put]
 refine tkB (i := 10) (v := ?vk23) rfl ?hk23 ?rk23
 case hk23 => intro u hSu; (try dsimp only at hSu); have qb2e := (hSu.at 1 _ _ _ rfl); have qb2c0 := blk_cell qb2e 0 (.int .u8 (n0 : Int)) rfl; have qb2c1 := blk_cell qb2e 1 (.int .u8 (n1 : Int)) rfl; have qb2c2 := blk_cell qb2e 2 (.int .u8 (n2 : Int)) rfl; have qb2c3 := blk_cell qb2e 3 (.int .u8 (n3 : Int)) rfl; clear qb2e; clear hSu; go_simp <;> with_reducible rfl
 try simp only [nbs, Act.put]
 refine wpAnyH_modular [1, 8, 11, 12, 13, 14, 15, 16] [1, 8, 11, 15, 16] [12, 13, 14] [32, 39, 42, 30, 43, 44, 11, 12] #[true, true, true, true, true, true, true, true, true, true, true, true, true, true, true, true, true, false, false] 2 [(1, 32), (8, 39), (11, 42), (12, 30), (13, 43), (14, 44), (15, 11), (16, 12)] [(1, []), (8, [1]), (11, [1, 8]), (12, [11]), (13, [12]), (14, [12]), (15, []), (16, [])] [15, 16] [(1, fun v w => ∃ z24 : R3, v = z24.val ∧ Fr true w z24.val a0), (8, fun v w => ∃ z25 : R3, v = z25.val ∧ Fr true w z25.val w0), (11, fun v w => ∃ y261 y262 y263 : R3, v = .tuple #[.agg #[.bool y261.b, .slice y261.a y261.n y261.c, .slice y261.d y261.m y261.e, .bool y262.b, .slice y262.a y262.n y262.c, .slice y262.d y262.m y262.e], y263.val] ∧ Fr true w y261.val a0 ∧ Fr true w y262.val b0 ∧ Fr true w y263.val x0), (12, fun v w => ∃ y261q12 y262q12 y263q12 : R3, v = .tuple #[.agg #[.bool y261q12.b, .slice y261q12.a y261q12.n y261q12.c, .slice y261q12.d y261q12.m y261q12.e, .bool y262q12.b, .slice y262q12.a y262q12.n y262q12.c, .slice y262q12.d y262q12.m y262q12.e], y263q12.val] ∧ Fr true w y261q12.val a0 ∧ Fr true w y262q12.val b0 ∧ Fr true w y263q12.val x0), (13, fun v w => ∃ y261q12q13 y262q12q13 : R3, v = .agg #[.bool y261q12q13.b, .slice y261q12q13.a y261q12q13.n y261q12q13.c, .slice y261q12q13.d y261q12q13.m y261q12q13.e, .bool y262q12q13.b, .slice y262q12q13.a y262q12q13.n y262q12q13.c, .slice y262q12q13.d y262q12q13.m y262q12q13.e] ∧ Fr true w y261q12q13.val a0 ∧ Fr true w y262q12q13.val b0), (14, fun v w => ∃ y263q12q14 : R3, v = y263q12q14.val ∧ Fr true w y263q12q14.val x0), (15, fun v w => ∃ Br14_15 : Nat, v = .pointer (some ⟨Br14_15, 0, none⟩) ∧ Wd13.drew.heap.size ≤ Br14_15 ∧ w.heap[Br14_15]? = some (.cells #[.bool false, .slice none 0 0, .slice none 0 0, .bool false, .slice none 0 0, .slice none 0 0] 29 (0, 0))), (16, fun v w => ∃ Br14_16 : Nat, v = .pointer (some ⟨Br14_16, 0, none⟩) ∧ Wd13.drew.heap.size ≤ Br14_16 ∧ w.heap[Br14_16]? = some (.cells #[.bool false, .slice none 0 0, .slice none 0 0] 27 (0, 0)))]
  rfl (by kernel_rfl) (by decide) rfl ⟨(fun v w w' hb ⟨z0, e, h0⟩ => ⟨z0, e, Fr.below h0 hb⟩), ⟨(fun v w w' hb ⟨z0, e, h0⟩ => ⟨z0, e, Fr.below h0 hb⟩), ⟨(fun v w w' hb ⟨z0, z1, z2, e, h0, h1, h2⟩ => ⟨z0, z1, z2, e, Fr.below h0 hb, Fr.below h1 hb, Fr.below h2 hb⟩), ⟨(fun v w w' hb ⟨z0, z1, z2, e, h0, h1, h2⟩ => ⟨z0, z1, z2, e, Fr.below h0 hb, Fr.below h1 hb, Fr.below h2 hb⟩), ⟨(fun v w w' hb ⟨z0, z1, e, h0, h1⟩ => ⟨z0, z1, e, Fr.below h0 hb, Fr.below h1 hb⟩), ⟨(fun v w w' hb ⟨z0, e, h0⟩ => ⟨z0, e, Fr.below h0 hb⟩), ⟨(fun v w w' hb ⟨B, e, g, k⟩ => ⟨B, e, g, blk_keep k hb (blk_lt k)⟩), ⟨(fun v w w' hb ⟨B, e, g, k⟩ => ⟨B, e, g, blk_keep k hb (blk_lt k)⟩), trivial⟩⟩⟩⟩⟩⟩⟩⟩ ⟨fun v w ⟨B, e, g, k⟩ => ⟨B, e, blk_lt k⟩, ⟨fun v w ⟨B, e, g, k⟩ => ⟨B, e, blk_lt k⟩, trivial⟩⟩ (fun w' hb => Sx.below hh hb) ⟨?_, ?_, ?_, ?_, ?_, trivial⟩ ⟨?_, ?_, ?_, trivial⟩ (by decide) ?_
 ·
  refine StepM.of rfl (fun f w' hb hp K hK => ?_)
  have HSB := HS
  replace HS := Lib.hid (HS.out.below hb)
  simp only [fillA, fillT, List.foldl_cons, List.foldl_nil, Act.put, nb4, nb5, nb6]
  go_simp
  go_wp2_with (go_at_call 5; (with_reducible refine (HPl.out _).mono ?_); rintro e w24 ⟨v24, rfl, hv24, hb24⟩; obtain ⟨z24, rfl⟩ := hv24.open3)
  exact hK.out _ _ (z24.val) (by simp only [fillA, fillT, List.foldl_cons, List.foldl_nil, Act.put, nb4, nb5, nb6, nb1, nb2, nb3]) ⟨z24, rfl, hv24⟩ (fun h => absurd h (by decide)) hb24
 ·
  refine StepM.of rfl (fun f w' hb hp K hK => ?_)
  have HSB := HS
  replace HS := Lib.hid (HS.out.below hb)
  simp only [fillA, fillT, List.foldl_cons, List.foldl_nil, Act.put, nb4, nb5, nb6]
  go_simp
  go_wp2_with (go_at_call 5; (with_reducible refine (HPuc.out _).mono ?_); rintro e w25 ⟨v25, rfl, hv25, hb25⟩; obtain ⟨z25, rfl⟩ := hv25.open3)
  exact hK.out _ _ (z25.val) (by simp only [fillA, fillT, List.foldl_cons, List.foldl_nil, Act.put, nb4, nb5, nb6, nb1, nb2, nb3]) ⟨z25, rfl, hv25⟩ (fun h => absurd h (by decide)) hb25
 ·
  refine StepM.of rfl (fun f w' hb hp K hK => ?_)
  obtain ⟨z24, e1, h1_0⟩ : ∃ z24 : R3, f 32 = z24.val ∧ Fr true w' z24.val a0 := hp 1 (by decide)
  obtain ⟨z25, e8, h8_0⟩ : ∃ z25 : R3, f 39 = z25.val ∧ Fr true w' z25.val w0 := hp 8 (by decide)
  have HSB := HS
  replace HS := Lib.hid (HS.out.below hb)
  replace HS := Lib.hid (HS.out.addP h1_0)
  replace HS := Lib.hid (HS.out.addP h8_0)
  simp only [fillA, fillT, List.foldl_cons, List.foldl_nil, Act.put, nb4, nb5, nb6, e1, e8]
  have a27 := HS.out.p 1 _ _ rfl
  have a28 := HS.out.p 0 _ _ rfl
  go_simp
  go_wp2_with (go_at_call 4; (with_reducible refine (HSP0.out _ _ _ a27 a28).mono ?_); rintro e w26 ⟨y261, y262, y263, rfl, hv261, hv262, hv263, hb26⟩)
  exact hK.out _ _ (.tuple #[.agg #[.bool y261.b, .slice y261.a y261.n y261.c, .slice y261.d y261.m y261.e, .bool y262.b, .slice y262.a y262.n y262.c, .slice y262.d y262.m y262.e], y263.val]) (by simp only [fillA, fillT, List.foldl_cons, List.foldl_nil, Act.put, nb4, nb5, nb6, nb1, nb2, nb3, e1, e8]) ⟨y261, y262, y263, rfl, hv261, hv262, hv263⟩ (fun h => absurd h (by decide)) hb26
 ·
  refine StepM.of rfl (fun f w' hb hp K hK => ?_)
  have HSB := HS
  replace HS := Lib.hid (HS.out.below hb)
  simp only [fillA, fillT, List.foldl_cons, List.foldl_nil, Act.put, nb4, nb5, nb6]
  go_simp
  exact hK.out _ _ (.pointer (some ⟨w'.heap.size, 0, none⟩)) (by simp only [fillA, fillT, List.foldl_cons, List.foldl_nil, Act.put, nb4, nb5, nb6, nb1, nb2, nb3]) ⟨_, rfl, hb.size, blk_new _ _ _⟩ (fun _ => rfl) (below1 w' _)
 ·
  refine StepM.of rfl (fun f w' hb hp K hK => ?_)
  have HSB := HS
  replace HS := Lib.hid (HS.out.below hb)
  simp only [fillA, fillT, List.foldl_cons, List.foldl_nil, Act.put, nb4, nb5, nb6]
  go_simp
  exact hK.out _ _ (.pointer (some ⟨w'.heap.size, 0, none⟩)) (by simp only [fillA, fillT, List.foldl_cons, List.foldl_nil, Act.put, nb4, nb5, nb6, nb1, nb2, nb3]) ⟨_, rfl, hb.size, blk_new _ _ _⟩ (fun _ => rfl) (below1 w' _)
 ·
  refine EagerM.of rfl (fun f w' hb hp => ?_)
  obtain ⟨y261, y262, y263, e11, h11_0, h11_1, h11_2⟩ : ∃ y261 y262 y263 : R3, f 42 = .tuple #[.agg #[.bool y261.b, .slice y261.a y261.n y261.c, .slice y261.d y261.m y261.e, .bool y262.b, .slice y262.a y262.n y262.c, .slice y262.d y262.m y262.e], y263.val] ∧ Fr true w' y261.val a0 ∧ Fr true w' y262.val b0 ∧ Fr true w' y263.val x0 := hp 11 (by decide)
  refine ⟨.tuple #[.agg #[.bool y261.b, .slice y261.a y261.n y261.c, .slice y261.d y261.m y261.e, .bool y262.b, .slice y262.a y262.n y262.c, .slice y262.d y262.m y262.e], y263.val], ⟨y261, y262, y263, rfl, h11_0, h11_1, h11_2⟩, by first | rfl | kernel_rfl, fun u => ?_⟩
  simp only [fillA, fillT, List.foldl_cons, List.foldl_nil, Act.put, nb4, nb5, nb6, e11]
  go_simp <;> with_reducible rfl
 ·
  refine EagerM.of rfl (fun f w' hb hp => ?_)
  obtain ⟨y261q12, y262q12, y263q12, e12, h12_0, h12_1, h12_2⟩ : ∃ y261q12 y262q12 y263q12 : R3, f 30 = .tuple #[.agg #[.bool y261q12.b, .slice y261q12.a y261q12.n y261q12.c, .slice y261q12.d y261q12.m y261q12.e, .bool y262q12.b, .slice y262q12.a y262q12.n y262q12.c, .slice y262q12.d y262q12.m y262q12.e], y263q12.val] ∧ Fr true w' y261q12.val a0 ∧ Fr true w' y262q12.val b0 ∧ Fr true w' y263q12.val x0 := hp 12 (by decide)
  refine ⟨.agg #[.bool y261q12.b, .slice y261q12.a y261q12.n y261q12.c, .slice y261q12.d y261q12.m y261q12.e, .bool y262q12.b, .slice y262q12.a y262q12.n y262q12.c, .slice y262q12.d y262q12.m y262q12.e], ⟨y261q12, y262q12, rfl, h12_0, h12_1⟩, by first | rfl | kernel_rfl, fun u => ?_⟩
  simp only [fillA, fillT, List.foldl_cons, List.foldl_nil, Act.put, nb4, nb5, nb6, e12]
  go_simp <;> with_reducible rfl
 ·
  refine EagerM.of rfl (fun f w' hb hp => ?_)
  obtain ⟨y261q12, y262q12, y263q12, e12, h12_0, h12_1, h12_2⟩ : ∃ y261q12 y262q12 y263q12 : R3, f 30 = .tuple #[.agg #[.bool y261q12.b, .slice y261q12.a y261q12.n y261q12.c, .slice y261q12.d y261q12.m y261q12.e, .bool y262q12.b, .slice y262q12.a y262q12.n y262q12.c, .slice y262q12.d y262q12.m y262q12.e], y263q12.val] ∧ Fr true w' y261q12.val a0 ∧ Fr true w' y262q12.val b0 ∧ Fr true w' y263q12.val x0 := hp 12 (by decide)
  refine ⟨y263q12.val, ⟨y263q12, rfl, h12_2⟩, by first | rfl | kernel_rfl, fun u => ?_⟩
  simp only [fillA, fillT, List.foldl_cons, List.foldl_nil, Act.put, nb4, nb5, nb6, e12]
  go_simp <;> with_reducible rfl
 ·
  intro f wr14 hb hp hd
  obtain ⟨z24, e1, h1_0⟩ : ∃ z24 : R3, f 32 = z24.val ∧ Fr true wr14 z24.val a0 := hp 1 (by decide)
  obtain ⟨z25, e8, h8_0⟩ : ∃ z25 : R3, f 39 = z25.val ∧ Fr true wr14 z25.val w0 := hp 8 (by decide)
  obtain ⟨y261, y262, y263, e11, h11_0, h11_1, h11_2⟩ : ∃ y261 y262 y263 : R3, f 42 = .tuple #[.agg #[.bool y261.b, .slice y261.a y261.n y261.c, .slice y261.d y261.m y261.e, .bool y262.b, .slice y262.a y262.n y262.c, .slice y262.d y262.m y262.e], y263.val] ∧ Fr true wr14 y261.val a0 ∧ Fr true wr14 y262.val b0 ∧ Fr true wr14 y263.val x0 := hp 11 (by decide)
  obtain ⟨y261q12, y262q12, y263q12, e12, h12_0, h12_1, h12_2⟩ : ∃ y261q12 y262q12 y263q12 : R3, f 30 = .tuple #[.agg #[.bool y261q12.b, .slice y261q12.a y261q12.n y261q12.c, .slice y261q12.d y261q12.m y261q12.e, .bool y262q12.b, .slice y262q12.a y262q12.n y262q12.c, .slice y262q12.d y262q12.m y262q12.e], y263q12.val] ∧ Fr true wr14 y261q12.val a0 ∧ Fr true wr14 y262q12.val b0 ∧ Fr true wr14 y263q12.val x0 := hp 12 (by decide)
  obtain ⟨y261q12q13, y262q12q13, e13, h13_0, h13_1⟩ : ∃ y261q12q13 y262q12q13 : R3, f 43 = .agg #[.bool y261q12q13.b, .slice y261q12q13.a y261q12q13.n y261q12q13.c, .slice y261q12q13.d y261q12q13.m y261q12q13.e, .bool y262q12q13.b, .slice y262q12q13.a y262q12q13.n y262q12q13.c, .slice y262q12q13.d y262q12q13.m y262q12q13.e] ∧ Fr true wr14 y261q12q13.val a0 ∧ Fr true wr14 y262q12q13.val b0 := hp 13 (by decide)
  obtain ⟨y263q12q14, e14, h14_0⟩ : ∃ y263q12q14 : R3, f 44 = y263q12q14.val ∧ Fr true wr14 y263q12q14.val x0 := hp 14 (by decide)
  obtain ⟨Br14_15, e15, g15, k15⟩ : ∃ Br14_15 : Nat, f 11 = .pointer (some ⟨Br14_15, 0, none⟩) ∧ Wd13.drew.heap.size ≤ Br14_15 ∧ wr14.heap[Br14_15]? = some (.cells #[.bool false, .slice none 0 0, .slice none 0 0, .bool false, .slice none 0 0, .slice none 0 0] 29 (0, 0)) := hp 15 (by decide)
  obtain ⟨Br14_16, e16, g16, k16⟩ : ∃ Br14_16 : Nat, f 12 = .pointer (some ⟨Br14_16, 0, none⟩) ∧ Wd13.drew.heap.size ≤ Br14_16 ∧ wr14.heap[Br14_16]? = some (.cells #[.bool false, .slice none 0 0, .slice none 0 0] 27 (0, 0)) := hp 16 (by decide)
  have hd15_16 : Br14_15 ≠ Br14_16 := fun h => hd 15 16 (by decide) (by decide) (by decide) (by decide) (by decide) (by show f 11 = f 12; rw [e15, e16, h])
  replace hh := Sx.below hh hb
  have hlt := HS.out.lt
  replace HS := Lib.hid (HS.out.below hb)
  replace HS := Lib.hid (HS.out.addP h1_0)
  replace HS := Lib.hid (HS.out.addP h8_0)
  replace HS := Lib.hid (HS.out.addP h11_0)
  replace HS := Lib.hid (HS.out.addP h11_1)
  replace HS := Lib.hid (HS.out.addP h11_2)
  replace HS := Lib.hid (HS.out.addP h12_0)
  replace HS := Lib.hid (HS.out.addP h12_1)
  replace HS := Lib.hid (HS.out.addP h12_2)
  replace HS := Lib.hid (HS.out.addP h13_0)
  replace HS := Lib.hid (HS.out.addP h13_1)
  replace HS := Lib.hid (HS.out.addP h14_0)
  have hge15 : w.heap.size ≤ Br14_15 := Nat.le_trans HSW.out g15
  have hne15 : ∀ b, b ∈ ([(w.heap.size + 3, #[.int .u8 (s0 : Int), .int .u8 (s1 : Int)], 22), (w.heap.size + 2, #[.int .u8 (n0 : Int), .int .u8 (n1 : Int), .int .u8 (n2 : Int), .int .u8 (n3 : Int)], 23), (w.heap.size + 1, #[.int .u8 (r0 : Int), .int .u8 (r1 : Int)], 22), (w.heap.size, #[.int .u8 (c0 : Int), .int .u8 (c1 : Int)], 22)] : List Bx) → b.1 ≠ Br14_15 := by
   intro b hb
   simp only [List.mem_cons, List.not_mem_nil, or_false] at hb
   rcases hb with rfl | rfl | rfl | rfl
   ·
    have := hlt _ (List.mem_iff_getElem?.2 ⟨0, rfl⟩); dsimp only at this ⊢; omega
   ·
    have := hlt _ (List.mem_iff_getElem?.2 ⟨1, rfl⟩); dsimp only at this ⊢; omega
   ·
    have := hlt _ (List.mem_iff_getElem?.2 ⟨2, rfl⟩); dsimp only at this ⊢; omega
   ·
    have := hlt _ (List.mem_iff_getElem?.2 ⟨3, rfl⟩); dsimp only at this ⊢; omega
  replace HS := Lib.hid (HS.out.addBox k15 hge15 (by rfl) hne15)
  have hge16 : w.heap.size ≤ Br14_16 := Nat.le_trans HSW.out g16
  have hne16 : ∀ b, b ∈ ([(Br14_15, #[.bool false, .slice none 0 0, .slice none 0 0, .bool false, .slice none 0 0, .slice none 0 0], 29), (w.heap.size + 3, #[.int .u8 (s0 : Int), .int .u8 (s1 : Int)], 22), (w.heap.size + 2, #[.int .u8 (n0 : Int), .int .u8 (n1 : Int), .int .u8 (n2 : Int), .int .u8 (n3 : Int)], 23), (w.heap.size + 1, #[.int .u8 (r0 : Int), .int .u8 (r1 : Int)], 22), (w.heap.size, #[.int .u8 (c0 : Int), .int .u8 (c1 : Int)], 22)] : List Bx) → b.1 ≠ Br14_16 := by
   intro b hb
   simp only [List.mem_cons, List.not_mem_nil, or_false] at hb
   rcases hb with rfl | rfl | rfl | rfl | rfl
   ·
    exact hd15_16
   ·
    have := hlt _ (List.mem_iff_getElem?.2 ⟨0, rfl⟩); dsimp only at this ⊢; omega
   ·
    have := hlt _ (List.mem_iff_getElem?.2 ⟨1, rfl⟩); dsimp only at this ⊢; omega
   ·
    have := hlt _ (List.mem_iff_getElem?.2 ⟨2, rfl⟩); dsimp only at this ⊢; omega
   ·
    have := hlt _ (List.mem_iff_getElem?.2 ⟨3, rfl⟩); dsimp only at this ⊢; omega
  replace HS := Lib.hid (HS.out.addBox k16 hge16 (by rfl) hne16)
  simp only [fillA, fillT, List.foldl_cons, List.foldl_nil, Act.put, nb4, nb5, nb6, e1, e8, e11, e12, e13, e14, e15, e16]
  clear hp hd hb hlt e1 e8 e11 e12 e13 e14 e15 e16
  refine rdA (i := 17) rfl (fun K hK => ?_)
  have b4e := (HS.out.at 1 _ _ _ rfl)
  have b4c0 := blk_cell b4e 0 (.bool false) rfl
  have b4c1 := blk_cell b4e 1 (.slice none 0 0) rfl
  have b4c2 := blk_cell b4e 2 (.slice none 0 0) rfl
  have b4c3 := blk_cell b4e 3 (.bool false) rfl
  have b4c4 := blk_cell b4e 4 (.slice none 0 0) rfl
  have b4c5 := blk_cell b4e 5 (.slice none 0 0) rfl
  have b4f0 := blk_frozen b4e 0
  have b4f1 := blk_frozen b4e 1
  have b4f2 := blk_frozen b4e 2
  have b4f3 := blk_frozen b4e 3
  have b4f4 := blk_frozen b4e 4
  have b4f5 := blk_frozen b4e 5
  have b4l := blk_lt b4e
  clear b4e
  go_simp
  refine hK.out _ _ ((((((HS.out).st_RR 1 r30 r30 y261q12q13 y262q12q13 rfl)).erase 1)).erase 0) (fun hh => ?_)
  clear hK K b4c0 b4c1 b4c2 b4c3 b4c4 b4c5 b4f0 b4f1 b4f2 b4f3 b4f4 b4f5 b4l
  try simp only [nbs, Act.put]
  generalize hW29 : ((((((wr14).setCell _ _).setCell _ _).setCell _ _).setCell _ _).setCell _ _).setCell _ _ = W29 at *
  replace HS := Lib.hid (((HS.out).st_RR 1 r30 r30 y261q12q13 y262q12q13 rfl).to hW29 (by (try simp only [nb5, nb6]); rfl))
  clear hW29
  refine rdA (i := 18) rfl (fun K hK => ?_)
  have b5e := (HS.out.at 0 _ _ _ rfl)
  have b5c0 := blk_cell b5e 0 (.bool false) rfl
  have b5c1 := blk_cell b5e 1 (.slice none 0 0) rfl
  have b5c2 := blk_cell b5e 2 (.slice none 0 0) rfl
  have b5f0 := blk_frozen b5e 0
  have b5f1 := blk_frozen b5e 1
  have b5f2 := blk_frozen b5e 2
  have b5l := blk_lt b5e
  clear b5e
  go_simp
  refine hK.out _ _ ((((((HS.out).st_R 0 r30 y263q12q14 rfl)).erase 1)).erase 0) (fun hh => ?_)
  clear hK K b5c0 b5c1 b5c2 b5f0 b5f1 b5f2 b5l
  try simp only [nbs, Act.put]
  generalize hW30 : (((W29).setCell _ _).setCell _ _).setCell _ _ = W30 at *
  replace HS := Lib.hid (((HS.out).st_R 0 r30 y263q12q14 rfl).to hW30 (by (try simp only [nb5, nb6]); rfl))
  clear hW30
  refine wpAnyH_done (by kernel_rfl) ?_ _
  go_wp2_with fail
  refine wp_region_held_drew (S := (fun w' => Sx w w' [(Br14_16, y263q12q14.arr, 27), (Br14_15, arr6 y261q12q13 y262q12q13, 29), (w.heap.size + 3, #[.int .u8 (s0 : Int), .int .u8 (s1 : Int)], 22), (w.heap.size + 2, #[.int .u8 (n0 : Int), .int .u8 (n1 : Int), .int .u8 (n2 : Int), .int .u8 (n3 : Int)], 23), (w.heap.size + 1, #[.int .u8 (r0 : Int), .int .u8 (r1 : Int)], 22), (w.heap.size, #[.int .u8 (c0 : Int), .int .u8 (c1 : Int)], 22)] [])) (by kernel_rfl) ((HS.out.drew).bare) (fun hh => ?_)
  replace HS := Lib.hid HS.out.drew
  have HSW := Lib.hid HS.out.bel.size
  refine tkB (i := 0) (v := ?vk32) rfl ?hk32 ?rk32
  case hk32 => intro u hSu; go_simp <;> with_reducible rfl
  try simp only [nbs, Act.put]
  refine tkB (i := 2) (v := ?vk33) rfl ?hk33 ?rk33
  case hk33 => intro u hSu; go_simp <;> with_reducible rfl
  try simp only [nbs, Act.put]
  refine tkB (i := 3) (v := ?vk34) rfl ?hk34 ?rk34
  case hk34 => intro u hSu; (try dsimp only at hSu); have qb1e := (hSu.at 4 _ _ _ rfl); have qb1c0 := blk_cell qb1e 0 (.int .u8 (r0 : Int)) rfl; have qb1c1 := blk_cell qb1e 1 (.int .u8 (r1 : Int)) rfl; clear qb1e; clear hSu; go_simp <;> with_reducible rfl
  try simp only [nbs, Act.put]
  refine tkB (i := 4) (v := ?vk35) rfl ?hk35 ?rk35
  case hk35 => intro u hSu; go_simp <;> with_reducible rfl
  try simp only [nbs, Act.put]
  refine tkB (i := 5) (v := ?vk36) rfl ?hk36 ?rk36
  case hk36 => intro u hSu; go_simp <;> with_reducible rfl
  try simp only [nbs, Act.put]
  refine tkB (i := 6) (v := ?vk37) rfl ?hk37 ?rk37
  case hk37 => intro u hSu; go_simp <;> with_reducible rfl
  try simp only [nbs, Act.put]
  refine tkB (i := 7) (v := ?vk38) rfl ?hk38 ?rk38
  case hk38 => intro u hSu; go_simp <;> with_reducible rfl
  try simp only [nbs, Act.put]
  refine tkB (i := 9) (v := ?vk39) rfl ?hk39 ?rk39
  case hk39 => intro u hSu; go_simp <;> with_reducible rfl
  try simp only [nbs, Act.put]
  refine tkB (i := 10) (v := ?vk40) rfl ?hk40 ?rk40
  case hk40 => intro u hSu; (try dsimp only at hSu); have qb2e := (hSu.at 3 _ _ _ rfl); have qb2c0 := blk_cell qb2e 0 (.int .u8 (n0 : Int)) rfl; have qb2c1 := blk_cell qb2e 1 (.int .u8 (n1 : Int)) rfl; have qb2c2 := blk_cell qb2e 2 (.int .u8 (n2 : Int)) rfl; have qb2c3 := blk_cell qb2e 3 (.int .u8 (n3 : Int)) rfl; clear qb2e; clear hSu; go_simp <;> with_reducible rfl
  try simp only [nbs, Act.put]
  refine wpAnyH_modular [1, 8, 11, 12, 13, 14, 15, 16] [1, 8, 11, 15, 16] [12, 13, 14] [47, 54, 57, 45, 58, 59, 13, 14] #[true, true, true, true, true, true, true, true, true, true, true, true, true, true, true, true, true, false, false] 2 [(1, 47), (8, 54), (11, 57), (12, 45), (13, 58), (14, 59), (15, 13), (16, 14)] [(1, []), (8, [1]), (11, [1, 8]), (12, [11]), (13, [12]), (14, [12]), (15, []), (16, [])] [15, 16] [(1, fun v w => ∃ z41 : R3, v = z41.val ∧ Fr true w z41.val a1), (8, fun v w => ∃ z42 : R3, v = z42.val ∧ Fr true w z42.val w1), (11, fun v w => ∃ y431 y432 y433 : R3, v = .tuple #[.agg #[.bool y431.b, .slice y431.a y431.n y431.c, .slice y431.d y431.m y431.e, .bool y432.b, .slice y432.a y432.n y432.c, .slice y432.d y432.m y432.e], y433.val] ∧ Fr true w y431.val a1 ∧ Fr true w y432.val b1 ∧ Fr true w y433.val x1), (12, fun v w => ∃ y431q12 y432q12 y433q12 : R3, v = .tuple #[.agg #[.bool y431q12.b, .slice y431q12.a y431q12.n y431q12.c, .slice y431q12.d y431q12.m y431q12.e, .bool y432q12.b, .slice y432q12.a y432q12.n y432q12.c, .slice y432q12.d y432q12.m y432q12.e], y433q12.val] ∧ Fr true w y431q12.val a1 ∧ Fr true w y432q12.val b1 ∧ Fr true w y433q12.val x1), (13, fun v w => ∃ y431q12q13 y432q12q13 : R3, v = .agg #[.bool y431q12q13.b, .slice y431q12q13.a y431q12q13.n y431q12q13.c, .slice y431q12q13.d y431q12q13.m y431q12q13.e, .bool y432q12q13.b, .slice y432q12q13.a y432q12q13.n y432q12q13.c, .slice y432q12q13.d y432q12q13.m y432q12q13.e] ∧ Fr true w y431q12q13.val a1 ∧ Fr true w y432q12q13.val b1), (14, fun v w => ∃ y433q12q14 : R3, v = y433q12q14.val ∧ Fr true w y433q12q14.val x1), (15, fun v w => ∃ Br31_15 : Nat, v = .pointer (some ⟨Br31_15, 0, none⟩) ∧ W30.drew.heap.size ≤ Br31_15 ∧ w.heap[Br31_15]? = some (.cells #[.bool false, .slice none 0 0, .slice none 0 0, .bool false, .slice none 0 0, .slice none 0 0] 29 (0, 0))), (16, fun v w => ∃ Br31_16 : Nat, v = .pointer (some ⟨Br31_16, 0, none⟩) ∧ W30.drew.heap.size ≤ Br31_16 ∧ w.heap[Br31_16]? = some (.cells #[.bool false, .slice none 0 0, .slice none 0 0] 27 (0, 0)))]
   rfl (by kernel_rfl) (by decide) rfl ⟨(fun v w w' hb ⟨z0, e, h0⟩ => ⟨z0, e, Fr.below h0 hb⟩), ⟨(fun v w w' hb ⟨z0, e, h0⟩ => ⟨z0, e, Fr.below h0 hb⟩), ⟨(fun v w w' hb ⟨z0, z1, z2, e, h0, h1, h2⟩ => ⟨z0, z1, z2, e, Fr.below h0 hb, Fr.below h1 hb, Fr.below h2 hb⟩), ⟨(fun v w w' hb ⟨z0, z1, z2, e, h0, h1, h2⟩ => ⟨z0, z1, z2, e, Fr.below h0 hb, Fr.below h1 hb, Fr.below h2 hb⟩), ⟨(fun v w w' hb ⟨z0, z1, e, h0, h1⟩ => ⟨z0, z1, e, Fr.below h0 hb, Fr.below h1 hb⟩), ⟨(fun v w w' hb ⟨z0, e, h0⟩ => ⟨z0, e, Fr.below h0 hb⟩), ⟨(fun v w w' hb ⟨B, e, g, k⟩ => ⟨B, e, g, blk_keep k hb (blk_lt k)⟩), ⟨(fun v w w' hb ⟨B, e, g, k⟩ => ⟨B, e, g, blk_keep k hb (blk_lt k)⟩), trivial⟩⟩⟩⟩⟩⟩⟩⟩ ⟨fun v w ⟨B, e, g, k⟩ => ⟨B, e, blk_lt k⟩, ⟨fun v w ⟨B, e, g, k⟩ => ⟨B, e, blk_lt k⟩, trivial⟩⟩ (fun w' hb => Sx.below hh hb) ⟨?_, ?_, ?_, ?_, ?_, trivial⟩ ⟨?_, ?_, ?_, trivial⟩ (by decide) ?_
  ·
   refine StepM.of rfl (fun f w' hb hp K hK => ?_)
   have HSB := HS
   replace HS := Lib.hid (HS.out.below hb)
   simp only [fillA, fillT, List.foldl_cons, List.foldl_nil, Act.put, nb4, nb5, nb6]
   go_simp
   go_wp2_with (go_at_call 5; (with_reducible refine (HPp.out _).mono ?_); rintro e w41 ⟨v41, rfl, hv41, hb41⟩; obtain ⟨z41, rfl⟩ := hv41.open3)
   exact hK.out _ _ (z41.val) (by simp only [fillA, fillT, List.foldl_cons, List.foldl_nil, Act.put, nb4, nb5, nb6, nb1, nb2, nb3]) ⟨z41, rfl, hv41⟩ (fun h => absurd h (by decide)) hb41
  ·
   refine StepM.of rfl (fun f w' hb hp K hK => ?_)
   have HSB := HS
   replace HS := Lib.hid (HS.out.below hb)
   simp only [fillA, fillT, List.foldl_cons, List.foldl_nil, Act.put, nb4, nb5, nb6]
   go_simp
   go_wp2_with (go_at_call 5; (with_reducible refine (HPur.out _).mono ?_); rintro e w42 ⟨v42, rfl, hv42, hb42⟩; obtain ⟨z42, rfl⟩ := hv42.open3)
   exact hK.out _ _ (z42.val) (by simp only [fillA, fillT, List.foldl_cons, List.foldl_nil, Act.put, nb4, nb5, nb6, nb1, nb2, nb3]) ⟨z42, rfl, hv42⟩ (fun h => absurd h (by decide)) hb42
  ·
   refine StepM.of rfl (fun f w' hb hp K hK => ?_)
   obtain ⟨z41, e1, h1_0⟩ : ∃ z41 : R3, f 47 = z41.val ∧ Fr true w' z41.val a1 := hp 1 (by decide)
   obtain ⟨z42, e8, h8_0⟩ : ∃ z42 : R3, f 54 = z42.val ∧ Fr true w' z42.val w1 := hp 8 (by decide)
   have HSB := HS
   replace HS := Lib.hid (HS.out.below hb)
   replace HS := Lib.hid (HS.out.addP h1_0)
   replace HS := Lib.hid (HS.out.addP h8_0)
   simp only [fillA, fillT, List.foldl_cons, List.foldl_nil, Act.put, nb4, nb5, nb6, e1, e8]
   have a44 := HS.out.p 1 _ _ rfl
   have a45 := HS.out.p 0 _ _ rfl
   go_simp
   go_wp2_with (go_at_call 4; (with_reducible refine (HSP1.out _ _ _ a44 a45).mono ?_); rintro e w43 ⟨y431, y432, y433, rfl, hv431, hv432, hv433, hb43⟩)
   exact hK.out _ _ (.tuple #[.agg #[.bool y431.b, .slice y431.a y431.n y431.c, .slice y431.d y431.m y431.e, .bool y432.b, .slice y432.a y432.n y432.c, .slice y432.d y432.m y432.e], y433.val]) (by simp only [fillA, fillT, List.foldl_cons, List.foldl_nil, Act.put, nb4, nb5, nb6, nb1, nb2, nb3, e1, e8]) ⟨y431, y432, y433, rfl, hv431, hv432, hv433⟩ (fun h => absurd h (by decide)) hb43
  ·
   refine StepM.of rfl (fun f w' hb hp K hK => ?_)
   have HSB := HS
   replace HS := Lib.hid (HS.out.below hb)
   simp only [fillA, fillT, List.foldl_cons, List.foldl_nil, Act.put, nb4, nb5, nb6]
   go_simp
   exact hK.out _ _ (.pointer (some ⟨w'.heap.size, 0, none⟩)) (by simp only [fillA, fillT, List.foldl_cons, List.foldl_nil, Act.put, nb4, nb5, nb6, nb1, nb2, nb3]) ⟨_, rfl, hb.size, blk_new _ _ _⟩ (fun _ => rfl) (below1 w' _)
  ·
   refine StepM.of rfl (fun f w' hb hp K hK => ?_)
   have HSB := HS
   replace HS := Lib.hid (HS.out.below hb)
   simp only [fillA, fillT, List.foldl_cons, List.foldl_nil, Act.put, nb4, nb5, nb6]
   go_simp
   exact hK.out _ _ (.pointer (some ⟨w'.heap.size, 0, none⟩)) (by simp only [fillA, fillT, List.foldl_cons, List.foldl_nil, Act.put, nb4, nb5, nb6, nb1, nb2, nb3]) ⟨_, rfl, hb.size, blk_new _ _ _⟩ (fun _ => rfl) (below1 w' _)
  ·
   refine EagerM.of rfl (fun f w' hb hp => ?_)
   obtain ⟨y431, y432, y433, e11, h11_0, h11_1, h11_2⟩ : ∃ y431 y432 y433 : R3, f 57 = .tuple #[.agg #[.bool y431.b, .slice y431.a y431.n y431.c, .slice y431.d y431.m y431.e, .bool y432.b, .slice y432.a y432.n y432.c, .slice y432.d y432.m y432.e], y433.val] ∧ Fr true w' y431.val a1 ∧ Fr true w' y432.val b1 ∧ Fr true w' y433.val x1 := hp 11 (by decide)
   refine ⟨.tuple #[.agg #[.bool y431.b, .slice y431.a y431.n y431.c, .slice y431.d y431.m y431.e, .bool y432.b, .slice y432.a y432.n y432.c, .slice y432.d y432.m y432.e], y433.val], ⟨y431, y432, y433, rfl, h11_0, h11_1, h11_2⟩, by first | rfl | kernel_rfl, fun u => ?_⟩
   simp only [fillA, fillT, List.foldl_cons, List.foldl_nil, Act.put, nb4, nb5, nb6, e11]
   go_simp <;> with_reducible rfl
  ·
   refine EagerM.of rfl (fun f w' hb hp => ?_)
   obtain ⟨y431q12, y432q12, y433q12, e12, h12_0, h12_1, h12_2⟩ : ∃ y431q12 y432q12 y433q12 : R3, f 45 = .tuple #[.agg #[.bool y431q12.b, .slice y431q12.a y431q12.n y431q12.c, .slice y431q12.d y431q12.m y431q12.e, .bool y432q12.b, .slice y432q12.a y432q12.n y432q12.c, .slice y432q12.d y432q12.m y432q12.e], y433q12.val] ∧ Fr true w' y431q12.val a1 ∧ Fr true w' y432q12.val b1 ∧ Fr true w' y433q12.val x1 := hp 12 (by decide)
   refine ⟨.agg #[.bool y431q12.b, .slice y431q12.a y431q12.n y431q12.c, .slice y431q12.d y431q12.m y431q12.e, .bool y432q12.b, .slice y432q12.a y432q12.n y432q12.c, .slice y432q12.d y432q12.m y432q12.e], ⟨y431q12, y432q12, rfl, h12_0, h12_1⟩, by first | rfl | kernel_rfl, fun u => ?_⟩
   simp only [fillA, fillT, List.foldl_cons, List.foldl_nil, Act.put, nb4, nb5, nb6, e12]
   go_simp <;> with_reducible rfl
  ·
   refine EagerM.of rfl (fun f w' hb hp => ?_)
   obtain ⟨y431q12, y432q12, y433q12, e12, h12_0, h12_1, h12_2⟩ : ∃ y431q12 y432q12 y433q12 : R3, f 45 = .tuple #[.agg #[.bool y431q12.b, .slice y431q12.a y431q12.n y431q12.c, .slice y431q12.d y431q12.m y431q12.e, .bool y432q12.b, .slice y432q12.a y432q12.n y432q12.c, .slice y432q12.d y432q12.m y432q12.e], y433q12.val] ∧ Fr true w' y431q12.val a1 ∧ Fr true w' y432q12.val b1 ∧ Fr true w' y433q12.val x1 := hp 12 (by decide)
   refine ⟨y433q12.val, ⟨y433q12, rfl, h12_2⟩, by first | rfl | kernel_rfl, fun u => ?_⟩
   simp only [fillA, fillT, List.foldl_cons, List.foldl_nil, Act.put, nb4, nb5, nb6, e12]
   go_simp <;> with_reducible rfl
  ·
   intro f wr31 hb hp hd
   obtain ⟨z41, e1, h1_0⟩ : ∃ z41 : R3, f 47 = z41.val ∧ Fr true wr31 z41.val a1 := hp 1 (by decide)
   obtain ⟨z42, e8, h8_0⟩ : ∃ z42 : R3, f 54 = z42.val ∧ Fr true wr31 z42.val w1 := hp 8 (by decide)
   obtain ⟨y431, y432, y433, e11, h11_0, h11_1, h11_2⟩ : ∃ y431 y432 y433 : R3, f 57 = .tuple #[.agg #[.bool y431.b, .slice y431.a y431.n y431.c, .slice y431.d y431.m y431.e, .bool y432.b, .slice y432.a y432.n y432.c, .slice y432.d y432.m y432.e], y433.val] ∧ Fr true wr31 y431.val a1 ∧ Fr true wr31 y432.val b1 ∧ Fr true wr31 y433.val x1 := hp 11 (by decide)
   obtain ⟨y431q12, y432q12, y433q12, e12, h12_0, h12_1, h12_2⟩ : ∃ y431q12 y432q12 y433q12 : R3, f 45 = .tuple #[.agg #[.bool y431q12.b, .slice y431q12.a y431q12.n y431q12.c, .slice y431q12.d y431q12.m y431q12.e, .bool y432q12.b, .slice y432q12.a y432q12.n y432q12.c, .slice y432q12.d y432q12.m y432q12.e], y433q12.val] ∧ Fr true wr31 y431q12.val a1 ∧ Fr true wr31 y432q12.val b1 ∧ Fr true wr31 y433q12.val x1 := hp 12 (by decide)
   obtain ⟨y431q12q13, y432q12q13, e13, h13_0, h13_1⟩ : ∃ y431q12q13 y432q12q13 : R3, f 58 = .agg #[.bool y431q12q13.b, .slice y431q12q13.a y431q12q13.n y431q12q13.c, .slice y431q12q13.d y431q12q13.m y431q12q13.e, .bool y432q12q13.b, .slice y432q12q13.a y432q12q13.n y432q12q13.c, .slice y432q12q13.d y432q12q13.m y432q12q13.e] ∧ Fr true wr31 y431q12q13.val a1 ∧ Fr true wr31 y432q12q13.val b1 := hp 13 (by decide)
   obtain ⟨y433q12q14, e14, h14_0⟩ : ∃ y433q12q14 : R3, f 59 = y433q12q14.val ∧ Fr true wr31 y433q12q14.val x1 := hp 14 (by decide)
   obtain ⟨Br31_15, e15, g15, k15⟩ : ∃ Br31_15 : Nat, f 13 = .pointer (some ⟨Br31_15, 0, none⟩) ∧ W30.drew.heap.size ≤ Br31_15 ∧ wr31.heap[Br31_15]? = some (.cells #[.bool false, .slice none 0 0, .slice none 0 0, .bool false, .slice none 0 0, .slice none 0 0] 29 (0, 0)) := hp 15 (by decide)
   obtain ⟨Br31_16, e16, g16, k16⟩ : ∃ Br31_16 : Nat, f 14 = .pointer (some ⟨Br31_16, 0, none⟩) ∧ W30.drew.heap.size ≤ Br31_16 ∧ wr31.heap[Br31_16]? = some (.cells #[.bool false, .slice none 0 0, .slice none 0 0] 27 (0, 0)) := hp 16 (by decide)
   have hd15_16 : Br31_15 ≠ Br31_16 := fun h => hd 15 16 (by decide) (by decide) (by decide) (by decide) (by decide) (by show f 13 = f 14; rw [e15, e16, h])
   replace hh := Sx.below hh hb
   have hlt := HS.out.lt
   replace HS := Lib.hid (HS.out.below hb)
   replace HS := Lib.hid (HS.out.addP h1_0)
   replace HS := Lib.hid (HS.out.addP h8_0)
   replace HS := Lib.hid (HS.out.addP h11_0)
   replace HS := Lib.hid (HS.out.addP h11_1)
   replace HS := Lib.hid (HS.out.addP h11_2)
   replace HS := Lib.hid (HS.out.addP h12_0)
   replace HS := Lib.hid (HS.out.addP h12_1)
   replace HS := Lib.hid (HS.out.addP h12_2)
   replace HS := Lib.hid (HS.out.addP h13_0)
   replace HS := Lib.hid (HS.out.addP h13_1)
   replace HS := Lib.hid (HS.out.addP h14_0)
   have hge15 : w.heap.size ≤ Br31_15 := Nat.le_trans HSW.out g15
   have hne15 : ∀ b, b ∈ ([(Br14_16, y263q12q14.arr, 27), (Br14_15, arr6 y261q12q13 y262q12q13, 29), (w.heap.size + 3, #[.int .u8 (s0 : Int), .int .u8 (s1 : Int)], 22), (w.heap.size + 2, #[.int .u8 (n0 : Int), .int .u8 (n1 : Int), .int .u8 (n2 : Int), .int .u8 (n3 : Int)], 23), (w.heap.size + 1, #[.int .u8 (r0 : Int), .int .u8 (r1 : Int)], 22), (w.heap.size, #[.int .u8 (c0 : Int), .int .u8 (c1 : Int)], 22)] : List Bx) → b.1 ≠ Br31_15 := by
    intro b hb
    simp only [List.mem_cons, List.not_mem_nil, or_false] at hb
    rcases hb with rfl | rfl | rfl | rfl | rfl | rfl
    ·
     have := hlt _ (List.mem_iff_getElem?.2 ⟨0, rfl⟩); dsimp only at this ⊢; omega
    ·
     have := hlt _ (List.mem_iff_getElem?.2 ⟨1, rfl⟩); dsimp only at this ⊢; omega
    ·
     have := hlt _ (List.mem_iff_getElem?.2 ⟨2, rfl⟩); dsimp only at this ⊢; omega
    ·
     have := hlt _ (List.mem_iff_getElem?.2 ⟨3, rfl⟩); dsimp only at this ⊢; omega
    ·
     have := hlt _ (List.mem_iff_getElem?.2 ⟨4, rfl⟩); dsimp only at this ⊢; omega
    ·
     have := hlt _ (List.mem_iff_getElem?.2 ⟨5, rfl⟩); dsimp only at this ⊢; omega
   replace HS := Lib.hid (HS.out.addBox k15 hge15 (by rfl) hne15)
   have hge16 : w.heap.size ≤ Br31_16 := Nat.le_trans HSW.out g16
   have hne16 : ∀ b, b ∈ ([(Br31_15, #[.bool false, .slice none 0 0, .slice none 0 0, .bool false, .slice none 0 0, .slice none 0 0], 29), (Br14_16, y263q12q14.arr, 27), (Br14_15, arr6 y261q12q13 y262q12q13, 29), (w.heap.size + 3, #[.int .u8 (s0 : Int), .int .u8 (s1 : Int)], 22), (w.heap.size + 2, #[.int .u8 (n0 : Int), .int .u8 (n1 : Int), .int .u8 (n2 : Int), .int .u8 (n3 : Int)], 23), (w.heap.size + 1, #[.int .u8 (r0 : Int), .int .u8 (r1 : Int)], 22), (w.heap.size, #[.int .u8 (c0 : Int), .int .u8 (c1 : Int)], 22)] : List Bx) → b.1 ≠ Br31_16 := by
    intro b hb
    simp only [List.mem_cons, List.not_mem_nil, or_false] at hb
    rcases hb with rfl | rfl | rfl | rfl | rfl | rfl | rfl
    ·
     exact hd15_16
    ·
     have := hlt _ (List.mem_iff_getElem?.2 ⟨0, rfl⟩); dsimp only at this ⊢; omega
    ·
     have := hlt _ (List.mem_iff_getElem?.2 ⟨1, rfl⟩); dsimp only at this ⊢; omega
    ·
     have := hlt _ (List.mem_iff_getElem?.2 ⟨2, rfl⟩); dsimp only at this ⊢; omega
    ·
     have := hlt _ (List.mem_iff_getElem?.2 ⟨3, rfl⟩); dsimp only at this ⊢; omega
    ·
     have := hlt _ (List.mem_iff_getElem?.2 ⟨4, rfl⟩); dsimp only at this ⊢; omega
    ·
     have := hlt _ (List.mem_iff_getElem?.2 ⟨5, rfl⟩); dsimp only at this ⊢; omega
   replace HS := Lib.hid (HS.out.addBox k16 hge16 (by rfl) hne16)
   simp only [fillA, fillT, List.foldl_cons, List.foldl_nil, Act.put, nb4, nb5, nb6, e1, e8, e11, e12, e13, e14, e15, e16]
   clear hp hd hb hlt e1 e8 e11 e12 e13 e14 e15 e16
   refine rdA (i := 17) rfl (fun K hK => ?_)
   have b6e := (HS.out.at 1 _ _ _ rfl)
   have b6c0 := blk_cell b6e 0 (.bool false) rfl
   have b6c1 := blk_cell b6e 1 (.slice none 0 0) rfl
   have b6c2 := blk_cell b6e 2 (.slice none 0 0) rfl
   have b6c3 := blk_cell b6e 3 (.bool false) rfl
   have b6c4 := blk_cell b6e 4 (.slice none 0 0) rfl
   have b6c5 := blk_cell b6e 5 (.slice none 0 0) rfl
   have b6f0 := blk_frozen b6e 0
   have b6f1 := blk_frozen b6e 1
   have b6f2 := blk_frozen b6e 2
   have b6f3 := blk_frozen b6e 3
   have b6f4 := blk_frozen b6e 4
   have b6f5 := blk_frozen b6e 5
   have b6l := blk_lt b6e
   clear b6e
   go_simp
   refine hK.out _ _ ((((((HS.out).st_RR 1 r30 r30 y431q12q13 y432q12q13 rfl)).erase 1)).erase 0) (fun hh => ?_)
   clear hK K b6c0 b6c1 b6c2 b6c3 b6c4 b6c5 b6f0 b6f1 b6f2 b6f3 b6f4 b6f5 b6l
   try simp only [nbs, Act.put]
   generalize hW46 : ((((((wr31).setCell _ _).setCell _ _).setCell _ _).setCell _ _).setCell _ _).setCell _ _ = W46 at *
   replace HS := Lib.hid (((HS.out).st_RR 1 r30 r30 y431q12q13 y432q12q13 rfl).to hW46 (by (try simp only [nb5, nb6]); rfl))
   clear hW46
   refine rdA (i := 18) rfl (fun K hK => ?_)
   have b7e := (HS.out.at 0 _ _ _ rfl)
   have b7c0 := blk_cell b7e 0 (.bool false) rfl
   have b7c1 := blk_cell b7e 1 (.slice none 0 0) rfl
   have b7c2 := blk_cell b7e 2 (.slice none 0 0) rfl
   have b7f0 := blk_frozen b7e 0
   have b7f1 := blk_frozen b7e 1
   have b7f2 := blk_frozen b7e 2
   have b7l := blk_lt b7e
   clear b7e
   go_simp
   refine hK.out _ _ ((((((HS.out).st_R 0 r30 y433q12q14 rfl)).erase 1)).erase 0) (fun hh => ?_)
   clear hK K b7c0 b7c1 b7c2 b7f0 b7f1 b7f2 b7l
   try simp only [nbs, Act.put]
   generalize hW47 : (((W46).setCell _ _).setCell _ _).setCell _ _ = W47 at *
   replace HS := Lib.hid (((HS.out).st_R 0 r30 y433q12q14 rfl).to hW47 (by (try simp only [nb5, nb6]); rfl))
   clear hW47
   refine wpAnyH_done (by kernel_rfl) ?_ _
   go_wp2_with fail
   refine wp_region_held_drew (S := (fun w' => Sx w w' [(Br31_16, y433q12q14.arr, 27), (Br31_15, arr6 y431q12q13 y432q12q13, 29), (Br14_16, y263q12q14.arr, 27), (Br14_15, arr6 y261q12q13 y262q12q13, 29), (w.heap.size + 3, #[.int .u8 (s0 : Int), .int .u8 (s1 : Int)], 22), (w.heap.size + 2, #[.int .u8 (n0 : Int), .int .u8 (n1 : Int), .int .u8 (n2 : Int), .int .u8 (n3 : Int)], 23), (w.heap.size + 1, #[.int .u8 (r0 : Int), .int .u8 (r1 : Int)], 22), (w.heap.size, #[.int .u8 (c0 : Int), .int .u8 (c1 : Int)], 22)] [])) (by kernel_rfl) ((HS.out.drew).bare) (fun hh => ?_)
   replace HS := Lib.hid HS.out.drew
   have HSW := Lib.hid HS.out.bel.size
   refine tkB (i := 0) (v := ?vk49) rfl ?hk49 ?rk49
   case hk49 => intro u hSu; (try dsimp only at hSu); obtain ⟨qb5c0, qb5c1, qb5c2, _⟩ := fac3 (x := y263q12q14) (hSu.at 2 _ _ _ rfl); clear hSu; go_simp <;> with_reducible rfl
   try simp only [nbs, Act.put]
   refine tkB (i := 2) (v := ?vk50) rfl ?hk50 ?rk50
   case hk50 => intro u hSu; (try dsimp only at hSu); obtain ⟨qb5c0, qb5c1, qb5c2, _⟩ := fac3 (x := y263q12q14) (hSu.at 2 _ _ _ rfl); clear hSu; go_simp <;> with_reducible rfl
   try simp only [nbs, Act.put]
   refine tkB (i := 3) (v := ?vk51) rfl ?hk51 ?rk51
   case hk51 => intro u hSu; (try dsimp only at hSu); obtain ⟨qb4c0, qb4c1, qb4c2, qb4c3, qb4c4, qb4c5, _⟩ := fac6 (x := y261q12q13) (y := y262q12q13) (hSu.at 3 _ _ _ rfl); clear hSu; go_simp <;> with_reducible rfl
   try simp only [nbs, Act.put]
   refine tkB (i := 5) (v := ?vk52) rfl ?hk52 ?rk52
   case hk52 => intro u hSu; (try dsimp only at hSu); obtain ⟨qb5c0, qb5c1, qb5c2, _⟩ := fac3 (x := y263q12q14) (hSu.at 2 _ _ _ rfl); clear hSu; go_simp <;> with_reducible rfl
   try simp only [nbs, Act.put]
   refine tkB (i := 7) (v := ?vk53) rfl ?hk53 ?rk53
   case hk53 => intro u hSu; go_simp <;> with_reducible rfl
   try simp only [nbs, Act.put]
   refine tkB (i := 8) (v := ?vk54) rfl ?hk54 ?rk54
   case hk54 => intro u hSu; (try dsimp only at hSu); have qb2e := (hSu.at 5 _ _ _ rfl); have qb2c0 := blk_cell qb2e 0 (.int .u8 (n0 : Int)) rfl; have qb2c1 := blk_cell qb2e 1 (.int .u8 (n1 : Int)) rfl; have qb2c2 := blk_cell qb2e 2 (.int .u8 (n2 : Int)) rfl; have qb2c3 := blk_cell qb2e 3 (.int .u8 (n3 : Int)) rfl; clear qb2e; clear hSu; go_simp <;> with_reducible rfl
   try simp only [nbs, Act.put]
   refine tkB (i := 9) (v := ?vk55) rfl ?hk55 ?rk55
   case hk55 => intro u hSu; go_simp <;> with_reducible rfl
   try simp only [nbs, Act.put]
   refine tkB (i := 10) (v := ?vk56) rfl ?hk56 ?rk56
   case hk56 => intro u hSu; go_simp <;> with_reducible rfl
   try simp only [nbs, Act.put]
   refine tkB (i := 16) (v := ?vk57) rfl ?hk57 ?rk57
   case hk57 => intro u hSu; (try dsimp only at hSu); obtain ⟨qb7c0, qb7c1, qb7c2, _⟩ := fac3 (x := y433q12q14) (hSu.at 0 _ _ _ rfl); clear hSu; go_simp <;> with_reducible rfl
   try simp only [nbs, Act.put]
   refine tkB (i := 18) (v := ?vk58) rfl ?hk58 ?rk58
   case hk58 => intro u hSu; (try dsimp only at hSu); obtain ⟨qb7c0, qb7c1, qb7c2, _⟩ := fac3 (x := y433q12q14) (hSu.at 0 _ _ _ rfl); clear hSu; go_simp <;> with_reducible rfl
   try simp only [nbs, Act.put]
   refine tkB (i := 19) (v := ?vk59) rfl ?hk59 ?rk59
   case hk59 => intro u hSu; (try dsimp only at hSu); obtain ⟨qb6c0, qb6c1, qb6c2, qb6c3, qb6c4, qb6c5, _⟩ := fac6 (x := y431q12q13) (y := y432q12q13) (hSu.at 1 _ _ _ rfl); clear hSu; go_simp <;> with_reducible rfl
   try simp only [nbs, Act.put]
   refine tkB (i := 21) (v := ?vk60) rfl ?hk60 ?rk60
   case hk60 => intro u hSu; (try dsimp only at hSu); obtain ⟨qb7c0, qb7c1, qb7c2, _⟩ := fac3 (x := y433q12q14) (hSu.at 0 _ _ _ rfl); clear hSu; go_simp <;> with_reducible rfl
   try simp only [nbs, Act.put]
   refine tkB (i := 23) (v := ?vk61) rfl ?hk61 ?rk61
   case hk61 => intro u hSu; go_simp <;> with_reducible rfl
   try simp only [nbs, Act.put]
   refine tkB (i := 24) (v := ?vk62) rfl ?hk62 ?rk62
   case hk62 => intro u hSu; (try dsimp only at hSu); have qb2e := (hSu.at 5 _ _ _ rfl); have qb2c0 := blk_cell qb2e 0 (.int .u8 (n0 : Int)) rfl; have qb2c1 := blk_cell qb2e 1 (.int .u8 (n1 : Int)) rfl; have qb2c2 := blk_cell qb2e 2 (.int .u8 (n2 : Int)) rfl; have qb2c3 := blk_cell qb2e 3 (.int .u8 (n3 : Int)) rfl; clear qb2e; clear hSu; go_simp <;> with_reducible rfl
   try simp only [nbs, Act.put]
   refine tkB (i := 25) (v := ?vk63) rfl ?hk63 ?rk63
   case hk63 => intro u hSu; go_simp <;> with_reducible rfl
   try simp only [nbs, Act.put]
   refine tkB (i := 26) (v := ?vk64) rfl ?hk64 ?rk64
   case hk64 => intro u hSu; go_simp <;> with_reducible rfl
   try simp only [nbs, Act.put]
   refine wpAnyH_modular [1, 4, 6, 11, 12, 13, 14, 15, 17, 20, 22, 27, 28, 29, 30, 31, 32, 33] [1, 4, 6, 11, 12, 13, 14, 15, 17, 20, 22, 27, 28, 29, 30, 31, 32, 33] [] [61, 64, 66, 71, 72, 73, 74, 75, 77, 80, 82, 87, 88, 89, 90, 91, 15, 16] #[true, true, true, true, true, true, true, true, true, true, true, true, true, true, true, true, true, true, true, true, true, true, true, true, true, true, true, true, true, true, true, true, true, true, false, false] 2 [(1, 61), (4, 64), (6, 66), (11, 71), (12, 72), (13, 73), (14, 74), (15, 75), (17, 77), (20, 80), (22, 82), (27, 87), (28, 88), (29, 89), (30, 90), (31, 91), (32, 15), (33, 16)] [(1, []), (4, [1]), (6, [4]), (11, [6]), (12, [6, 11]), (13, [12]), (14, [13]), (15, [1, 14]), (17, [15]), (20, [17]), (22, [20]), (27, [22]), (28, [22, 27]), (29, [28]), (30, [29]), (31, [17, 30]), (32, []), (33, [])] [32, 33] [(1, fun v w => ∃ z65a z65b : R3, v = .agg #[.bool z65a.b, .slice z65a.a z65a.n z65a.c, .slice z65a.d z65a.m z65a.e, .bool z65b.b, .slice z65b.a z65b.n z65b.c, .slice z65b.d z65b.m z65b.e] ∧ Fr true w z65a.val x0 ∧ Fr true w z65b.val x0), (4, fun v w => ∃ z66 : R3, v = z66.val ∧ Fr true w z66.val b0), (6, fun v w => ∃ z67 : R3, v = z67.val ∧ Fr true w z67.val (b0 - x0)), (11, fun v w => ∃ z68 : R3, v = z68.val ∧ Fr true w z68.val g0), (12, fun v w => ∃ z69 : R3, v = z69.val ∧ Fr true w z69.val ((b0 - x0) * g0)), (13, fun v w => ∃ z70 : R3, v = z70.val ∧ Fr true w z70.val (x0 + ((b0 - x0) * g0))), (14, fun v w => ∃ z71a z71b : R3, v = .agg #[.bool z71a.b, .slice z71a.a z71a.n z71a.c, .slice z71a.d z71a.m z71a.e, .bool z71b.b, .slice z71b.a z71b.n z71b.c, .slice z71b.d z71b.m z71b.e] ∧ Fr true w z71a.val (x0 + ((b0 - x0) * g0)) ∧ Fr true w z71b.val (x0 + ((b0 - x0) * g0))), (15, fun v w => ∃ z72a z72b : R3, v = .agg #[.bool z72a.b, .slice z72a.a z72a.n z72a.c, .slice z72a.d z72a.m z72a.e, .bool z72b.b, .slice z72b.a z72b.n z72b.c, .slice z72b.d z72b.m z72b.e] ∧ Fr true w z72a.val x0 ∧ Fr true w z72b.val (x0 + ((b0 - x0) * g0))), (17, fun v w => ∃ z73a z73b : R3, v = .agg #[.bool z73a.b, .slice z73a.a z73a.n z73a.c, .slice z73a.d z73a.m z73a.e, .bool z73b.b, .slice z73b.a z73b.n z73b.c, .slice z73b.d z73b.m z73b.e] ∧ Fr true w z73a.val x1 ∧ Fr true w z73b.val x1), (20, fun v w => ∃ z74 : R3, v = z74.val ∧ Fr true w z74.val b1), (22, fun v w => ∃ z75 : R3, v = z75.val ∧ Fr true w z75.val (b1 - x1)), (27, fun v w => ∃ z76 : R3, v = z76.val ∧ Fr true w z76.val g1), (28, fun v w => ∃ z77 : R3, v = z77.val ∧ Fr true w z77.val ((b1 - x1) * g1)), (29, fun v w => ∃ z78 : R3, v = z78.val ∧ Fr true w z78.val (x1 + ((b1 - x1) * g1))), (30, fun v w => ∃ z79a z79b : R3, v = .agg #[.bool z79a.b, .slice z79a.a z79a.n z79a.c, .slice z79a.d z79a.m z79a.e, .bool z79b.b, .slice z79b.a z79b.n z79b.c, .slice z79b.d z79b.m z79b.e] ∧ Fr true w z79a.val (x1 + ((b1 - x1) * g1)) ∧ Fr true w z79b.val (x1 + ((b1 - x1) * g1))), (31, fun v w => ∃ z80a z80b : R3, v = .agg #[.bool z80a.b, .slice z80a.a z80a.n z80a.c, .slice z80a.d z80a.m z80a.e, .bool z80b.b, .slice z80b.a z80b.n z80b.c, .slice z80b.d z80b.m z80b.e] ∧ Fr true w z80a.val x1 ∧ Fr true w z80b.val (x1 + ((b1 - x1) * g1))), (32, fun v w => ∃ Br48_32 : Nat, v = .pointer (some ⟨Br48_32, 0, none⟩) ∧ W47.drew.heap.size ≤ Br48_32 ∧ w.heap[Br48_32]? = some (.cells #[.bool false, .slice none 0 0, .slice none 0 0, .bool false, .slice none 0 0, .slice none 0 0] 29 (0, 0))), (33, fun v w => ∃ Br48_33 : Nat, v = .pointer (some ⟨Br48_33, 0, none⟩) ∧ W47.drew.heap.size ≤ Br48_33 ∧ w.heap[Br48_33]? = some (.cells #[.bool false, .slice none 0 0, .slice none 0 0, .bool false, .slice none 0 0, .slice none 0 0] 29 (0, 0)))]
    rfl (by kernel_rfl) (by decide) rfl ⟨(fun v w w' hb ⟨z0, z1, e, h0, h1⟩ => ⟨z0, z1, e, Fr.below h0 hb, Fr.below h1 hb⟩), ⟨(fun v w w' hb ⟨z0, e, h0⟩ => ⟨z0, e, Fr.below h0 hb⟩), ⟨(fun v w w' hb ⟨z0, e, h0⟩ => ⟨z0, e, Fr.below h0 hb⟩), ⟨(fun v w w' hb ⟨z0, e, h0⟩ => ⟨z0, e, Fr.below h0 hb⟩), ⟨(fun v w w' hb ⟨z0, e, h0⟩ => ⟨z0, e, Fr.below h0 hb⟩), ⟨(fun v w w' hb ⟨z0, e, h0⟩ => ⟨z0, e, Fr.below h0 hb⟩), ⟨(fun v w w' hb ⟨z0, z1, e, h0, h1⟩ => ⟨z0, z1, e, Fr.below h0 hb, Fr.below h1 hb⟩), ⟨(fun v w w' hb ⟨z0, z1, e, h0, h1⟩ => ⟨z0, z1, e, Fr.below h0 hb, Fr.below h1 hb⟩), ⟨(fun v w w' hb ⟨z0, z1, e, h0, h1⟩ => ⟨z0, z1, e, Fr.below h0 hb, Fr.below h1 hb⟩), ⟨(fun v w w' hb ⟨z0, e, h0⟩ => ⟨z0, e, Fr.below h0 hb⟩), ⟨(fun v w w' hb ⟨z0, e, h0⟩ => ⟨z0, e, Fr.below h0 hb⟩), ⟨(fun v w w' hb ⟨z0, e, h0⟩ => ⟨z0, e, Fr.below h0 hb⟩), ⟨(fun v w w' hb ⟨z0, e, h0⟩ => ⟨z0, e, Fr.below h0 hb⟩), ⟨(fun v w w' hb ⟨z0, e, h0⟩ => ⟨z0, e, Fr.below h0 hb⟩), ⟨(fun v w w' hb ⟨z0, z1, e, h0, h1⟩ => ⟨z0, z1, e, Fr.below h0 hb, Fr.below h1 hb⟩), ⟨(fun v w w' hb ⟨z0, z1, e, h0, h1⟩ => ⟨z0, z1, e, Fr.below h0 hb, Fr.below h1 hb⟩), ⟨(fun v w w' hb ⟨B, e, g, k⟩ => ⟨B, e, g, blk_keep k hb (blk_lt k)⟩), ⟨(fun v w w' hb ⟨B, e, g, k⟩ => ⟨B, e, g, blk_keep k hb (blk_lt k)⟩), trivial⟩⟩⟩⟩⟩⟩⟩⟩⟩⟩⟩⟩⟩⟩⟩⟩⟩⟩ ⟨fun v w ⟨B, e, g, k⟩ => ⟨B, e, blk_lt k⟩, ⟨fun v w ⟨B, e, g, k⟩ => ⟨B, e, blk_lt k⟩, trivial⟩⟩ (fun w' hb => Sx.below hh hb) ⟨?_, ?_, ?_, ?_, ?_, ?_, ?_, ?_, ?_, ?_, ?_, ?_, ?_, ?_, ?_, ?_, ?_, ?_, trivial⟩ trivial (by decide) ?_
   ·
    refine StepM.of rfl (fun f w' hb hp K hK => ?_)
    have HSB := HS
    replace HS := Lib.hid (HS.out.below hb)
    simp only [fillA, fillT, List.foldl_cons, List.foldl_nil, Act.put, nb4, nb5, nb6]
    have a81 := HS.out.p 11 _ _ rfl
    go_simp
    go_wp2_with (go_at_call 6; (with_reducible refine (only_any x0 _ _ a81).mono ?_); rintro e w65 ⟨v65, rfl, ⟨z65a, z65b, rfl, hv65, hw65⟩, hb65⟩)
    exact hK.out _ _ (.agg #[.bool z65a.b, .slice z65a.a z65a.n z65a.c, .slice z65a.d z65a.m z65a.e, .bool z65b.b, .slice z65b.a z65b.n z65b.c, .slice z65b.d z65b.m z65b.e]) (by simp only [fillA, fillT, List.foldl_cons, List.foldl_nil, Act.put, nb4, nb5, nb6, nb1, nb2, nb3]) ⟨z65a, z65b, rfl, hv65, hw65⟩ (fun h => absurd h (by decide)) hb65
   ·
    refine StepM.of rfl (fun f w' hb hp K hK => ?_)
    have HSB := HS
    replace HS := Lib.hid (HS.out.below hb)
    simp only [fillA, fillT, List.foldl_cons, List.foldl_nil, Act.put, nb4, nb5, nb6]
    have a82 := HS.out.p 13 _ _ rfl
    have a83 := HS.out.p 12 _ _ rfl
    go_simp
    go_wp2_with (go_at_call 9; (with_reducible refine (rhi_any a0 b0 _ _ (rngP a82 a83)).mono ?_); rintro e w66 ⟨v66, rfl, hv66, hb66⟩; obtain ⟨z66, rfl⟩ := hv66.open3)
    exact hK.out _ _ (z66.val) (by simp only [fillA, fillT, List.foldl_cons, List.foldl_nil, Act.put, nb4, nb5, nb6, nb1, nb2, nb3]) ⟨z66, rfl, hv66⟩ (fun h => absurd h (by decide)) hb66
   ·
    refine StepM.of rfl (fun f w' hb hp K hK => ?_)
    obtain ⟨z66, e4, h4_0⟩ : ∃ z66 : R3, f 64 = z66.val ∧ Fr true w' z66.val b0 := hp 4 (by decide)
    have HSB := HS
    replace HS := Lib.hid (HS.out.below hb)
    replace HS := Lib.hid (HS.out.addP h4_0)
    simp only [fillA, fillT, List.foldl_cons, List.foldl_nil, Act.put, nb4, nb5, nb6, e4]
    have a84 := HS.out.p 0 _ _ rfl
    have a85 := HS.out.p 12 _ _ rfl
    go_simp
    go_wp2_with (go_at_call 10; (with_reducible refine (subRat_any b0 x0 _ _ _ a84 a85 (szR_mono Sb0.out (by omega)) (szR_mono Sx0.out (by omega))).mono ?_); rintro e w67 ⟨v67, rfl, hv67, hb67⟩; obtain ⟨z67, rfl⟩ := hv67.open3)
    exact hK.out _ _ (z67.val) (by simp only [fillA, fillT, List.foldl_cons, List.foldl_nil, Act.put, nb4, nb5, nb6, nb1, nb2, nb3, e4]) ⟨z67, rfl, hv67⟩ (fun h => absurd h (by decide)) hb67
   ·
    refine StepM.of rfl (fun f w' hb hp K hK => ?_)
    have HSB := HS
    replace HS := Lib.hid (HS.out.below hb)
    simp only [fillA, fillT, List.foldl_cons, List.foldl_nil, Act.put, nb4, nb5, nb6]
    go_simp
    go_wp2_with (go_at_call 5; (with_reducible refine (HPq2.out _).mono ?_); rintro e w68 ⟨v68, rfl, hv68, hb68⟩; obtain ⟨z68, rfl⟩ := hv68.open3)
    exact hK.out _ _ (z68.val) (by simp only [fillA, fillT, List.foldl_cons, List.foldl_nil, Act.put, nb4, nb5, nb6, nb1, nb2, nb3]) ⟨z68, rfl, hv68⟩ (fun h => absurd h (by decide)) hb68
   ·
    refine StepM.of rfl (fun f w' hb hp K hK => ?_)
    obtain ⟨z67, e6, h6_0⟩ : ∃ z67 : R3, f 66 = z67.val ∧ Fr true w' z67.val (b0 - x0) := hp 6 (by decide)
    obtain ⟨z68, e11, h11_0⟩ : ∃ z68 : R3, f 71 = z68.val ∧ Fr true w' z68.val g0 := hp 11 (by decide)
    have HSB := HS
    replace HS := Lib.hid (HS.out.below hb)
    replace HS := Lib.hid (HS.out.addP h6_0)
    replace HS := Lib.hid (HS.out.addP h11_0)
    simp only [fillA, fillT, List.foldl_cons, List.foldl_nil, Act.put, nb4, nb5, nb6, e6, e11]
    have a86 := HS.out.p 1 _ _ rfl
    have a87 := HS.out.p 0 _ _ rfl
    go_simp
    go_wp2_with (go_at_call 11; (with_reducible refine (mulRat_any (b0 - x0) g0 _ _ _ a86 a87 (szR_mono (szR_sub Sb0.out Sx0.out) (by omega)) (szR_mono Sg0.out (by omega))).mono ?_); rintro e w69 ⟨v69, rfl, hv69, hb69⟩; obtain ⟨z69, rfl⟩ := hv69.open3)
    exact hK.out _ _ (z69.val) (by simp only [fillA, fillT, List.foldl_cons, List.foldl_nil, Act.put, nb4, nb5, nb6, nb1, nb2, nb3, e6, e11]) ⟨z69, rfl, hv69⟩ (fun h => absurd h (by decide)) hb69
   ·
    refine StepM.of rfl (fun f w' hb hp K hK => ?_)
    obtain ⟨z69, e12, h12_0⟩ : ∃ z69 : R3, f 72 = z69.val ∧ Fr true w' z69.val ((b0 - x0) * g0) := hp 12 (by decide)
    have HSB := HS
    replace HS := Lib.hid (HS.out.below hb)
    replace HS := Lib.hid (HS.out.addP h12_0)
    simp only [fillA, fillT, List.foldl_cons, List.foldl_nil, Act.put, nb4, nb5, nb6, e12]
    have a88 := HS.out.p 12 _ _ rfl
    have a89 := HS.out.p 0 _ _ rfl
    go_simp
    go_wp2_with (go_at_call 8; (with_reducible refine (addRat_any x0 ((b0 - x0) * g0) _ _ _ a88 a89 (szR_mono Sx0.out (by omega)) (szR_mono (szR_mul (szR_sub Sb0.out Sx0.out) Sg0.out) (by omega))).mono ?_); rintro e w70 ⟨v70, rfl, hv70, hb70⟩; obtain ⟨z70, rfl⟩ := hv70.open3)
    exact hK.out _ _ (z70.val) (by simp only [fillA, fillT, List.foldl_cons, List.foldl_nil, Act.put, nb4, nb5, nb6, nb1, nb2, nb3, e12]) ⟨z70, rfl, hv70⟩ (fun h => absurd h (by decide)) hb70
   ·
    refine StepM.of rfl (fun f w' hb hp K hK => ?_)
    obtain ⟨z70, e13, h13_0⟩ : ∃ z70 : R3, f 73 = z70.val ∧ Fr true w' z70.val (x0 + ((b0 - x0) * g0)) := hp 13 (by decide)
    have HSB := HS
    replace HS := Lib.hid (HS.out.below hb)
    replace HS := Lib.hid (HS.out.addP h13_0)
    simp only [fillA, fillT, List.foldl_cons, List.foldl_nil, Act.put, nb4, nb5, nb6, e13]
    have a90 := HS.out.p 0 _ _ rfl
    go_simp
    go_wp2_with (go_at_call 6; (with_reducible refine (only_any (x0 + ((b0 - x0) * g0)) _ _ a90).mono ?_); rintro e w71 ⟨v71, rfl, ⟨z71a, z71b, rfl, hv71, hw71⟩, hb71⟩)
    exact hK.out _ _ (.agg #[.bool z71a.b, .slice z71a.a z71a.n z71a.c, .slice z71a.d z71a.m z71a.e, .bool z71b.b, .slice z71b.a z71b.n z71b.c, .slice z71b.d z71b.m z71b.e]) (by simp only [fillA, fillT, List.foldl_cons, List.foldl_nil, Act.put, nb4, nb5, nb6, nb1, nb2, nb3, e13]) ⟨z71a, z71b, rfl, hv71, hw71⟩ (fun h => absurd h (by decide)) hb71
   ·
    refine StepM.of rfl (fun f w' hb hp K hK => ?_)
    obtain ⟨z65a, z65b, e1, h1_0, h1_1⟩ : ∃ z65a z65b : R3, f 61 = .agg #[.bool z65a.b, .slice z65a.a z65a.n z65a.c, .slice z65a.d z65a.m z65a.e, .bool z65b.b, .slice z65b.a z65b.n z65b.c, .slice z65b.d z65b.m z65b.e] ∧ Fr true w' z65a.val x0 ∧ Fr true w' z65b.val x0 := hp 1 (by decide)
    obtain ⟨z71a, z71b, e14, h14_0, h14_1⟩ : ∃ z71a z71b : R3, f 74 = .agg #[.bool z71a.b, .slice z71a.a z71a.n z71a.c, .slice z71a.d z71a.m z71a.e, .bool z71b.b, .slice z71b.a z71b.n z71b.c, .slice z71b.d z71b.m z71b.e] ∧ Fr true w' z71a.val (x0 + ((b0 - x0) * g0)) ∧ Fr true w' z71b.val (x0 + ((b0 - x0) * g0)) := hp 14 (by decide)
    have HSB := HS
    replace HS := Lib.hid (HS.out.below hb)
    replace HS := Lib.hid (HS.out.addP h1_0)
    replace HS := Lib.hid (HS.out.addP h1_1)
    replace HS := Lib.hid (HS.out.addP h14_0)
    replace HS := Lib.hid (HS.out.addP h14_1)
    simp only [fillA, fillT, List.foldl_cons, List.foldl_nil, Act.put, nb4, nb5, nb6, e1, e14]
    have a91 := HS.out.p 3 _ _ rfl
    have a92 := HS.out.p 2 _ _ rfl
    have a93 := HS.out.p 1 _ _ rfl
    have a94 := HS.out.p 0 _ _ rfl
    go_simp
    go_wp2_with (go_at_call 7; (with_reducible refine (lhull_le x0 (x0 + ((b0 - x0) * g0)) _ _ _ (rngP a91 a92) (rngP a93 a94) HY0.out (szR_mono Sx0.out (by omega)) (szR_mono (szR_add Sx0.out (szR_mul (szR_sub Sb0.out Sx0.out) Sg0.out)) (by omega))).mono ?_); rintro e w72 ⟨v72, rfl, ⟨z72a, z72b, rfl, hv72, hw72⟩, hb72⟩)
    exact hK.out _ _ (.agg #[.bool z72a.b, .slice z72a.a z72a.n z72a.c, .slice z72a.d z72a.m z72a.e, .bool z72b.b, .slice z72b.a z72b.n z72b.c, .slice z72b.d z72b.m z72b.e]) (by simp only [fillA, fillT, List.foldl_cons, List.foldl_nil, Act.put, nb4, nb5, nb6, nb1, nb2, nb3, e1, e14]) ⟨z72a, z72b, rfl, hv72, hw72⟩ (fun h => absurd h (by decide)) hb72
   ·
    refine StepM.of rfl (fun f w' hb hp K hK => ?_)
    have HSB := HS
    replace HS := Lib.hid (HS.out.below hb)
    simp only [fillA, fillT, List.foldl_cons, List.foldl_nil, Act.put, nb4, nb5, nb6]
    have a95 := HS.out.p 0 _ _ rfl
    go_simp
    go_wp2_with (go_at_call 6; (with_reducible refine (only_any x1 _ _ a95).mono ?_); rintro e w73 ⟨v73, rfl, ⟨z73a, z73b, rfl, hv73, hw73⟩, hb73⟩)
    exact hK.out _ _ (.agg #[.bool z73a.b, .slice z73a.a z73a.n z73a.c, .slice z73a.d z73a.m z73a.e, .bool z73b.b, .slice z73b.a z73b.n z73b.c, .slice z73b.d z73b.m z73b.e]) (by simp only [fillA, fillT, List.foldl_cons, List.foldl_nil, Act.put, nb4, nb5, nb6, nb1, nb2, nb3]) ⟨z73a, z73b, rfl, hv73, hw73⟩ (fun h => absurd h (by decide)) hb73
   ·
    refine StepM.of rfl (fun f w' hb hp K hK => ?_)
    have HSB := HS
    replace HS := Lib.hid (HS.out.below hb)
    simp only [fillA, fillT, List.foldl_cons, List.foldl_nil, Act.put, nb4, nb5, nb6]
    have a96 := HS.out.p 2 _ _ rfl
    have a97 := HS.out.p 1 _ _ rfl
    go_simp
    go_wp2_with (go_at_call 9; (with_reducible refine (rhi_any a1 b1 _ _ (rngP a96 a97)).mono ?_); rintro e w74 ⟨v74, rfl, hv74, hb74⟩; obtain ⟨z74, rfl⟩ := hv74.open3)
    exact hK.out _ _ (z74.val) (by simp only [fillA, fillT, List.foldl_cons, List.foldl_nil, Act.put, nb4, nb5, nb6, nb1, nb2, nb3]) ⟨z74, rfl, hv74⟩ (fun h => absurd h (by decide)) hb74
   ·
    refine StepM.of rfl (fun f w' hb hp K hK => ?_)
    obtain ⟨z74, e20, h20_0⟩ : ∃ z74 : R3, f 80 = z74.val ∧ Fr true w' z74.val b1 := hp 20 (by decide)
    have HSB := HS
    replace HS := Lib.hid (HS.out.below hb)
    replace HS := Lib.hid (HS.out.addP h20_0)
    simp only [fillA, fillT, List.foldl_cons, List.foldl_nil, Act.put, nb4, nb5, nb6, e20]
    have a98 := HS.out.p 0 _ _ rfl
    have a99 := HS.out.p 1 _ _ rfl
    go_simp
    go_wp2_with (go_at_call 10; (with_reducible refine (subRat_any b1 x1 _ _ _ a98 a99 (szR_mono Sb1.out (by omega)) (szR_mono Sx1.out (by omega))).mono ?_); rintro e w75 ⟨v75, rfl, hv75, hb75⟩; obtain ⟨z75, rfl⟩ := hv75.open3)
    exact hK.out _ _ (z75.val) (by simp only [fillA, fillT, List.foldl_cons, List.foldl_nil, Act.put, nb4, nb5, nb6, nb1, nb2, nb3, e20]) ⟨z75, rfl, hv75⟩ (fun h => absurd h (by decide)) hb75
   ·
    refine StepM.of rfl (fun f w' hb hp K hK => ?_)
    have HSB := HS
    replace HS := Lib.hid (HS.out.below hb)
    simp only [fillA, fillT, List.foldl_cons, List.foldl_nil, Act.put, nb4, nb5, nb6]
    go_simp
    go_wp2_with (go_at_call 5; (with_reducible refine (HPq3.out _).mono ?_); rintro e w76 ⟨v76, rfl, hv76, hb76⟩; obtain ⟨z76, rfl⟩ := hv76.open3)
    exact hK.out _ _ (z76.val) (by simp only [fillA, fillT, List.foldl_cons, List.foldl_nil, Act.put, nb4, nb5, nb6, nb1, nb2, nb3]) ⟨z76, rfl, hv76⟩ (fun h => absurd h (by decide)) hb76
   ·
    refine StepM.of rfl (fun f w' hb hp K hK => ?_)
    obtain ⟨z75, e22, h22_0⟩ : ∃ z75 : R3, f 82 = z75.val ∧ Fr true w' z75.val (b1 - x1) := hp 22 (by decide)
    obtain ⟨z76, e27, h27_0⟩ : ∃ z76 : R3, f 87 = z76.val ∧ Fr true w' z76.val g1 := hp 27 (by decide)
    have HSB := HS
    replace HS := Lib.hid (HS.out.below hb)
    replace HS := Lib.hid (HS.out.addP h22_0)
    replace HS := Lib.hid (HS.out.addP h27_0)
    simp only [fillA, fillT, List.foldl_cons, List.foldl_nil, Act.put, nb4, nb5, nb6, e22, e27]
    have a100 := HS.out.p 1 _ _ rfl
    have a101 := HS.out.p 0 _ _ rfl
    go_simp
    go_wp2_with (go_at_call 11; (with_reducible refine (mulRat_any (b1 - x1) g1 _ _ _ a100 a101 (szR_mono (szR_sub Sb1.out Sx1.out) (by omega)) (szR_mono Sg1.out (by omega))).mono ?_); rintro e w77 ⟨v77, rfl, hv77, hb77⟩; obtain ⟨z77, rfl⟩ := hv77.open3)
    exact hK.out _ _ (z77.val) (by simp only [fillA, fillT, List.foldl_cons, List.foldl_nil, Act.put, nb4, nb5, nb6, nb1, nb2, nb3, e22, e27]) ⟨z77, rfl, hv77⟩ (fun h => absurd h (by decide)) hb77
   ·
    refine StepM.of rfl (fun f w' hb hp K hK => ?_)
    obtain ⟨z77, e28, h28_0⟩ : ∃ z77 : R3, f 88 = z77.val ∧ Fr true w' z77.val ((b1 - x1) * g1) := hp 28 (by decide)
    have HSB := HS
    replace HS := Lib.hid (HS.out.below hb)
    replace HS := Lib.hid (HS.out.addP h28_0)
    simp only [fillA, fillT, List.foldl_cons, List.foldl_nil, Act.put, nb4, nb5, nb6, e28]
    have a102 := HS.out.p 1 _ _ rfl
    have a103 := HS.out.p 0 _ _ rfl
    go_simp
    go_wp2_with (go_at_call 8; (with_reducible refine (addRat_any x1 ((b1 - x1) * g1) _ _ _ a102 a103 (szR_mono Sx1.out (by omega)) (szR_mono (szR_mul (szR_sub Sb1.out Sx1.out) Sg1.out) (by omega))).mono ?_); rintro e w78 ⟨v78, rfl, hv78, hb78⟩; obtain ⟨z78, rfl⟩ := hv78.open3)
    exact hK.out _ _ (z78.val) (by simp only [fillA, fillT, List.foldl_cons, List.foldl_nil, Act.put, nb4, nb5, nb6, nb1, nb2, nb3, e28]) ⟨z78, rfl, hv78⟩ (fun h => absurd h (by decide)) hb78
   ·
    refine StepM.of rfl (fun f w' hb hp K hK => ?_)
    obtain ⟨z78, e29, h29_0⟩ : ∃ z78 : R3, f 89 = z78.val ∧ Fr true w' z78.val (x1 + ((b1 - x1) * g1)) := hp 29 (by decide)
    have HSB := HS
    replace HS := Lib.hid (HS.out.below hb)
    replace HS := Lib.hid (HS.out.addP h29_0)
    simp only [fillA, fillT, List.foldl_cons, List.foldl_nil, Act.put, nb4, nb5, nb6, e29]
    have a104 := HS.out.p 0 _ _ rfl
    go_simp
    go_wp2_with (go_at_call 6; (with_reducible refine (only_any (x1 + ((b1 - x1) * g1)) _ _ a104).mono ?_); rintro e w79 ⟨v79, rfl, ⟨z79a, z79b, rfl, hv79, hw79⟩, hb79⟩)
    exact hK.out _ _ (.agg #[.bool z79a.b, .slice z79a.a z79a.n z79a.c, .slice z79a.d z79a.m z79a.e, .bool z79b.b, .slice z79b.a z79b.n z79b.c, .slice z79b.d z79b.m z79b.e]) (by simp only [fillA, fillT, List.foldl_cons, List.foldl_nil, Act.put, nb4, nb5, nb6, nb1, nb2, nb3, e29]) ⟨z79a, z79b, rfl, hv79, hw79⟩ (fun h => absurd h (by decide)) hb79
   ·
    refine StepM.of rfl (fun f w' hb hp K hK => ?_)
    obtain ⟨z73a, z73b, e17, h17_0, h17_1⟩ : ∃ z73a z73b : R3, f 77 = .agg #[.bool z73a.b, .slice z73a.a z73a.n z73a.c, .slice z73a.d z73a.m z73a.e, .bool z73b.b, .slice z73b.a z73b.n z73b.c, .slice z73b.d z73b.m z73b.e] ∧ Fr true w' z73a.val x1 ∧ Fr true w' z73b.val x1 := hp 17 (by decide)
    obtain ⟨z79a, z79b, e30, h30_0, h30_1⟩ : ∃ z79a z79b : R3, f 90 = .agg #[.bool z79a.b, .slice z79a.a z79a.n z79a.c, .slice z79a.d z79a.m z79a.e, .bool z79b.b, .slice z79b.a z79b.n z79b.c, .slice z79b.d z79b.m z79b.e] ∧ Fr true w' z79a.val (x1 + ((b1 - x1) * g1)) ∧ Fr true w' z79b.val (x1 + ((b1 - x1) * g1)) := hp 30 (by decide)
    have HSB := HS
    replace HS := Lib.hid (HS.out.below hb)
    replace HS := Lib.hid (HS.out.addP h17_0)
    replace HS := Lib.hid (HS.out.addP h17_1)
    replace HS := Lib.hid (HS.out.addP h30_0)
    replace HS := Lib.hid (HS.out.addP h30_1)
    simp only [fillA, fillT, List.foldl_cons, List.foldl_nil, Act.put, nb4, nb5, nb6, e17, e30]
    have a105 := HS.out.p 3 _ _ rfl
    have a106 := HS.out.p 2 _ _ rfl
    have a107 := HS.out.p 1 _ _ rfl
    have a108 := HS.out.p 0 _ _ rfl
    go_simp
    go_wp2_with (go_at_call 7; (with_reducible refine (lhull_le x1 (x1 + ((b1 - x1) * g1)) _ _ _ (rngP a105 a106) (rngP a107 a108) HY1.out (szR_mono Sx1.out (by omega)) (szR_mono (szR_add Sx1.out (szR_mul (szR_sub Sb1.out Sx1.out) Sg1.out)) (by omega))).mono ?_); rintro e w80 ⟨v80, rfl, ⟨z80a, z80b, rfl, hv80, hw80⟩, hb80⟩)
    exact hK.out _ _ (.agg #[.bool z80a.b, .slice z80a.a z80a.n z80a.c, .slice z80a.d z80a.m z80a.e, .bool z80b.b, .slice z80b.a z80b.n z80b.c, .slice z80b.d z80b.m z80b.e]) (by simp only [fillA, fillT, List.foldl_cons, List.foldl_nil, Act.put, nb4, nb5, nb6, nb1, nb2, nb3, e17, e30]) ⟨z80a, z80b, rfl, hv80, hw80⟩ (fun h => absurd h (by decide)) hb80
   ·
    refine StepM.of rfl (fun f w' hb hp K hK => ?_)
    have HSB := HS
    replace HS := Lib.hid (HS.out.below hb)
    simp only [fillA, fillT, List.foldl_cons, List.foldl_nil, Act.put, nb4, nb5, nb6]
    go_simp
    exact hK.out _ _ (.pointer (some ⟨w'.heap.size, 0, none⟩)) (by simp only [fillA, fillT, List.foldl_cons, List.foldl_nil, Act.put, nb4, nb5, nb6, nb1, nb2, nb3]) ⟨_, rfl, hb.size, blk_new _ _ _⟩ (fun _ => rfl) (below1 w' _)
   ·
    refine StepM.of rfl (fun f w' hb hp K hK => ?_)
    have HSB := HS
    replace HS := Lib.hid (HS.out.below hb)
    simp only [fillA, fillT, List.foldl_cons, List.foldl_nil, Act.put, nb4, nb5, nb6]
    go_simp
    exact hK.out _ _ (.pointer (some ⟨w'.heap.size, 0, none⟩)) (by simp only [fillA, fillT, List.foldl_cons, List.foldl_nil, Act.put, nb4, nb5, nb6, nb1, nb2, nb3]) ⟨_, rfl, hb.size, blk_new _ _ _⟩ (fun _ => rfl) (below1 w' _)
   ·
    intro f wr48 hb hp hd
    obtain ⟨z65a, z65b, e1, h1_0, h1_1⟩ : ∃ z65a z65b : R3, f 61 = .agg #[.bool z65a.b, .slice z65a.a z65a.n z65a.c, .slice z65a.d z65a.m z65a.e, .bool z65b.b, .slice z65b.a z65b.n z65b.c, .slice z65b.d z65b.m z65b.e] ∧ Fr true wr48 z65a.val x0 ∧ Fr true wr48 z65b.val x0 := hp 1 (by decide)
    obtain ⟨z66, e4, h4_0⟩ : ∃ z66 : R3, f 64 = z66.val ∧ Fr true wr48 z66.val b0 := hp 4 (by decide)
    obtain ⟨z67, e6, h6_0⟩ : ∃ z67 : R3, f 66 = z67.val ∧ Fr true wr48 z67.val (b0 - x0) := hp 6 (by decide)
    obtain ⟨z68, e11, h11_0⟩ : ∃ z68 : R3, f 71 = z68.val ∧ Fr true wr48 z68.val g0 := hp 11 (by decide)
    obtain ⟨z69, e12, h12_0⟩ : ∃ z69 : R3, f 72 = z69.val ∧ Fr true wr48 z69.val ((b0 - x0) * g0) := hp 12 (by decide)
    obtain ⟨z70, e13, h13_0⟩ : ∃ z70 : R3, f 73 = z70.val ∧ Fr true wr48 z70.val (x0 + ((b0 - x0) * g0)) := hp 13 (by decide)
    obtain ⟨z71a, z71b, e14, h14_0, h14_1⟩ : ∃ z71a z71b : R3, f 74 = .agg #[.bool z71a.b, .slice z71a.a z71a.n z71a.c, .slice z71a.d z71a.m z71a.e, .bool z71b.b, .slice z71b.a z71b.n z71b.c, .slice z71b.d z71b.m z71b.e] ∧ Fr true wr48 z71a.val (x0 + ((b0 - x0) * g0)) ∧ Fr true wr48 z71b.val (x0 + ((b0 - x0) * g0)) := hp 14 (by decide)
    obtain ⟨z72a, z72b, e15, h15_0, h15_1⟩ : ∃ z72a z72b : R3, f 75 = .agg #[.bool z72a.b, .slice z72a.a z72a.n z72a.c, .slice z72a.d z72a.m z72a.e, .bool z72b.b, .slice z72b.a z72b.n z72b.c, .slice z72b.d z72b.m z72b.e] ∧ Fr true wr48 z72a.val x0 ∧ Fr true wr48 z72b.val (x0 + ((b0 - x0) * g0)) := hp 15 (by decide)
    obtain ⟨z73a, z73b, e17, h17_0, h17_1⟩ : ∃ z73a z73b : R3, f 77 = .agg #[.bool z73a.b, .slice z73a.a z73a.n z73a.c, .slice z73a.d z73a.m z73a.e, .bool z73b.b, .slice z73b.a z73b.n z73b.c, .slice z73b.d z73b.m z73b.e] ∧ Fr true wr48 z73a.val x1 ∧ Fr true wr48 z73b.val x1 := hp 17 (by decide)
    obtain ⟨z74, e20, h20_0⟩ : ∃ z74 : R3, f 80 = z74.val ∧ Fr true wr48 z74.val b1 := hp 20 (by decide)
    obtain ⟨z75, e22, h22_0⟩ : ∃ z75 : R3, f 82 = z75.val ∧ Fr true wr48 z75.val (b1 - x1) := hp 22 (by decide)
    obtain ⟨z76, e27, h27_0⟩ : ∃ z76 : R3, f 87 = z76.val ∧ Fr true wr48 z76.val g1 := hp 27 (by decide)
    obtain ⟨z77, e28, h28_0⟩ : ∃ z77 : R3, f 88 = z77.val ∧ Fr true wr48 z77.val ((b1 - x1) * g1) := hp 28 (by decide)
    obtain ⟨z78, e29, h29_0⟩ : ∃ z78 : R3, f 89 = z78.val ∧ Fr true wr48 z78.val (x1 + ((b1 - x1) * g1)) := hp 29 (by decide)
    obtain ⟨z79a, z79b, e30, h30_0, h30_1⟩ : ∃ z79a z79b : R3, f 90 = .agg #[.bool z79a.b, .slice z79a.a z79a.n z79a.c, .slice z79a.d z79a.m z79a.e, .bool z79b.b, .slice z79b.a z79b.n z79b.c, .slice z79b.d z79b.m z79b.e] ∧ Fr true wr48 z79a.val (x1 + ((b1 - x1) * g1)) ∧ Fr true wr48 z79b.val (x1 + ((b1 - x1) * g1)) := hp 30 (by decide)
    obtain ⟨z80a, z80b, e31, h31_0, h31_1⟩ : ∃ z80a z80b : R3, f 91 = .agg #[.bool z80a.b, .slice z80a.a z80a.n z80a.c, .slice z80a.d z80a.m z80a.e, .bool z80b.b, .slice z80b.a z80b.n z80b.c, .slice z80b.d z80b.m z80b.e] ∧ Fr true wr48 z80a.val x1 ∧ Fr true wr48 z80b.val (x1 + ((b1 - x1) * g1)) := hp 31 (by decide)
    obtain ⟨Br48_32, e32, g32, k32⟩ : ∃ Br48_32 : Nat, f 15 = .pointer (some ⟨Br48_32, 0, none⟩) ∧ W47.drew.heap.size ≤ Br48_32 ∧ wr48.heap[Br48_32]? = some (.cells #[.bool false, .slice none 0 0, .slice none 0 0, .bool false, .slice none 0 0, .slice none 0 0] 29 (0, 0)) := hp 32 (by decide)
    obtain ⟨Br48_33, e33, g33, k33⟩ : ∃ Br48_33 : Nat, f 16 = .pointer (some ⟨Br48_33, 0, none⟩) ∧ W47.drew.heap.size ≤ Br48_33 ∧ wr48.heap[Br48_33]? = some (.cells #[.bool false, .slice none 0 0, .slice none 0 0, .bool false, .slice none 0 0, .slice none 0 0] 29 (0, 0)) := hp 33 (by decide)
    have hd32_33 : Br48_32 ≠ Br48_33 := fun h => hd 32 33 (by decide) (by decide) (by decide) (by decide) (by decide) (by show f 15 = f 16; rw [e32, e33, h])
    replace hh := Sx.below hh hb
    have hlt := HS.out.lt
    replace HS := Lib.hid (HS.out.below hb)
    replace HS := Lib.hid (HS.out.addP h1_0)
    replace HS := Lib.hid (HS.out.addP h1_1)
    replace HS := Lib.hid (HS.out.addP h4_0)
    replace HS := Lib.hid (HS.out.addP h6_0)
    replace HS := Lib.hid (HS.out.addP h11_0)
    replace HS := Lib.hid (HS.out.addP h12_0)
    replace HS := Lib.hid (HS.out.addP h13_0)
    replace HS := Lib.hid (HS.out.addP h14_0)
    replace HS := Lib.hid (HS.out.addP h14_1)
    replace HS := Lib.hid (HS.out.addP h15_0)
    replace HS := Lib.hid (HS.out.addP h15_1)
    replace HS := Lib.hid (HS.out.addP h17_0)
    replace HS := Lib.hid (HS.out.addP h17_1)
    replace HS := Lib.hid (HS.out.addP h20_0)
    replace HS := Lib.hid (HS.out.addP h22_0)
    replace HS := Lib.hid (HS.out.addP h27_0)
    replace HS := Lib.hid (HS.out.addP h28_0)
    replace HS := Lib.hid (HS.out.addP h29_0)
    replace HS := Lib.hid (HS.out.addP h30_0)
    replace HS := Lib.hid (HS.out.addP h30_1)
    replace HS := Lib.hid (HS.out.addP h31_0)
    replace HS := Lib.hid (HS.out.addP h31_1)
    have hge32 : w.heap.size ≤ Br48_32 := Nat.le_trans HSW.out g32
    have hne32 : ∀ b, b ∈ ([(Br31_16, y433q12q14.arr, 27), (Br31_15, arr6 y431q12q13 y432q12q13, 29), (Br14_16, y263q12q14.arr, 27), (Br14_15, arr6 y261q12q13 y262q12q13, 29), (w.heap.size + 3, #[.int .u8 (s0 : Int), .int .u8 (s1 : Int)], 22), (w.heap.size + 2, #[.int .u8 (n0 : Int), .int .u8 (n1 : Int), .int .u8 (n2 : Int), .int .u8 (n3 : Int)], 23), (w.heap.size + 1, #[.int .u8 (r0 : Int), .int .u8 (r1 : Int)], 22), (w.heap.size, #[.int .u8 (c0 : Int), .int .u8 (c1 : Int)], 22)] : List Bx) → b.1 ≠ Br48_32 := by
     intro b hb
     simp only [List.mem_cons, List.not_mem_nil, or_false] at hb
     rcases hb with rfl | rfl | rfl | rfl | rfl | rfl | rfl | rfl
     ·
      have := hlt _ (List.mem_iff_getElem?.2 ⟨0, rfl⟩); dsimp only at this ⊢; omega
     ·
      have := hlt _ (List.mem_iff_getElem?.2 ⟨1, rfl⟩); dsimp only at this ⊢; omega
     ·
      have := hlt _ (List.mem_iff_getElem?.2 ⟨2, rfl⟩); dsimp only at this ⊢; omega
     ·
      have := hlt _ (List.mem_iff_getElem?.2 ⟨3, rfl⟩); dsimp only at this ⊢; omega
     ·
      have := hlt _ (List.mem_iff_getElem?.2 ⟨4, rfl⟩); dsimp only at this ⊢; omega
     ·
      have := hlt _ (List.mem_iff_getElem?.2 ⟨5, rfl⟩); dsimp only at this ⊢; omega
     ·
      have := hlt _ (List.mem_iff_getElem?.2 ⟨6, rfl⟩); dsimp only at this ⊢; omega
     ·
      have := hlt _ (List.mem_iff_getElem?.2 ⟨7, rfl⟩); dsimp only at this ⊢; omega
    replace HS := Lib.hid (HS.out.addBox k32 hge32 (by rfl) hne32)
    have hge33 : w.heap.size ≤ Br48_33 := Nat.le_trans HSW.out g33
    have hne33 : ∀ b, b ∈ ([(Br48_32, #[.bool false, .slice none 0 0, .slice none 0 0, .bool false, .slice none 0 0, .slice none 0 0], 29), (Br31_16, y433q12q14.arr, 27), (Br31_15, arr6 y431q12q13 y432q12q13, 29), (Br14_16, y263q12q14.arr, 27), (Br14_15, arr6 y261q12q13 y262q12q13, 29), (w.heap.size + 3, #[.int .u8 (s0 : Int), .int .u8 (s1 : Int)], 22), (w.heap.size + 2, #[.int .u8 (n0 : Int), .int .u8 (n1 : Int), .int .u8 (n2 : Int), .int .u8 (n3 : Int)], 23), (w.heap.size + 1, #[.int .u8 (r0 : Int), .int .u8 (r1 : Int)], 22), (w.heap.size, #[.int .u8 (c0 : Int), .int .u8 (c1 : Int)], 22)] : List Bx) → b.1 ≠ Br48_33 := by
     intro b hb
     simp only [List.mem_cons, List.not_mem_nil, or_false] at hb
     rcases hb with rfl | rfl | rfl | rfl | rfl | rfl | rfl | rfl | rfl
     ·
      exact hd32_33
     ·
      have := hlt _ (List.mem_iff_getElem?.2 ⟨0, rfl⟩); dsimp only at this ⊢; omega
     ·
      have := hlt _ (List.mem_iff_getElem?.2 ⟨1, rfl⟩); dsimp only at this ⊢; omega
     ·
      have := hlt _ (List.mem_iff_getElem?.2 ⟨2, rfl⟩); dsimp only at this ⊢; omega
     ·
      have := hlt _ (List.mem_iff_getElem?.2 ⟨3, rfl⟩); dsimp only at this ⊢; omega
     ·
      have := hlt _ (List.mem_iff_getElem?.2 ⟨4, rfl⟩); dsimp only at this ⊢; omega
     ·
      have := hlt _ (List.mem_iff_getElem?.2 ⟨5, rfl⟩); dsimp only at this ⊢; omega
     ·
      have := hlt _ (List.mem_iff_getElem?.2 ⟨6, rfl⟩); dsimp only at this ⊢; omega
     ·
      have := hlt _ (List.mem_iff_getElem?.2 ⟨7, rfl⟩); dsimp only at this ⊢; omega
    replace HS := Lib.hid (HS.out.addBox k33 hge33 (by rfl) hne33)
    simp only [fillA, fillT, List.foldl_cons, List.foldl_nil, Act.put, nb4, nb5, nb6, e1, e4, e6, e11, e12, e13, e14, e15, e17, e20, e22, e27, e28, e29, e30, e31, e32, e33]
    clear hp hd hb hlt e1 e4 e6 e11 e12 e13 e14 e15 e17 e20 e22 e27 e28 e29 e30 e31 e32 e33
    refine rdA (i := 34) rfl (fun K hK => ?_)
    have b8e := (HS.out.at 1 _ _ _ rfl)
    have b8c0 := blk_cell b8e 0 (.bool false) rfl
    have b8c1 := blk_cell b8e 1 (.slice none 0 0) rfl
    have b8c2 := blk_cell b8e 2 (.slice none 0 0) rfl
    have b8c3 := blk_cell b8e 3 (.bool false) rfl
    have b8c4 := blk_cell b8e 4 (.slice none 0 0) rfl
    have b8c5 := blk_cell b8e 5 (.slice none 0 0) rfl
    have b8f0 := blk_frozen b8e 0
    have b8f1 := blk_frozen b8e 1
    have b8f2 := blk_frozen b8e 2
    have b8f3 := blk_frozen b8e 3
    have b8f4 := blk_frozen b8e 4
    have b8f5 := blk_frozen b8e 5
    have b8l := blk_lt b8e
    clear b8e
    go_simp
    refine hK.out _ _ ((((((HS.out).st_RR 1 r30 r30 z72a z72b rfl)).erase 1)).erase 0) (fun hh => ?_)
    clear hK K b8c0 b8c1 b8c2 b8c3 b8c4 b8c5 b8f0 b8f1 b8f2 b8f3 b8f4 b8f5 b8l
    try simp only [nbs, Act.put]
    generalize hW109 : ((((((wr48).setCell _ _).setCell _ _).setCell _ _).setCell _ _).setCell _ _).setCell _ _ = W109 at *
    replace HS := Lib.hid (((HS.out).st_RR 1 r30 r30 z72a z72b rfl).to hW109 (by (try simp only [nb5, nb6]); rfl))
    clear hW109
    refine rdA (i := 35) rfl (fun K hK => ?_)
    have b9e := (HS.out.at 0 _ _ _ rfl)
    have b9c0 := blk_cell b9e 0 (.bool false) rfl
    have b9c1 := blk_cell b9e 1 (.slice none 0 0) rfl
    have b9c2 := blk_cell b9e 2 (.slice none 0 0) rfl
    have b9c3 := blk_cell b9e 3 (.bool false) rfl
    have b9c4 := blk_cell b9e 4 (.slice none 0 0) rfl
    have b9c5 := blk_cell b9e 5 (.slice none 0 0) rfl
    have b9f0 := blk_frozen b9e 0
    have b9f1 := blk_frozen b9e 1
    have b9f2 := blk_frozen b9e 2
    have b9f3 := blk_frozen b9e 3
    have b9f4 := blk_frozen b9e 4
    have b9f5 := blk_frozen b9e 5
    have b9l := blk_lt b9e
    clear b9e
    go_simp
    refine hK.out _ _ ((((((HS.out).st_RR 0 r30 r30 z80a z80b rfl)).erase 1)).erase 0) (fun hh => ?_)
    clear hK K b9c0 b9c1 b9c2 b9c3 b9c4 b9c5 b9f0 b9f1 b9f2 b9f3 b9f4 b9f5 b9l
    try simp only [nbs, Act.put]
    generalize hW110 : ((((((W109).setCell _ _).setCell _ _).setCell _ _).setCell _ _).setCell _ _).setCell _ _ = W110 at *
    replace HS := Lib.hid (((HS.out).st_RR 0 r30 r30 z80a z80b rfl).to hW110 (by (try simp only [nb5, nb6]); rfl))
    clear hW110
    refine wpAnyH_done (by kernel_rfl) ?_ _
    have b3e := (HS.out.at 6 _ _ _ rfl)
    have b3c0 := blk_cell b3e 0 (.int .u8 (s0 : Int)) rfl
    have b3c1 := blk_cell b3e 1 (.int .u8 (s1 : Int)) rfl
    have b3f0 := blk_frozen b3e 0
    have b3f1 := blk_frozen b3e 1
    have b3l := blk_lt b3e
    clear b3e
    obtain ⟨b4c0, b4c1, b4c2, b4c3, b4c4, b4c5, b4f0, b4f1, b4f2, b4f3, b4f4, b4f5⟩ := fac6 (x := y261q12q13) (y := y262q12q13) (HS.out.at 5 _ _ _ rfl)
    have b4l := blk_lt (HS.out.at 5 _ _ _ rfl)
    obtain ⟨b6c0, b6c1, b6c2, b6c3, b6c4, b6c5, b6f0, b6f1, b6f2, b6f3, b6f4, b6f5⟩ := fac6 (x := y431q12q13) (y := y432q12q13) (HS.out.at 3 _ _ _ rfl)
    have b6l := blk_lt (HS.out.at 3 _ _ _ rfl)
    have bn3_4 := HS.out.ne 6 5 rfl rfl (by decide)
    have bn3_6 := HS.out.ne 6 3 rfl rfl (by decide)
    have bn4_6 := HS.out.ne 5 3 rfl rfl (by decide)
    go_wp2_with fail
    clear b3c0 b3c1 b3f0 b3f1 b3l b4c0 b4c1 b4c2 b4c3 b4c4 b4c5 b4f0 b4f1 b4f2 b4f3 b4f4 b4f5 b4l b6c0 b6c1 b6c2 b6c3 b6c4 b6c5 b6f0 b6f1 b6f2 b6f3 b6f4 b6f5 b6l bn3_4 bn3_6 bn4_6
    refine (HST1.out _ _ _ (rngP (HS.out.p 35 _ _ rfl) (HS.out.p 34 _ _ rfl)) (rngP (HS.out.p 24 _ _ rfl) (HS.out.p 23 _ _ rfl))).mono ?_
    rintro e w111 ⟨v111, rfl, ⟨z111a, z111b, rfl, hv111, hw111⟩, hb111⟩
    replace HS := Lib.hid (HS.out.below hb111)
    clear hb111
    replace HS := Lib.hid (HS.out.addP hv111)
    clear hv111
    replace HS := Lib.hid (HS.out.addP hw111)
    clear hw111
    obtain ⟨b8c0, b8c1, b8c2, b8c3, b8c4, b8c5, b8f0, b8f1, b8f2, b8f3, b8f4, b8f5⟩ := fac6 (x := z72a) (y := z72b) (HS.out.at 1 _ _ _ rfl)
    have b8l := blk_lt (HS.out.at 1 _ _ _ rfl)
    obtain ⟨b9c0, b9c1, b9c2, b9c3, b9c4, b9c5, b9f0, b9f1, b9f2, b9f3, b9f4, b9f5⟩ := fac6 (x := z80a) (y := z80b) (HS.out.at 0 _ _ _ rfl)
    have b9l := blk_lt (HS.out.at 0 _ _ _ rfl)
    have b3e := (HS.out.at 6 _ _ _ rfl)
    have b3c0 := blk_cell b3e 0 (.int .u8 (s0 : Int)) rfl
    have b3c1 := blk_cell b3e 1 (.int .u8 (s1 : Int)) rfl
    have b3f0 := blk_frozen b3e 0
    have b3f1 := blk_frozen b3e 1
    have b3l := blk_lt b3e
    clear b3e
    have bn8_9 := HS.out.ne 1 0 rfl rfl (by decide)
    have bn8_3 := HS.out.ne 1 6 rfl rfl (by decide)
    have bn9_3 := HS.out.ne 0 6 rfl rfl (by decide)
    go_wp2_with fail
    clear b8c0 b8c1 b8c2 b8c3 b8c4 b8c5 b8f0 b8f1 b8f2 b8f3 b8f4 b8f5 b8l b9c0 b9c1 b9c2 b9c3 b9c4 b9c5 b9f0 b9f1 b9f2 b9f3 b9f4 b9f5 b9l b3c0 b3c1 b3f0 b3f1 b3l bn8_9 bn8_3 bn9_3
    generalize hW112 : (w111).alloc (.cells _ _) = W112 at *
    replace HS := Lib.hid (((HS.out).alloc (B := w111.heap.size) rfl (by rfl)).to hW112 (by (try simp only [nb5, nb6]); rfl))
    clear hW112
    refine (HST2.out _ _ _ (rngP (HS.out.p 14 _ _ rfl) (HS.out.p 13 _ _ rfl)) (rngP (HS.out.p 3 _ _ rfl) (HS.out.p 2 _ _ rfl))).mono ?_
    rintro e w113 ⟨v113, rfl, ⟨z113a, z113b, rfl, hv113, hw113⟩, hb113⟩
    replace HS := Lib.hid (HS.out.below hb113)
    clear hb113
    replace HS := Lib.hid (HS.out.addP hv113)
    clear hv113
    replace HS := Lib.hid (HS.out.addP hw113)
    clear hw113
    obtain ⟨b10c0, b10c1, b10c2, b10c3, b10c4, b10c5, b10f0, b10f1, b10f2, b10f3, b10f4, b10f5⟩ := fac6 (x := z111a) (y := z111b) (HS.out.at 0 _ _ _ rfl)
    have b10l := blk_lt (HS.out.at 0 _ _ _ rfl)
    go_wp2_with fail
    clear b10c0 b10c1 b10c2 b10c3 b10c4 b10c5 b10f0 b10f1 b10f2 b10f3 b10f4 b10f5 b10l
    generalize hW114 : (w113).alloc (.cells _ _) = W114 at *
    replace HS := Lib.hid (((HS.out).alloc (B := w113.heap.size) rfl (by rfl)).to hW114 (by (try simp only [nb5, nb6]); rfl))
    clear hW114
    refine (HIN.out _ _ _ (rngP (HS.out.p 1 _ _ rfl) (HS.out.p 0 _ _ rfl)) (rngP (HS.out.p 3 _ _ rfl) (HS.out.p 2 _ _ rfl))).mono ?_
    rintro e w115 ⟨rfl, hb115⟩
    replace HS := Lib.hid (HS.out.below hb115)
    clear hb115
    go_wp2_with fail
    refine wp_region_held_drew (S := (fun w' => Sx w w' [(w113.heap.size, arr6 z113a z113b, 29), (w111.heap.size, arr6 z111a z111b, 29), (Br48_33, arr6 z80a z80b, 29), (Br48_32, arr6 z72a z72b, 29), (Br31_16, y433q12q14.arr, 27), (Br31_15, arr6 y431q12q13 y432q12q13, 29), (Br14_16, y263q12q14.arr, 27), (Br14_15, arr6 y261q12q13 y262q12q13, 29), (w.heap.size + 3, #[.int .u8 (s0 : Int), .int .u8 (s1 : Int)], 22), (w.heap.size + 2, #[.int .u8 (n0 : Int), .int .u8 (n1 : Int), .int .u8 (n2 : Int), .int .u8 (n3 : Int)], 23), (w.heap.size + 1, #[.int .u8 (r0 : Int), .int .u8 (r1 : Int)], 22), (w.heap.size, #[.int .u8 (c0 : Int), .int .u8 (c1 : Int)], 22)] [])) (by kernel_rfl) ((HS.out.drew).bare) (fun hh => ?_)
    replace HS := Lib.hid HS.out.drew
    refine tkB (i := 0) (v := ?vk117) rfl ?hk117 ?rk117
    case hk117 => intro u hSu; (try dsimp only at hSu); obtain ⟨qb10c0, qb10c1, qb10c2, qb10c3, qb10c4, qb10c5, _⟩ := fac6 (x := z111a) (y := z111b) (hSu.at 1 _ _ _ rfl); clear hSu; go_simp <;> with_reducible rfl
    try simp only [nbs, Act.put]
    refine tkB (i := 2) (v := ?vk118) rfl ?hk118 ?rk118
    case hk118 => intro u hSu; (try dsimp only at hSu); obtain ⟨qb4c0, qb4c1, qb4c2, qb4c3, qb4c4, qb4c5, _⟩ := fac6 (x := y261q12q13) (y := y262q12q13) (hSu.at 7 _ _ _ rfl); clear hSu; go_simp <;> with_reducible rfl
    try simp only [nbs, Act.put]
    refine tkB (i := 4) (v := ?vk119) rfl ?hk119 ?rk119
    case hk119 => intro u hSu; go_simp <;> with_reducible rfl
    try simp only [nbs, Act.put]
    refine rdA (i := 1) rfl (fun K hK => ?_)
    go_simp
    have a121 := HS.out.p 3 _ _ rfl
    have a122 := HS.out.p 2 _ _ rfl
    go_wp2_with (go_at_call 14; (with_reducible refine (rlo_any d1 u1 _ _ (rngP a121 a122)).mono ?_); rintro e w120 ⟨v120, rfl, hv120, hb120⟩; obtain ⟨z120, rfl⟩ := hv120.open3)
    refine hK.out _ _ (Sx.below hh hb120) (fun hh => ?_)
    clear hK K
    try simp only [nbs, Act.put]
    replace HS := Lib.hid (HS.out.below hb120)
    clear hb120 a121 a122
    replace HS := Lib.hid (HS.out.addP hv120)
    clear hv120
    refine rdA (i := 3) rfl (fun K hK => ?_)
    go_simp
    have a124 := HS.out.p 40 _ _ rfl
    have a125 := HS.out.p 39 _ _ rfl
    go_wp2_with (go_at_call 14; (with_reducible refine (rlo_any a0 b0 _ _ (rngP a124 a125)).mono ?_); rintro e w123 ⟨v123, rfl, hv123, hb123⟩; obtain ⟨z123, rfl⟩ := hv123.open3)
    refine hK.out _ _ (Sx.below hh hb123) (fun hh => ?_)
    clear hK K
    try simp only [nbs, Act.put]
    replace HS := Lib.hid (HS.out.below hb123)
    clear hb123 a124 a125
    replace HS := Lib.hid (HS.out.addP hv123)
    clear hv123
    refine rdA (i := 5) rfl (fun K hK => ?_)
    go_simp
    have a127 := HS.out.p 0 _ _ rfl
    go_wp2_with (go_at_call 16; (with_reducible refine (HDN.out _ _ a127).mono ?_); rintro e w126 ⟨v126, rfl, hv126, hb126⟩; obtain ⟨z126, rfl⟩ := hv126.open3)
    refine hK.out _ _ (Sx.below hh hb126) (fun hh => ?_)
    clear hK K
    try simp only [nbs, Act.put]
    replace HS := Lib.hid (HS.out.below hb126)
    clear hb126 a127
    replace HS := Lib.hid (HS.out.addP hv126)
    clear hv126
    refine rdA (i := 6) rfl (fun K hK => ?_)
    go_simp
    obtain ⟨c128, hc128⟩ : ∃ κ, κ = cmpR d1 v0 := ⟨_, rfl⟩
    have HC128 := Lib.hid hc128
    have tc128 : decide (c128 ≥ 0) = true := decide_eq_true (by rw [hc128]; exact cmp_ge0 HG1.out)
    clear hc128
    have a130 := HS.out.p 2 _ _ rfl
    have a131 := HS.out.p 0 _ _ rfl
    go_wp2_with (go_at_call 15; (with_reducible refine (cmpRat_any d1 v0 _ _ _ a130 a131 (szR_mono Sd1.out (by omega)) (szR_mono Sv0.out (by omega))).mono ?_); rw [← HC128.out]; rintro e w129 ⟨rfl, hb129⟩)
    refine hK.out _ _ (Sx.below hh hb129) (fun hh => ?_)
    clear hK K
    try simp only [nbs, Act.put]
    replace HS := Lib.hid (HS.out.below hb129)
    clear hb129 a130 a131
    refine tkB (i := 7) (v := ?vk132) rfl ?hk132 ?rk132
    case hk132 => intro u hSu; go_simp <;> with_reducible rfl
    try simp only [nbs, Act.put]
    refine tkB (i := 8) (v := ?vk133) rfl ?hk133 ?rk133
    case hk133 => intro u hSu; go_simp <;> with_reducible rfl
    try simp only [nbs, Act.put]
    refine tkB (i := 9) (v := ?vk134) rfl ?hk134 ?rk134
    case hk134 => intro u hSu; (try dsimp only at hSu); obtain ⟨qb10c0, qb10c1, qb10c2, qb10c3, qb10c4, qb10c5, _⟩ := fac6 (x := z111a) (y := z111b) (hSu.at 1 _ _ _ rfl); clear hSu; go_simp <;> with_reducible rfl
    try simp only [nbs, Act.put]
    refine tkB (i := 11) (v := ?vk135) rfl ?hk135 ?rk135
    case hk135 => intro u hSu; (try dsimp only at hSu); obtain ⟨qb4c0, qb4c1, qb4c2, qb4c3, qb4c4, qb4c5, _⟩ := fac6 (x := y261q12q13) (y := y262q12q13) (hSu.at 7 _ _ _ rfl); clear hSu; go_simp <;> with_reducible rfl
    try simp only [nbs, Act.put]
    refine rdA (i := 10) rfl (fun K hK => ?_)
    go_simp
    have a137 := HS.out.p 6 _ _ rfl
    have a138 := HS.out.p 5 _ _ rfl
    go_wp2_with (go_at_call 9; (with_reducible refine (rhi_any d1 u1 _ _ (rngP a137 a138)).mono ?_); rintro e w136 ⟨v136, rfl, hv136, hb136⟩; obtain ⟨z136, rfl⟩ := hv136.open3)
    refine hK.out _ _ (Sx.below hh hb136) (fun hh => ?_)
    clear hK K
    try simp only [nbs, Act.put]
    replace HS := Lib.hid (HS.out.below hb136)
    clear hb136 a137 a138
    replace HS := Lib.hid (HS.out.addP hv136)
    clear hv136
    refine rdA (i := 12) rfl (fun K hK => ?_)
    go_simp
    have a140 := HS.out.p 43 _ _ rfl
    have a141 := HS.out.p 42 _ _ rfl
    go_wp2_with (go_at_call 9; (with_reducible refine (rhi_any a0 b0 _ _ (rngP a140 a141)).mono ?_); rintro e w139 ⟨v139, rfl, hv139, hb139⟩; obtain ⟨z139, rfl⟩ := hv139.open3)
    refine hK.out _ _ (Sx.below hh hb139) (fun hh => ?_)
    clear hK K
    try simp only [nbs, Act.put]
    replace HS := Lib.hid (HS.out.below hb139)
    clear hb139 a140 a141
    replace HS := Lib.hid (HS.out.addP hv139)
    clear hv139
    refine rdA (i := 13) rfl (fun K hK => ?_)
    go_simp
    obtain ⟨c142, hc142⟩ : ∃ κ, κ = cmpR u1 b0 := ⟨_, rfl⟩
    have HC142 := Lib.hid hc142
    have tc142 : decide (c142 ≥ 0) = true := decide_eq_true (by rw [hc142]; exact cmp_ge0 HG2.out)
    clear hc142
    have a144 := HS.out.p 1 _ _ rfl
    have a145 := HS.out.p 0 _ _ rfl
    go_wp2_with (go_at_call 15; (with_reducible refine (cmpRat_any u1 b0 _ _ _ a144 a145 (szR_mono Su1.out (by omega)) (szR_mono Sb0.out (by omega))).mono ?_); rw [← HC142.out]; rintro e w143 ⟨rfl, hb143⟩)
    refine hK.out _ _ (Sx.below hh hb143) (fun hh => ?_)
    clear hK K
    try simp only [nbs, Act.put]
    replace HS := Lib.hid (HS.out.below hb143)
    clear hb143 a144 a145
    refine tkB (i := 14) (v := ?vk146) rfl ?hk146 ?rk146
    case hk146 => intro u hSu; go_simp <;> with_reducible rfl
    try simp only [nbs, Act.put]
    refine tkB (i := 15) (v := ?vk147) rfl ?hk147 ?rk147
    case hk147 => intro u hSu; go_simp <;> with_reducible rfl
    try simp only [nbs, Act.put]
    refine tkB (i := 16) (v := ?vk148) rfl ?hk148 ?rk148
    case hk148 => intro u hSu; go_simp <;> with_reducible rfl
    try simp only [nbs, Act.put]
    refine rdA (i := 17) rfl (fun K hK => ?_)
    go_simp
    go_wp2_with (go_at_call 17; (with_reducible refine (awake05_any _).mono ?_); rintro e w149 ⟨rfl, hb149⟩)
    refine hK.out _ _ (Sx.below hh hb149) (fun hh => ?_)
    clear hK K
    try simp only [nbs, Act.put]
    replace HS := Lib.hid (HS.out.below hb149)
    clear hb149
    refine tkB (i := 18) (v := ?vk150) rfl ?hk150 ?rk150
    case hk150 => intro u hSu; go_simp <;> with_reducible rfl
    try simp only [nbs, Act.put]
    refine tkB (i := 19) (v := ?vk151) rfl ?hk151 ?rk151
    case hk151 => intro u hSu; go_simp <;> with_reducible rfl
    try simp only [nbs, Act.put]
    refine wpAnyH_done (by kernel_rfl) ?_ _
    go_wp2_with fail
    go_ret
    exact ⟨by simp, HS.out.bel⟩
end Go.Proofs.Ytfjcccpibhhncaa
