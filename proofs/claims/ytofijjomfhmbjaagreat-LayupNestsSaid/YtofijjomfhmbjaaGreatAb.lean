/- Part b of the lemmas and walks. -/
import Derived.Test.YtofijjomfhmbjaaGreatAa

namespace Go.Proofs.YtofijjomfhmbjaaGreat
open Go.RowKit

theorem lz64_any (x : Nat) (w : World) (hx : x < b64) (s : Nat) (hs : s + Lib.bitLen x = 64) :
  Calls Tryz.prog 99 #[.int .u64 x] w fun e w' => e = .returned (.int .i64 (s : Nat)) ∧ w = w' := by
 unfold b64 at hx
 refine (Tryz.bits_LeadingZeros64 x w (by omega) (by omega)).mono fun e w' ⟨h1, h2⟩ => ⟨?_, h2.symm⟩
 rw [h1, Int.toNat_natCast]
 congr 2
 omega


structure Nums (hi lo y s Y v1 v0 U M d1 d0 : Nat) : Prop where
 eY : Y = y * 2 ^ s
 eYd : Y = v1 * b32 + v0
 v1l : b32 ≤ 2 * v1
 v1u : v1 < b32
 v0u : v0 < b32
 eU : U = hi * 2 ^ s + lo / 2 ^ (64 - s)
 UY : U < Y
 eM : M = lo * 2 ^ s % b64
 eMd : M = d1 * b32 + d0
 d1u : d1 < b32
 d0u : d0 < b32
 all : U * (b32 * b32) + d1 * b32 + d0 = (hi * b64 + lo) * 2 ^ s

theorem wrapR {U d1 q1 Y R : Nat} (h : U * b32 + d1 = Y * q1 + R) (hR : R < Y) (hY : Y < b64) :
  IntKind.u64.wrap (IntKind.u64.wrap (IntKind.u64.wrap ((U : Int) * 4294967296) + d1) - IntKind.u64.wrap ((q1 : Int) * Y)) = (R : Int) := by
 simp only [IntKind.wrap_u64]
 unfold b32 at h
 unfold b64 at hY
 have h2 : ((Y * q1 : Nat) : Int) = (q1 : Int) * Y := by rw [Int.natCast_mul, Int.mul_comm]
 omega

theorem wrapQ {q1 q0 Q : Nat} (h : q1 * b32 + q0 = Q) (hQ : Q < b64) : IntKind.u64.wrap (IntKind.u64.wrap ((q1 : Int) * 4294967296) + q0) = (Q : Int) := by
 simp only [IntKind.wrap_u64]
 unfold b32 at h
 unfold b64 at hQ
 omega

theorem Nums.last {hi lo y s Y v1 v0 U M d1 d0 q1 R q0 R0 : Nat} (hn : Nums hi lo y s Y v1 v0 U M d1 d0) (hy : 0 < y) (h1 : q1 = (U * b32 + d1) / Y) (hR : R = (U * b32 + d1) % Y) (h0 : q0 = (R * b32 + d0) / Y) (hR0 : R0 = (R * b32 + d0) % Y) :
  q1 * b32 + q0 = (hi * b64 + lo) / y ∧ R0 / 2 ^ s = (hi * b64 + lo) % y := by
 have hp : 0 < 2 ^ s := Nat.two_pow_pos s
 have hY : 0 < Y := by rw [hn.eY]; exact Nat.mul_pos hy hp
 have h := two_halves hY hn.UY hn.d0u h1 hR h0
 rw [hn.all, hn.eY] at h
 rw [Nat.mul_div_mul_right _ _ hp, Nat.mul_mod_mul_right] at h
 refine ⟨h.1, ?_⟩
 rw [hR0, hn.eY, h.2, Nat.mul_div_cancel _ hp]

set_option maxRecDepth 100000 in
set_option maxHeartbeats 1000000 in
theorem div64_walk (hi lo y s Y v1 v0 U M d1 d0 H L : Nat) (w : World) (hs : s + Lib.bitLen y = 64) (hs1 : s ≤ 63) (hn : Nums hi lo y s Y v1 v0 U M d1 d0)
    (hy : y < b64) (hh : hi < y) (h0 : 0 < hi)
    (e1 : IntKind.u64.wrap ((y : Int) * 2 ^ s) = (Y : Int)) (e2 : (Y : Int) / 4294967296 = v1) (e3 : bits .and .u64 (Y : Int) 4294967295 = v0)
    (e4 : IntKind.u64.wrap ((hi : Int) * 2 ^ s) = (H : Int)) (e5 : (lo : Int) / 2 ^ (64 - s) = (L : Int)) (e6 : bits .or .u64 (H : Int) (L : Int) = (U : Int))
    (e7 : IntKind.u64.wrap ((lo : Int) * 2 ^ s) = (M : Int)) (e8 : (M : Int) / 4294967296 = d1) (e9 : bits .and .u64 (M : Int) 4294967295 = d0)
    (q r : Nat) (e10 : (U : Int) / v1 = q) (e11 : (U : Int) - q * v1 = r) (g1 : (q : Int) * v1 ≤ U) (g2 : (U : Int) ≤ 18446744073709551615) (g3 : 1 ≤ (v1 : Int)) (g4 : 0 ≤ (q : Int) * v1) (g5 : (q : Int) ≤ 4294967297) (G : Guess b32 v1 v0 U d1 q r) (hr : r ≤ 4294967295) (hY : Y < b64) (hlo : lo < b64) :
    Calls Tryz.prog 74 #[.int .u64 hi, .int .u64 lo, .int .u64 y] w fun e w' => e = .returned (.tuple #[.int .u64 ((hi * b64 + lo) / y : Nat), .int .u64 ((hi * b64 + lo) % y : Nat)]) ∧ Quiet w w' := by
  have c1 : ((y : Int) == 0) = false := by simp; omega
  have c2 : ((hi : Int) == 0) = false := by simp; omega
  have c3 : (hi : Int) < y := by omega
  have Hs := Lib.hid hs
  have Hy := Lib.hid hy
  have Hn := Lib.hid hn
  clear hs hy hn
  go_enter Tryz.func74, Tryz.ntmps74
  go_wp2_with fail
  refine (lz64_any y _ Hy.out s Hs.out).mono ?_
  rintro e w' ⟨rfl, rfl⟩
  have HG := Lib.hid G
  clear G
  go_upto_block 0 with (fail)
  have G5 : Hid (q ≤ 4294967297) := by show _ ≤ _; omega
  have G6 := Lib.hid hr
  have HY := Lib.hid hY
  have Hlo := Lib.hid hlo
  clear hlo
  clear hr hY
  clear e1 e2 e3 e4 e5 e6 e7 e8 e9 e10 e11 g1 g2 g4 g5
  have V0 := Lib.hid (show 0 < v1 * b32 + v0 by have := Hn.out.UY; rw [Hn.out.eYd] at this; omega)
  have b1 : (v1 : Int) ≤ 4294967295 := by have := Hn.out.v1u; unfold b32 at this; omega
  have b2 : (v0 : Int) ≤ 4294967295 := by have := Hn.out.v0u; unfold b32 at this; omega
  have b3 : (d1 : Int) ≤ 4294967295 := by have := Hn.out.d1u; unfold b32 at this; omega
  go_cut [15, 16] (fun qv rv wx => wx = w ∧ (∃ x, rv = x) ∧ qv = .int .u64 ((U * b32 + d1) / (v1 * b32 + v0) : Nat))
  case first =>
    go_wp2_with fail
    go_loop [15, 16] (fun qv rv => ∃ q r : Nat, qv = .int .u64 q ∧ rv = .int .u64 r ∧ r ≤ 4294967295 ∧ q ≤ 4294967297 ∧ Hid (Guess b32 v1 v0 U d1 q r)) (fun qv _ => (intOf qv).toNat)
    case atStart => exact ⟨q, r, rfl, rfl, G6.out, G5.out, HG.out⟩
    case round =>
      obtain ⟨q, r, rfl, rfl, hr, hq, hG⟩ := hrel
      by_cases t1 : (4294967296 : Int) ≤ q
      · have t1' : decide ((4294967296 : Int) ≤ q) = true := by simpa using t1
        have f := hG.out.less V0.out (by rw [← Hn.out.eYd]; exact Hn.out.UY) Hn.out.d1u (.inl (by unfold b32; omega))
        have f1 := f.1
        have F := Lib.hid f.2
        clear f t1
        by_cases t2 : (4294967296 : Int) ≤ (r : Int) + v1
        · have t2' : decide ((4294967296 : Int) ≤ (r : Int) + v1) = true := by simpa using t2
          have t2x := Lib.hid t2
          clear t2
          go_upto_region 20 with (fail)
          go_wp2_with fail
          go_meet
          case rel =>
            have hb := F.out.broke V0.out Hn.out.v0u (by have := F.out.hi; unfold b32 at *; have := t2x.out; omega) (by have := t2x.out; unfold b32; omega)
            exact ⟨rfl, ⟨_, rfl⟩, by rw [← hb]; go_num⟩
        · have t2' : decide ((4294967296 : Int) ≤ (r : Int) + v1) = false := by simpa using t2
          go_upto_region 20 with (fail)
          go_wp2_with fail
          exact ⟨⟨q - 1, r + v1, by go_num, by go_num, by omega, by omega, F.out⟩, by simp [intOf]; omega⟩
      · have t1' : decide ((4294967296 : Int) ≤ q) = false := by simpa using t1
        have m1 : (q : Int) * v0 ≤ 18446744073709551615 := by
          have : q * v0 ≤ 4294967295 * 4294967295 := Nat.mul_le_mul (by omega) (by omega)
          have : ((q * v0 : Nat) : Int) ≤ 18446744073709551615 := by omega
          rwa [Int.natCast_mul] at this
        have m2 : 0 ≤ (q : Int) * v0 := by rw [← Int.natCast_mul]; omega
        by_cases t3 : (4294967296 : Int) * r + d1 < (q : Int) * v0
        · have t3' : decide ((4294967296 : Int) * r + d1 < (q : Int) * v0) = true := by simpa using t3
          have T3 : b32 * r + d1 < q * v0 := by
            unfold b32
            have : ((q * v0 : Nat) : Int) = (q : Int) * v0 := Int.natCast_mul _ _
            omega
          have f := hG.out.less V0.out (by rw [← Hn.out.eYd]; exact Hn.out.UY) Hn.out.d1u (.inr T3)
          have f1 := f.1
          have F := Lib.hid f.2
          clear f t1 t3 T3
          by_cases t2 : (4294967296 : Int) ≤ (r : Int) + v1
          · have t2' : decide ((4294967296 : Int) ≤ (r : Int) + v1) = true := by simpa using t2
            have t2x := Lib.hid t2
            have hqx : Hid (q ≤ 4294967296) := by show _ ≤ _; have : ¬ ((4294967296 : Int) ≤ q) := by simpa using t1'
                                                  omega
            clear t2
            go_upto_region 20 with (fail)
            go_wp2_with fail
            go_meet
            case rel =>
              have hb := F.out.broke V0.out Hn.out.v0u (by have := hqx.out; unfold b32; omega) (by have := t2x.out; unfold b32; omega)
              exact ⟨rfl, ⟨_, rfl⟩, by rw [← hb]; go_num⟩
          · have t2' : decide ((4294967296 : Int) ≤ (r : Int) + v1) = false := by simpa using t2
            go_upto_region 20 with (fail)
            go_wp2_with fail
            exact ⟨⟨q - 1, r + v1, by go_num, by go_num, by omega, by omega, F.out⟩, by simp [intOf]; omega⟩
        · have t3' : decide ((4294967296 : Int) * r + d1 < (q : Int) * v0) = false := by simpa using t3
          have T3 : Hid (q * v0 ≤ b32 * r + d1) := by
            show q * v0 ≤ b32 * r + d1
            unfold b32
            have : ((q * v0 : Nat) : Int) = (q : Int) * v0 := Int.natCast_mul _ _
            omega
          clear t1 t3
          go_wp2_with fail
          go_meet
          case rel =>
            have hb := hG.out.done V0.out T3.out
            exact ⟨rfl, ⟨_, rfl⟩, by rw [← hb]⟩
  case rest =>
    obtain ⟨rfl, ⟨rv, rfl⟩, rfl⟩ := hcut
    rw [← Hn.out.eYd]
    obtain ⟨q1, hq1⟩ : ∃ q1, q1 = (U * b32 + d1) / Y := ⟨_, rfl⟩
    obtain ⟨R, hR⟩ : ∃ R, R = (U * b32 + d1) % Y := ⟨_, rfl⟩
    have hYp : 0 < Y := by rw [Hn.out.eYd]; exact V0.out
    have hRY : R < Y := by rw [hR]; exact Nat.mod_lt _ hYp
    have e12 := wrapR (U := U) (d1 := d1) (q1 := q1) (Y := Y) (R := R) (by rw [hq1, hR]; exact (Nat.div_add_mod _ _).symm) hRY HY.out
    obtain ⟨qq, hqq⟩ : ∃ qq, qq = R / v1 := ⟨_, rfl⟩
    obtain ⟨rr, hrr⟩ : ∃ rr, rr = R % v1 := ⟨_, rfl⟩
    have hv1p : 0 < v1 := by omega
    have hdm := Nat.div_add_mod R v1
    rw [← hqq, ← hrr] at hdm
    have hdm' : (v1 : Int) * qq + rr = R := by rw [← Int.natCast_mul]; omega
    have e13 : (R : Int) / v1 = qq := by rw [hqq]; rfl
    have e14 : (R : Int) - qq * v1 = rr := by rw [Int.mul_comm (qq : Int)]; omega
    have g6 : (qq : Int) * v1 ≤ R := by rw [Int.mul_comm (qq : Int)]; omega
    have g7 : (R : Int) ≤ 18446744073709551615 := by have := HY.out; unfold b64 at this; omega
    have g8 : 0 ≤ (qq : Int) * v1 := by rw [← Int.natCast_mul]; omega
    have G2 := Guess.first (b := b32) (v1 := v1) (v0 := v0) (u := R) (d := d0) b32_two Hn.out.v1l Hn.out.v0u (by rw [← Hn.out.eYd]; exact hRY) Hn.out.d0u
    rw [← hqq, ← hrr] at G2
    have g9 : (qq : Int) ≤ 4294967297 := by have := G2.hi; unfold b32 at this; omega
    have HG2 := Lib.hid G2
    have Hq1 := Lib.hid hq1
    have HR := Lib.hid hR
    have HRY := Lib.hid hRY
    have Hrr : Hid (rr ≤ 4294967295) := by
      show rr ≤ 4294967295
      have := Nat.mod_lt R hv1p
      have h2 := Hn.out.v1u
      unfold b32 at h2
      omega
    have G9 : Hid (qq ≤ 4294967297) := by show _ ≤ _; omega
    clear G2 hqq hrr hdm hdm' hR hYp hRY hv1p
    rw [← hq1]
    clear hq1
    go_upto_block 2 with (fail)
    clear e12 e13 e14 g6 g7 g8
    have b4 : (d0 : Int) ≤ 4294967295 := by have := Hn.out.d0u; unfold b32 at this; omega
    go_cut [18, 16] (fun qv rv wx => wx = wc ∧ (∃ x, rv = x) ∧ qv = .int .u64 ((R * b32 + d0) / (v1 * b32 + v0) : Nat))
    case first =>
      go_wp2_with fail
      go_loop [18, 16] (fun qv rv => ∃ q r : Nat, qv = .int .u64 q ∧ rv = .int .u64 r ∧ r ≤ 4294967295 ∧ q ≤ 4294967297 ∧ Hid (Guess b32 v1 v0 R d0 q r)) (fun qv _ => (intOf qv).toNat)
      case atStart => exact ⟨qq, rr, rfl, rfl, Hrr.out, G9.out, HG2.out⟩
      case round =>
        obtain ⟨q, r, rfl, rfl, hr, hq, hG⟩ := hrel
        by_cases t1 : (4294967296 : Int) ≤ q
        · have t1' : decide ((4294967296 : Int) ≤ q) = true := by simpa using t1
          have f := hG.out.less V0.out (by rw [← Hn.out.eYd]; exact HRY.out) Hn.out.d0u (.inl (by unfold b32; omega))
          have f1 := f.1
          have F := Lib.hid f.2
          clear f t1
          by_cases t2 : (4294967296 : Int) ≤ (r : Int) + v1
          · have t2' : decide ((4294967296 : Int) ≤ (r : Int) + v1) = true := by simpa using t2
            have t2x := Lib.hid t2
            clear t2
            go_upto_region 27 with (fail)
            go_wp2_with fail
            go_meet
            case rel =>
              have hb := F.out.broke V0.out Hn.out.v0u (by have := F.out.hi; unfold b32 at *; have := t2x.out; omega) (by have := t2x.out; unfold b32; omega)
              exact ⟨rfl, ⟨_, rfl⟩, by rw [← hb]; go_num⟩
          · have t2' : decide ((4294967296 : Int) ≤ (r : Int) + v1) = false := by simpa using t2
            go_upto_region 27 with (fail)
            go_wp2_with fail
            exact ⟨⟨q - 1, r + v1, by go_num, by go_num, by omega, by omega, F.out⟩, by simp [intOf]; omega⟩
        · have t1' : decide ((4294967296 : Int) ≤ q) = false := by simpa using t1
          have m1 : (q : Int) * v0 ≤ 18446744073709551615 := by
            have : q * v0 ≤ 4294967295 * 4294967295 := Nat.mul_le_mul (by omega) (by omega)
            have : ((q * v0 : Nat) : Int) ≤ 18446744073709551615 := by omega
            rwa [Int.natCast_mul] at this
          have m2 : 0 ≤ (q : Int) * v0 := by rw [← Int.natCast_mul]; omega
          by_cases t3 : (4294967296 : Int) * r + d0 < (q : Int) * v0
          · have t3' : decide ((4294967296 : Int) * r + d0 < (q : Int) * v0) = true := by simpa using t3
            have T3 : b32 * r + d0 < q * v0 := by
              unfold b32
              have : ((q * v0 : Nat) : Int) = (q : Int) * v0 := Int.natCast_mul _ _
              omega
            have f := hG.out.less V0.out (by rw [← Hn.out.eYd]; exact HRY.out) Hn.out.d0u (.inr T3)
            have f1 := f.1
            have F := Lib.hid f.2
            clear f t1 t3 T3
            by_cases t2 : (4294967296 : Int) ≤ (r : Int) + v1
            · have t2' : decide ((4294967296 : Int) ≤ (r : Int) + v1) = true := by simpa using t2
              have t2x := Lib.hid t2
              have hqx : Hid (q ≤ 4294967296) := by show _ ≤ _; have : ¬ ((4294967296 : Int) ≤ q) := by simpa using t1'
                                                    omega
              clear t2
              go_upto_region 27 with (fail)
              go_wp2_with fail
              go_meet
              case rel =>
                have hb := F.out.broke V0.out Hn.out.v0u (by have := hqx.out; unfold b32; omega) (by have := t2x.out; unfold b32; omega)
                exact ⟨rfl, ⟨_, rfl⟩, by rw [← hb]; go_num⟩
            · have t2' : decide ((4294967296 : Int) ≤ (r : Int) + v1) = false := by simpa using t2
              go_upto_region 27 with (fail)
              go_wp2_with fail
              exact ⟨⟨q - 1, r + v1, by go_num, by go_num, by omega, by omega, F.out⟩, by simp [intOf]; omega⟩
          · have t3' : decide ((4294967296 : Int) * r + d0 < (q : Int) * v0) = false := by simpa using t3
            have T3 : Hid (q * v0 ≤ b32 * r + d0) := by
              show q * v0 ≤ b32 * r + d0
              unfold b32
              have : ((q * v0 : Nat) : Int) = (q : Int) * v0 := Int.natCast_mul _ _
              omega
            clear t1 t3
            go_wp2_with fail
            go_meet
            case rel =>
              have hb := hG.out.done V0.out T3.out
              exact ⟨rfl, ⟨_, rfl⟩, by rw [← hb]⟩
    case rest =>
      obtain ⟨rfl, ⟨rv, rfl⟩, rfl⟩ := hcut
      rw [← Hn.out.eYd]
      obtain ⟨q0, hq0⟩ : ∃ q0, q0 = (R * b32 + d0) / Y := ⟨_, rfl⟩
      obtain ⟨R0, hR0⟩ : ∃ R0, R0 = (R * b32 + d0) % Y := ⟨_, rfl⟩
      have hYp : 0 < Y := by rw [Hn.out.eYd]; exact V0.out
      have hyp : 0 < y := by omega
      have hl := Hn.out.last hyp Hq1.out HR.out hq0 hR0
      have e15 := wrapR (U := R) (d1 := d0) (q1 := q0) (Y := Y) (R := R0) (by rw [hq0, hR0]; exact (Nat.div_add_mod _ _).symm) (by rw [hR0]; exact Nat.mod_lt _ hYp) HY.out
      have hQ : (hi * b64 + lo) / y < b64 := quo_lt hyp hh Hlo.out
      have e16 := wrapQ hl.1 hQ
      have e17 : (R0 : Int) / 2 ^ s = (((hi * b64 + lo) % y : Nat) : Int) := by
        have := hl.2
        rw [← this, Int.natCast_ediv]
        rfl
      obtain ⟨Q, hQq⟩ : ∃ Q, Q = (hi * b64 + lo) / y := ⟨_, rfl⟩
      obtain ⟨Rm, hRm⟩ : ∃ Rm, Rm = (hi * b64 + lo) % y := ⟨_, rfl⟩
      have HQ := Lib.hid hQq
      have HRm := Lib.hid hRm
      rw [← hQq] at e16
      rw [← hRm] at e17
      rw [← hq0]
      clear hQq hRm hl hQ hq0 hR0 hYp hyp
      go_wp2_with fail
      go_ret2
      refine ⟨?_, .refl _⟩
      rw [← HQ.out, ← HRm.out]
      rfl


theorem bits_or_nat (a b : Nat) (ha : a < b64) (hb : b < b64) : bits .or .u64 (a : Int) (b : Int) = ((a ||| b : Nat) : Int) := by
 unfold b64 at *
 have hx : a ||| b < 2 ^ 64 := Nat.or_lt_two_pow (by omega) (by omega)
 have h1 : (BitVec.ofInt 64 (a : Int)).toNat = a := by
  rw [BitVec.ofInt_natCast, BitVec.toNat_ofNat]; exact Nat.mod_eq_of_lt (by omega)
 have h2 : (BitVec.ofInt 64 (b : Int)).toNat = b := by
  rw [BitVec.ofInt_natCast, BitVec.toNat_ofNat]; exact Nat.mod_eq_of_lt (by omega)
 show IntKind.u64.wrap ((BitVec.ofInt 64 (a : Int) ||| BitVec.ofInt 64 (b : Int)).toNat : Int) = _
 rw [BitVec.toNat_or, h1, h2, IntKind.wrap_u64]
 omega

theorem bits_and_nat (a b : Nat) (ha : a < b64) (hb : b < b64) : bits .and .u64 (a : Int) (b : Int) = ((a &&& b : Nat) : Int) := by
 unfold b64 at *
 have hx : a &&& b ≤ a := Nat.and_le_left
 have h1 : (BitVec.ofInt 64 (a : Int)).toNat = a := by
  rw [BitVec.ofInt_natCast, BitVec.toNat_ofNat]; exact Nat.mod_eq_of_lt (by omega)
 have h2 : (BitVec.ofInt 64 (b : Int)).toNat = b := by
  rw [BitVec.ofInt_natCast, BitVec.toNat_ofNat]; exact Nat.mod_eq_of_lt (by omega)
 show IntKind.u64.wrap ((BitVec.ofInt 64 (a : Int) &&& BitVec.ofInt 64 (b : Int)).toNat : Int) = _
 rw [BitVec.toNat_and, h1, h2, IntKind.wrap_u64]
 omega

theorem bits_low32 (a : Nat) (ha : a < b64) : bits .and .u64 (a : Int) 4294967295 = ((a % 4294967296 : Nat) : Int) := by
 have := bits_and_nat a 4294967295 ha (by unfold b64; omega)
 have e : a &&& 4294967295 = a % 4294967296 := Nat.and_two_pow_sub_one_eq_mod a 32
 rw [e] at this
 exact this

theorem bitLenAux_spec : ∀ (f x : Nat), x < 2 ^ f → x < 2 ^ Lib.bitLenAux f x ∧ (x ≠ 0 → 1 ≤ Lib.bitLenAux f x ∧ 2 ^ (Lib.bitLenAux f x - 1) ≤ x) ∧ Lib.bitLenAux f x ≤ f := by
 intro f
 induction f with
 | zero => intro x hx; simp at hx; subst hx; simp [Lib.bitLenAux]
 | succ f ih =>
  intro x hx
  by_cases h0 : x = 0
  ·
   subst h0; simp [Lib.bitLenAux]
  ·
   have e : Lib.bitLenAux (f + 1) x = 1 + Lib.bitLenAux f (x / 2) := by simp [Lib.bitLenAux, h0]
   obtain ⟨h1, h2, h3⟩ := ih (x / 2) (by rw [Nat.pow_succ] at hx; omega)
   rw [e]
   refine ⟨by rw [Nat.add_comm, Nat.pow_succ]; omega, fun _ => ⟨by omega, ?_⟩, by omega⟩
   rw [Nat.add_comm, Nat.add_sub_cancel]
   by_cases hx2 : x / 2 = 0
   ·
    have : x = 1 := by omega
    subst this
    have : Lib.bitLenAux f 0 = 0 := by cases f <;> simp [Lib.bitLenAux]
    simp [this]
   ·
    obtain ⟨h4, h5⟩ := h2 hx2
    have e2 : 2 ^ Lib.bitLenAux f (x / 2) = 2 * 2 ^ (Lib.bitLenAux f (x / 2) - 1) := by
     rw [← Nat.pow_succ']; congr 1; omega
    rw [e2]; omega

theorem bitLen_spec64 (x : Nat) (hx : x < b64) : x < 2 ^ Lib.bitLen x ∧ (x ≠ 0 → 1 ≤ Lib.bitLen x ∧ 2 ^ (Lib.bitLen x - 1) ≤ x) ∧ Lib.bitLen x ≤ 64 :=
 bitLenAux_spec 64 x (by rw [b64_pow] at hx; exact hx)

theorem div64_nums (hi lo y s : Nat) (hs : s + Lib.bitLen y = 64) (hs1 : s ≤ 63) (hy : y < b64) (hy0 : y ≠ 0) (hlo : lo < b64) (hh : hi < y) :
  ∃ Y v1 v0 U M d1 d0 : Nat, Nums hi lo y s Y v1 v0 U M d1 d0 ∧ Y < b64 ∧ hi * 2 ^ s < b64 ∧ v1 = Y / b32 ∧ v0 = Y % b32 ∧ d1 = M / b32 ∧ d0 = M % b32 := by
 obtain ⟨k1, k2, _⟩ := bitLen_spec64 y hy
 obtain ⟨k3, k4⟩ := k2 hy0
 have hp : 0 < 2 ^ s := Nat.two_pow_pos s
 have e64 : b64 = 2 ^ s * 2 ^ Lib.bitLen y := by rw [b64_pow, ← Nat.pow_add, hs]
 have e64' : b64 = 2 ^ s * 2 ^ (64 - s) := by rw [b64_pow, ← Nat.pow_add]; congr 1; omega
 have hYlt : y * 2 ^ s < b64 := by rw [e64, Nat.mul_comm]; exact Nat.mul_lt_mul_of_pos_left k1 hp
 have hYge : b64 ≤ 2 * (y * 2 ^ s) := by
  have : 2 ^ Lib.bitLen y = 2 * 2 ^ (Lib.bitLen y - 1) := by rw [← Nat.pow_succ']; congr 1; omega
  rw [e64, this]
  have h := Nat.mul_le_mul_left (2 ^ s) k4
  have e : 2 ^ s * (2 * 2 ^ (Lib.bitLen y - 1)) = 2 * (2 ^ s * 2 ^ (Lib.bitLen y - 1)) := by ac_rfl
  rw [e, Nat.mul_comm y]
  omega
 have hlo2 : lo / 2 ^ (64 - s) < 2 ^ s := by
  rw [Nat.div_lt_iff_lt_mul (Nat.two_pow_pos _), ← e64']; exact hlo
 have hUY : hi * 2 ^ s + lo / 2 ^ (64 - s) < y * 2 ^ s := by
  have : (hi + 1) * 2 ^ s ≤ y * 2 ^ s := Nat.mul_le_mul_right _ hh
  rw [Nat.add_mul, Nat.one_mul] at this
  omega
 have hM : lo * 2 ^ s % b64 = (lo % 2 ^ (64 - s)) * 2 ^ s := by
  rw [e64', Nat.mul_comm (2 ^ s) (2 ^ (64 - s)), Nat.mul_mod_mul_right]
 refine ⟨y * 2 ^ s, y * 2 ^ s / b32, y * 2 ^ s % b32, hi * 2 ^ s + lo / 2 ^ (64 - s), lo * 2 ^ s % b64, lo * 2 ^ s % b64 / b32, lo * 2 ^ s % b64 % b32, ?_, hYlt, Nat.lt_of_le_of_lt (Nat.le_add_right _ _) (Nat.lt_trans hUY hYlt), rfl, rfl, rfl, rfl⟩
 have hsq := b64_sq
 refine ⟨rfl, by rw [Nat.mul_comm (y * 2 ^ s / b32)]; exact (Nat.div_add_mod _ _).symm, ?_, ?_, Nat.mod_lt _ b32_pos, rfl, hUY, rfl, by rw [Nat.mul_comm (lo * 2 ^ s % b64 / b32)]; exact (Nat.div_add_mod _ _).symm, ?_, Nat.mod_lt _ b32_pos, ?_⟩
 ·
  unfold b64 b32 at *; omega
 ·
  rw [Nat.div_lt_iff_lt_mul b32_pos, ← hsq]; exact hYlt
 ·
  rw [Nat.div_lt_iff_lt_mul b32_pos, ← hsq]; exact Nat.mod_lt _ b64_pos
 ·
  have h1 : lo * 2 ^ s % b64 / b32 * b32 + lo * 2 ^ s % b64 % b32 = lo * 2 ^ s % b64 := by rw [Nat.mul_comm (lo * 2 ^ s % b64 / b32)]; exact Nat.div_add_mod _ _
  rw [Nat.add_assoc, h1, hM, ← hsq, Nat.add_mul]
  have h2 := Nat.div_add_mod lo (2 ^ (64 - s))
  have h3 : lo / 2 ^ (64 - s) * b64 + lo % 2 ^ (64 - s) * 2 ^ s = lo * 2 ^ s := by
   have : lo * 2 ^ s = (2 ^ (64 - s) * (lo / 2 ^ (64 - s)) + lo % 2 ^ (64 - s)) * 2 ^ s := by rw [h2]
   rw [this, Nat.add_mul, e64']
   have e5 : lo / 2 ^ (64 - s) * (2 ^ s * 2 ^ (64 - s)) = 2 ^ (64 - s) * (lo / 2 ^ (64 - s)) * 2 ^ s := by ac_rfl
   rw [e5]
  rw [Nat.add_mul, Nat.add_assoc, h3]
  have e6 : hi * 2 ^ s * b64 = hi * b64 * 2 ^ s := by ac_rfl
  rw [e6]

set_option maxRecDepth 100000 in
set_option maxHeartbeats 1000000 in
theorem div64_any (hi lo y : Nat) (w : World) (hy : y < b64) (hlo : lo < b64) (hh : hi < y) :
  Calls Tryz.prog 74 #[.int .u64 hi, .int .u64 lo, .int .u64 y] w fun e w' => e = .returned (.tuple #[.int .u64 ((hi * b64 + lo) / y : Nat), .int .u64 ((hi * b64 + lo) % y : Nat)]) ∧ Quiet w w' := by
 rcases Nat.eq_zero_or_pos hi with h0 | h0
 ·
  subst h0
  have c1 : ((y : Int) == 0) = false := by simp; omega
  have c3 : (0 : Int) < y := by omega
  have c4 : ¬ (y : Int) ≤ 0 := by omega
  have hq : lo / y < b64 := Nat.lt_of_le_of_lt (Nat.div_le_self _ _) hlo
  have g1 : (lo : Int) ≤ 18446744073709551615 := by unfold b64 at hlo; omega
  have e1 : IntKind.u64.wrap ((lo : Int) / y) = ((lo / y : Nat) : Int) := by
   rw [IntKind.wrap_u64, ← Int.natCast_ediv]
   generalize lo / y = z at *
   unfold b64 at hq
   omega
  obtain ⟨q, hqq⟩ : ∃ q, q = lo / y := ⟨_, rfl⟩
  obtain ⟨r, hrr⟩ : ∃ r, r = lo % y := ⟨_, rfl⟩
  have e2 : (lo : Int) % y = (r : Int) := by rw [hrr]; rfl
  rw [← hqq] at e1
  have e3 : (0 * b64 + lo) / y = q := by rw [hqq, Nat.zero_mul, Nat.zero_add]
  have e4 : (0 * b64 + lo) % y = r := by rw [hrr, Nat.zero_mul, Nat.zero_add]
  rw [e3, e4]
  clear e3 e4 hqq hrr hq hlo hy
  go_enter Tryz.func74, Tryz.ntmps74
  go_wp2_with fail
  go_quiet (fail)
  go_wp2_with fail
  go_ret2
  refine ⟨?_, _, rfl⟩
  rw [← e2]
  rfl
 ·
  obtain ⟨k1, k2, k5⟩ := bitLen_spec64 y hy
  obtain ⟨k3, k4⟩ := k2 (by omega)
  obtain ⟨Y, v1, v0, U, M, d1, d0, hn, hY, hH, rv1, rv0, rd1, rd0⟩ := div64_nums hi lo y (64 - Lib.bitLen y) (by omega) (by omega) hy (by omega) hlo hh
  generalize hse : 64 - Lib.bitLen y = s at *
  have hp : 0 < 2 ^ s := Nat.two_pow_pos s
  have hUb : U < b64 := Nat.lt_trans hn.UY hY
  have hLb : lo / 2 ^ (64 - s) < 2 ^ s := by
   have e64' : b64 = 2 ^ s * 2 ^ (64 - s) := by rw [b64_pow, ← Nat.pow_add]; congr 1; omega
   rw [Nat.div_lt_iff_lt_mul (Nat.two_pow_pos _), ← e64']; exact hlo
  have hG := Guess.first (b := b32) (v1 := v1) (v0 := v0) (u := U) (d := d1) b32_two hn.v1l hn.v0u (by rw [← hn.eYd]; exact hn.UY) hn.d1u
  have hv1p : 0 < v1 := by have := hn.v1l; unfold b32 at this; omega
  have hdm := Nat.div_add_mod U v1
  have hMb : M < b64 := by rw [hn.eM]; exact Nat.mod_lt _ b64_pos
  refine div64_walk hi lo y s Y v1 v0 U M d1 d0 (hi * 2 ^ s) (lo / 2 ^ (64 - s)) w (by omega) (by omega) hn hy hh h0 ?_ ?_ ?_ ?_ ?_ ?_ ?_ ?_ ?_ (U / v1) (U % v1) ?_ ?_ ?_ ?_ ?_ ?_ ?_ hG ?_ hY hlo
  ·
   rw [IntKind.wrap_u64, hn.eY]
   have e : ((y * 2 ^ s : Nat) : Int) = (y : Int) * 2 ^ s := by simp
   rw [← e]
   rw [hn.eY] at hY
   unfold b64 at hY
   omega
  ·
   rw [rv1]; unfold b32; simp
  ·
   rw [bits_low32 Y hY, rv0]; unfold b32; rfl
  ·
   rw [IntKind.wrap_u64]
   have e : ((hi * 2 ^ s : Nat) : Int) = (hi : Int) * 2 ^ s := by simp
   rw [← e]
   unfold b64 at hH
   omega
  ·
   simp
  ·
   rw [bits_or_nat _ _ hH (by rw [hn.eU] at hUb; omega), or_disjoint _ _ _ hLb, ← hn.eU]
  ·
   rw [IntKind.wrap_u64, hn.eM]
   unfold b64
   simp
  ·
   rw [rd1]; unfold b32; simp
  ·
   rw [bits_low32 M hMb, rd0]; unfold b32; rfl
  ·
   simp
  ·
   have : (v1 : Int) * ((U / v1 : Nat) : Int) + ((U % v1 : Nat) : Int) = U := by rw [← Int.natCast_mul]; omega
   rw [Int.mul_comm]; omega
  ·
   rw [← Int.natCast_mul, Nat.mul_comm]; omega
  ·
   unfold b64 at hUb; omega
  ·
   omega
  ·
   rw [← Int.natCast_mul]; omega
  ·
   have := hG.hi; unfold b32 at this; omega
  ·
   have h1 := Nat.mod_lt U hv1p
   have h2 := hn.v1u
   unfold b32 at h2
   omega


theorem div64_named (hi lo y : Nat) (w : World) (hy : y < b64) (hlo : lo < b64) (hh : hi < y) :
  Calls Tryz.prog 74 #[.int .u64 hi, .int .u64 lo, .int .u64 y] w fun e w' => e = .returned (.tuple #[.int .u64 (divQ hi lo y : Nat), .int .u64 (divR hi lo y : Nat)]) ∧ Quiet w w' :=
 div64_any hi lo y w hy hlo hh

end Go.Proofs.YtofijjomfhmbjaaGreat

namespace Go.Proofs.YtofijjomfhmbjaaGreat
open Go.RowKit

structure ByIn (a : List Nat) (d j : Nat) (o : List Nat) (r : Nat) : Prop where
 len : o.length = a.length
 dgs : Dgs b64 o
 rem : r < d
 val : lv b64 (a.drop j) = lv b64 (o.drop j) * d + r
 low : ∀ i, i < j → o.getD i 0 = 0

theorem ByIn.start (a : List Nat) (d : Nat) (hd : 0 < d) : ByIn a d a.length (List.replicate a.length 0) 0 :=
 ⟨by simp, Dgs.replicate b64_pos _, hd, by simp [lv], fun i _ => by simp [List.getElem?_replicate]; split <;> rfl⟩

theorem divQ_lt (hi lo y : Nat) (hy : 0 < y) (hlo : lo < b64) (hh : hi < y) : divQ hi lo y < b64 := quo_lt hy hh hlo

theorem ByIn.step {a : List Nat} {d j : Nat} {o : List Nat} {r : Nat} (h : ByIn a d (j + 1) o r) (ha : Dgs b64 a) (hj : j < a.length) :
  ByIn a d j (o.set j (divQ r (a.getD j 0) d)) (divR r (a.getD j 0) d) := by
 have hd : 0 < d := by have := h.rem; omega
 have hx := ha.getD b64_pos j
 refine ⟨by simpa using h.len, h.dgs.set _ _ (divQ_lt _ _ _ hd hx h.rem), Nat.mod_lt _ hd, ?_, fun i hi => ?_⟩
 ·
  have h1 : (o.set j (divQ r (a.getD j 0) d)).drop j = divQ r (a.getD j 0) d :: o.drop (j + 1) := by
   rw [List.drop_eq_getElem_cons (by simp [h.len]; exact hj)]
   simp [List.drop_set]
  rw [h1, List.drop_eq_getElem_cons hj, lv_cons, lv_cons, h.val]
  have hg : a.getD j 0 = a[j] := by simp [hj]
  rw [← hg]
  have e := Nat.div_add_mod (r * b64 + a.getD j 0) d
  have e2 : d * divQ r (a.getD j 0) d + divR r (a.getD j 0) d = r * b64 + a.getD j 0 := e
  rw [Nat.mul_add, Nat.add_mul]
  have e3 : b64 * lv b64 (o.drop (j + 1)) * d = b64 * (lv b64 (o.drop (j + 1)) * d) := Nat.mul_assoc _ _ _
  have e4 : divQ r (a.getD j 0) d * d = d * divQ r (a.getD j 0) d := Nat.mul_comm _ _
  have e5 : b64 * r = r * b64 := Nat.mul_comm _ _
  omega
 ·
  have := h.low i (by omega)
  rw [List.getD_eq_getElem?_getD] at *
  rw [List.getElem?_set_ne (by omega)]
  exact this

theorem ByIn.done {a : List Nat} {d : Nat} {o : List Nat} {r : Nat} (h : ByIn a d 0 o r) : lv b64 o = lv b64 a / d ∧ r = lv b64 a % d := by
 have hd : 0 < d := by have := h.rem; omega
 have hv := h.val
 simp only [List.drop_zero] at hv
 rw [hv]
 constructor
 ·
  rw [Nat.add_comm, Nat.add_mul_div_right _ _ hd, Nat.div_eq_of_lt h.rem, Nat.zero_add]
 ·
  rw [Nat.add_comm, Nat.add_mul_mod_self_right, Nat.mod_eq_of_lt h.rem]

def RetNatWord (q r : Nat) (w : World) (e : Ending) (w' : World) : Prop :=
 ∃ v, e = .returned (.tuple #[v, .int .u64 (r : Nat)]) ∧ IsNat .u64 b64 w' v q ∧ Below w.heap.size w w'

set_option maxRecDepth 100000 in
set_option maxHeartbeats 1000000 in
theorem byWord_any (m d : Nat) (va : Value) (w : World) (ha : IsNat .u64 b64 w va m) (hsz : (dig b64 m).length ≤ 1099511627776) (hd0 : 0 < d) (hd1 : d < b64) :
  Calls Tryz.prog 50 #[va, .int .u64 d] w (RetNatWord (m / d) (m % d) w) := by
 obtain ⟨aa, ca, rfl, hA⟩ := IsRow.opened ha
 have hda := dgs_dig b64_two m
 have Hva := Lib.hid (lv_dig b64_two m)
 clear ha
 generalize dig b64 m = da at *
 obtain ⟨i0, hi, hz0, hz1, hz2⟩ := info_parts info_u64
 have Hd := Lib.hid hd1
 clear hd1
 go_enter Tryz.func50, Tryz.ntmps50
 go_wp2_with (at_make; refine wpList_make_full _ rfl _ _ 52 rfl w.heap.size 103 i0 (.int .u64 0) 1 Tryz.underlying52 hi hz0 hz1 _ _ _ _ da.length rfl rfl (by omega) (by omega) (by rw [hz2]; omega) (by unfold maxLen; omega) (by omega) ?_)
 intro w1 hown hgrow
 have ho := Own.of_made hown
 have hbel := (Below.refl w.heap.size w).grown hgrow (Nat.le_refl _) (by simp)
 clear hown hgrow hi hz0 hz1 hz2
 go_wp2_with fail
 go_loopw [7, 8] (fun rv jv wr => ∃ (j : Nat) (o : List Nat) (r : Nat), j ≤ da.length ∧ jv = .int .i64 ((j : Int) - 1) ∧ rv = .int .u64 r ∧ Own wr w.heap.size .u64 103 o ∧ Hid (ByIn da d j o r) ∧ Below w.heap.size w wr)
  (fun _ jv _ => ((intOf jv) + 1).toNat)
 case atStart => exact ⟨da.length, _, 0, Nat.le_refl _, by go_num, rfl, ho, ByIn.start da d hd0, hbel⟩
 case round =>
  clear ho hbel
  obtain ⟨j, o, r, hj, rfl, rfl, ho, hB, hbel⟩ := hrel
  rcases Nat.eq_zero_or_pos j with rfl | hjp
  ·
   have hlen := Lib.hid hB.out.len
   go_wp2_with fail
   have hrow := ho.isRow (by unfold maxLen; rw [hlen.out]; omega)
   rw [hlen.out] at hrow
   refine (cut_any o _ _ hrow hB.out.dgs).mono ?_
   rintro e w' ⟨v, rfl, hv, rfl⟩
   go_wp2_with fail
   go_ret2
   have hdn := hB.out.done
   rw [Hva.out] at hdn
   rw [← hdn.1, ← hdn.2]
   exact ⟨v, rfl, hv, hbel⟩
  ·
   obtain ⟨i, rfl⟩ : ∃ i, j = i + 1 := ⟨j - 1, by omega⟩
   obtain ⟨b, off, rfl, hbA, hcA⟩ := hA (by omega)
   have hca : wr.cell? ⟨b, off + i, none⟩ = some (.int .u64 (da.getD i 0 : Nat)) := (hbel.cell (p := ⟨b, off + i, none⟩) hbA).trans (hcA i (by omega))
   have hco := ho.cell i (by rw [hB.out.len]; omega)
   have hfo := ho.frozen i
   have Hx : Hid (da.getD i 0 < b64) := hda.getD b64_pos i
   obtain ⟨x, hx⟩ : ∃ x, x = da.getD i 0 := ⟨_, rfl⟩
   rw [← hx] at hca Hx
   have HX := Lib.hid hx
   clear hx
   have e1 : ((i + 1 : Nat) : Int) - 1 = (i : Int) := by omega
   rw [e1]
   have hi1 : (i : Int) < da.length := by omega
   go_wp2_with fail
   refine (div64_named r x d _ Hd.out Hx.out hB.out.rem).mono ?_
   rintro e w' ⟨rfl, nq, rfl⟩
   go_wp2_with fail
   refine ⟨⟨i, _, divR r x d, by omega, rfl, rfl, (ho.drewN nq).store _ _, ?_, (below_dn hbel nq).setCell (p := ⟨w.heap.size, i, none⟩) (Nat.le_refl _) _⟩, by simp [intOf]⟩
   rw [HX.out]
   exact hB.out.step hda (by omega)

end Go.Proofs.YtofijjomfhmbjaaGreat

namespace Go.Proofs.YtofijjomfhmbjaaGreat
open Go.RowKit

structure ScIn (v : List Nat) (q k : Nat) (o : List Nat) (c : Nat) : Prop where
 len : o.length = v.length + 1
 dgs : Dgs b64 o
 car : c < b64
 val : lv b64 o + c * b64 ^ k = lv b64 (v.take k) * q
 top : ∀ j, k ≤ j → o.getD j 0 = 0

theorem sc_step (x q c : Nat) (hx : x < b64) (hq : q < b64) (hc : c < b64) :
  addLo (mulLo x q) c 0 + b64 * (mulHi x q + addHi (mulLo x q) c 0) = x * q + c ∧ mulHi x q + addHi (mulLo x q) c 0 < b64 := by
 have h := mul_step 0 c x q b64_pos hc hx hq
 have e1 : addLo (mulLo x q) 0 0 = mulLo x q := by unfold addLo; simp; exact Nat.mod_eq_of_lt (mulLo_lt x q)
 have e2 : addHi (mulLo x q) 0 0 = 0 := by unfold addHi; simp; exact .inr (mulLo_lt x q)
 rw [e1, e2] at h
 simp only [Nat.add_zero] at h
 exact ⟨h.1, h.2.1⟩

theorem ScIn.start (v : List Nat) (q : Nat) : ScIn v q 0 (List.replicate (v.length + 1) 0) 0 :=
 ⟨by simp, Dgs.replicate b64_pos _, b64_pos, by simp [lv_replicate, lv], fun j _ => by simp [List.getElem?_replicate]; split <;> rfl⟩

theorem ScIn.step {v : List Nat} {q k : Nat} {o : List Nat} {c : Nat} (h : ScIn v q k o c) (hv : Dgs b64 v) (hq : q < b64) (hk : k < v.length) :
  ScIn v q (k + 1) (o.set k (addLo (mulLo (v.getD k 0) q) c 0)) (mulHi (v.getD k 0) q + addHi (mulLo (v.getD k 0) q) c 0) := by
 have hs := sc_step (v.getD k 0) q c (hv.getD b64_pos k) hq h.car
 refine ⟨by simpa using h.len, h.dgs.set _ _ (addLo_lt _ _ _), hs.2, ?_, fun j hj => ?_⟩
 ·
  have h1 := lv_set b64 o k (addLo (mulLo (v.getD k 0) q) c 0) (by rw [h.len]; omega)
  rw [h.top k (Nat.le_refl _)] at h1
  have h2 := h.val
  have e0 : (lv b64 (v.take k) + b64 ^ k * v.getD k 0) * q = lv b64 (v.take k) * q + b64 ^ k * v.getD k 0 * q := Nat.add_mul _ _ _
  rw [lv_take_succ b64 v k hk, e0, ← h2, Nat.pow_succ]
  have e1 : (mulHi (v.getD k 0) q + addHi (mulLo (v.getD k 0) q) c 0) * (b64 ^ k * b64) = b64 ^ k * (b64 * (mulHi (v.getD k 0) q + addHi (mulLo (v.getD k 0) q) c 0)) := by ac_rfl
  have e2 : b64 ^ k * v.getD k 0 * q = b64 ^ k * (v.getD k 0 * q) := Nat.mul_assoc _ _ _
  have e3 : c * b64 ^ k = b64 ^ k * c := Nat.mul_comm _ _
  have e4 : b64 ^ k * (addLo (mulLo (v.getD k 0) q) c 0 + b64 * (mulHi (v.getD k 0) q + addHi (mulLo (v.getD k 0) q) c 0)) = b64 ^ k * (v.getD k 0 * q + c) := by rw [hs.1]
  rw [e1, e2, e3]
  rw [Nat.mul_add (b64 ^ k), Nat.mul_add (b64 ^ k)] at e4
  omega
 ·
  have := h.top j (by omega)
  rw [List.getD_eq_getElem?_getD] at *
  rw [List.getElem?_set_ne (by omega)]
  exact this

theorem ScIn.done {v : List Nat} {q : Nat} {o : List Nat} {c : Nat} (h : ScIn v q v.length o c) : lv b64 (o.set v.length c) = lv b64 v * q ∧ Dgs b64 (o.set v.length c) := by
 refine ⟨?_, h.dgs.set _ _ h.car⟩
 have h1 := lv_set b64 o v.length c (by rw [h.len]; omega)
 rw [h.top _ (Nat.le_refl _)] at h1
 have h2 := h.val
 rw [List.take_length] at h2
 have : c * b64 ^ v.length = b64 ^ v.length * c := Nat.mul_comm _ _
 omega

structure DfIn (u p : List Nat) (i : Nat) (x : List Nat) (b : Nat) : Prop where
 len : x.length = i
 dgs : Dgs b64 x
 bor : b ≤ 1
 val : lv b64 x + lv b64 (p.take i) = lv b64 (u.take i) + b * b64 ^ i

theorem sub_eq_any (B x y b : Nat) (hx : x < B) (hy : y < B) (hb : b ≤ 1) : (B + x - y - b) % B + y + b = x + B * (if x < y + b then 1 else 0) := by
 by_cases h : x < y + b
 ·
  rw [if_pos h, Nat.mul_one]
  rw [Nat.mod_eq_of_lt (by omega)]
  omega
 ·
  rw [if_neg h, Nat.mul_zero]
  have : B + x - y - b = (x - y - b) + B := by omega
  rw [this, Nat.add_mod_right, Nat.mod_eq_of_lt (by omega)]
  omega

theorem sub_eq (x y b : Nat) (hx : x < b64) (hy : y < b64) (hb : b ≤ 1) : subLo x y b + y + b = x + b64 * subHi x y b := by
 unfold subLo subHi
 generalize b64 = B at *
 exact sub_eq_any B x y b hx hy hb

theorem DfIn.start (u p : List Nat) : DfIn u p 0 [] 0 := ⟨rfl, Dgs.nil _, by omega, by simp [lv]⟩

theorem DfIn.step {u p : List Nat} {i : Nat} {x : List Nat} {b : Nat} (h : DfIn u p i x b) (hu : Dgs b64 u) (hp : Dgs b64 p) (hlen : u.length = p.length) (hi : i < u.length) :
  DfIn u p (i + 1) (x ++ [subLo (u.getD i 0) (p.getD i 0) b]) (subHi (u.getD i 0) (p.getD i 0) b) := by
 refine ⟨by simp [h.len], h.dgs.append (Dgs.cons (subLo_lt _ _ _) (Dgs.nil _)), subHi_le _ _ _, ?_⟩
 have e := sub_eq (u.getD i 0) (p.getD i 0) b (hu.getD b64_pos i) (hp.getD b64_pos i) h.bor
 rw [lv_append, lv_take_succ b64 p i (by omega), lv_take_succ b64 u i hi, h.len, Nat.pow_succ]
 have h1 := h.val
 have e1 : lv b64 [subLo (u.getD i 0) (p.getD i 0) b] = subLo (u.getD i 0) (p.getD i 0) b := by simp [lv]
 rw [e1]
 have e2 : b64 ^ i * (subLo (u.getD i 0) (p.getD i 0) b + p.getD i 0 + b) = b64 ^ i * (u.getD i 0 + b64 * subHi (u.getD i 0) (p.getD i 0) b) := by rw [e]
 simp only [Nat.mul_add] at e2
 have e3 : subHi (u.getD i 0) (p.getD i 0) b * (b64 ^ i * b64) = b64 ^ i * (b64 * subHi (u.getD i 0) (p.getD i 0) b) := by ac_rfl
 have e4 : b * b64 ^ i = b64 ^ i * b := Nat.mul_comm _ _
 rw [e3]
 omega

theorem DfIn.done {u p : List Nat} {x : List Nat} {b : Nat} (h : DfIn u p u.length x b) (hlen : u.length = p.length) (hle : lv b64 p ≤ lv b64 u) : lv b64 x = lv b64 u - lv b64 p := by
 have h1 := h.val
 rw [List.take_length, hlen, List.take_length] at h1
 have h2 := lv_lt h.dgs
 rw [h.len, hlen] at h2
 have hb : b = 0 := by
  rcases Nat.eq_zero_or_pos b with h0 | h0
  ·
   exact h0
  ·
   have : b64 ^ p.length ≤ b * b64 ^ p.length := Nat.le_mul_of_pos_left _ h0
   omega
 subst hb
 omega

theorem set_mid (pre x : List Nat) (u : List Nat) (i : Nat) (post : List Nat) (hx : x.length = i) (hi : i < u.length) (y : Nat) :
  (pre ++ (x ++ u.drop i) ++ post).set (pre.length + i) y = pre ++ ((x ++ [y]) ++ u.drop (i + 1)) ++ post := by
 subst hx
 have e : u.drop x.length = u[x.length] :: u.drop (x.length + 1) := List.drop_eq_getElem_cons hi
 rw [e]
 generalize u.drop (x.length + 1) = t
 rw [List.append_assoc, List.set_append_right _ _ (by omega), Nat.add_sub_cancel_left, List.append_assoc, List.set_append_right _ _ (by omega), Nat.sub_self]
 simp

theorem getD_mid (pre x : List Nat) (u : List Nat) (i : Nat) (post : List Nat) (hx : x.length = i) (hi : i < u.length) :
  (pre ++ (x ++ u.drop i) ++ post).getD (pre.length + i) 0 = u.getD i 0 := by
 subst hx
 have e : u.drop x.length = u[x.length] :: u.drop (x.length + 1) := List.drop_eq_getElem_cons hi
 rw [e]
 generalize u.drop (x.length + 1) = t
 have e2 : u.getD x.length 0 = u[x.length] := by simp [hi]
 rw [e2, List.append_assoc, List.getD_eq_getElem?_getD, List.getElem?_append_right (by omega), Nat.add_sub_cancel_left, List.append_assoc, List.getElem?_append_right (by omega), Nat.sub_self]
 rfl

def RetMid (w : World) (bu : Nat) (e : TypeId) (pre : List Nat) (val : Nat) (n : Nat) (post : List Nat) (r : Value) (en : Ending) (w' : World) : Prop :=
 ∃ u', en = .returned r ∧ u'.length = n ∧ Dgs b64 u' ∧ lv b64 u' = val ∧ Own w' bu .u64 e (pre ++ u' ++ post) ∧ w.grownBy w' (some bu)

theorem grownBy_trans {w a b : World} {row : Option Nat} (h : w.grownBy a row) (k : a.grownBy b row) : w.grownBy b row :=
 ⟨k.os.trans h.os, k.tape.trans h.tape, k.output.trans h.output, Nat.le_trans h.size k.size, fun i hi hne => (k.block i (Nat.lt_of_lt_of_le hi h.size) hne).trans (h.block i hi hne)⟩
theorem grownBy_below {w a : World} (h : Below w.heap.size w a) (row : Option Nat) : w.grownBy a row :=
 ⟨h.os, h.tape, h.output, h.size, fun i hi _ => h.block i hi⟩
theorem grownBy_set {w a : World} {g : Nat} (h : w.grownBy a (some g)) (j : Nat) (v : Value) : w.grownBy (a.setCell ⟨g, j, none⟩ v) (some g) :=
 grownBy_trans h ⟨rfl, rfl, rfl, by simp, fun k _ hk => heap_setCell_other a ⟨g, j, none⟩ k v (fun e => hk (by simp [e]))⟩
theorem grownBy_dn {w a : World} {row : Option Nat} (h : w.grownBy a row) (n : Nat) : w.grownBy (a.drewN n) row := ⟨h.os, h.tape, h.output, h.size, h.block⟩
theorem grownBy_dr {w a : World} {row : Option Nat} (h : w.grownBy a row) : w.grownBy a.drew row := ⟨h.os, h.tape, h.output, h.size, h.block⟩

end Go.Proofs.YtofijjomfhmbjaaGreat

namespace Go.Proofs.YtofijjomfhmbjaaGreat
open Go.RowKit

theorem mid_row {w : World} {g : Nat} {e : TypeId} {pre u post : List Nat} (h : Own w g .u64 e (pre ++ u ++ post)) (cap : Nat) (h1 : u.length ≤ cap) (h2 : cap ≤ maxLen) (h0 : 0 < u.length) :
  IsRow .u64 w (.slice (some ⟨g, pre.length, none⟩) u.length cap) u := by
 refine .inr ⟨h0, g, pre.length, cap, rfl, h1, h2, h.lt, fun j hj => ?_⟩
 rw [h.cell (pre.length + j) (by simp; omega)]
 congr 2
 have : (pre ++ u ++ post).getD (pre.length + j) 0 = u.getD j 0 := by
  simp [List.getElem?_append_right, List.getElem?_append_left, hj]
 rw [this]

def tkOk (a b : Nat) : Bool := decide (a ≤ b)
def tkVal (a b : Nat) : Nat := if a ≤ b then b - a else b

set_option maxRecDepth 100000 in
set_option maxHeartbeats 2000000 in
theorem take_any (pre u post dv : List Nat) (bu capu bv offv capv q : Nat) (w : World) (hown : Own w bu .u64 103 (pre ++ u ++ post))
  (hlen : u.length = dv.length + 1) (hu : Dgs b64 u) (hv : Dgs b64 dv) (hq : q < b64) (hcap : u.length ≤ capu) (hcap2 : capu ≤ maxLen) (hne : bv ≠ bu) (hbv : bv < w.heap.size)
  (hcv : ∀ j, j < dv.length → w.cell? ⟨bv, offv + j, none⟩ = some (.int .u64 (dv.getD j 0 : Nat))) (hsz : dv.length ≤ 1099511627776) (hsz2 : pre.length ≤ 1099511627776) :
  Calls Tryz.prog 115 #[.slice (some ⟨bu, pre.length, none⟩) (dv.length + 1) capu, .slice (some ⟨bv, offv, none⟩) dv.length capv, .int .u64 q] w
   (RetMid w bu 103 pre (tkVal (lv b64 dv * q) (lv b64 u)) (dv.length + 1) post (.bool (tkOk (lv b64 dv * q) (lv b64 u)))) := by
 have Hcap := Lib.hid hcap
 have Hcap2 := Lib.hid hcap2
 have Hq := Lib.hid hq
 have Hown := Lib.hid hown
 have hbul := hown.lt
 clear hcap hcap2 hq hown
 obtain ⟨i0, hi, hz0, hz1, hz2⟩ := info_parts info_u64
 have Hlen := Lib.hid hlen
 clear hlen
 go_enter Tryz.func115, Tryz.ntmps115
 go_wp2_with (at_make; refine wpList_make_full _ rfl _ _ 52 rfl w.heap.size 103 i0 (.int .u64 0) 1 Tryz.underlying52 hi hz0 hz1 _ _ _ _ (dv.length + 1) rfl rfl (by omega) (by omega) (by rw [hz2]; omega) (by unfold maxLen; omega) (by omega) ?_)
 intro w1 hwn hgrow
 have ho := Own.of_made hwn
 have hbel := (Below.refl w.heap.size w).grown hgrow (Nat.le_refl _) (by simp)
 clear hwn hgrow hi hz0 hz1 hz2
 go_wp2_with fail
 go_loopw [8, 22] (fun cv kv wr => ∃ (k : Nat) (o : List Nat) (c : Nat), k ≤ dv.length ∧ kv = .int .i64 k ∧ cv = .int .u64 c ∧ Own wr w.heap.size .u64 103 o ∧ Hid (ScIn dv q k o c) ∧ Below w.heap.size w wr)
  (fun _ kv _ => dv.length - (intOf kv).toNat)
 case atStart => exact ⟨0, _, 0, Nat.zero_le _, rfl, rfl, ho, ScIn.start dv q, hbel⟩
 case round =>
  clear ho hbel
  obtain ⟨k, o, c, hkl, rfl, rfl, ho, hM, hbel⟩ := hrel
  by_cases hlt : k < dv.length
  ·
   have hca : wr.cell? ⟨bv, offv + k, none⟩ = some (.int .u64 (dv.getD k 0 : Nat)) := (hbel.cell (p := ⟨bv, offv + k, none⟩) hbv).trans (hcv k hlt)
   have hco := ho.cell k (by rw [hM.out.len]; omega)
   have hfo := ho.frozen k
   have Hstep := Lib.hid (hM.out.step hv Hq.out hlt)
   have hss := sc_step (dv.getD k 0) q c (hv.getD b64_pos k) Hq.out hM.out.car
   have Hx : Hid (dv.getD k 0 < b64) := hv.getD b64_pos k
   obtain ⟨x, hx⟩ : ∃ x, x = dv.getD k 0 := ⟨_, rfl⟩
   rw [← hx] at hca Hx hss
   have HX := Lib.hid hx
   clear hx
   have hb1 := hss.2
   unfold b64 at hb1
   clear hss
   have hadd := run_Add64_0
   go_wp2_with fail
   refine (mul64_any x q _ Hx.out Hq.out).mono ?_
   rintro e w' ⟨rfl, rfl⟩
   go_wp2_with fail
   refine ⟨⟨k + 1, _, mulHi x q + addHi (mulLo x q) c 0, by omega, by go_num, by go_num, ho.store _ _, ?_, hbel.setCell (p := ⟨w.heap.size, k, none⟩) (Nat.le_refl _) _⟩, meas_up hlt⟩
   rw [HX.out]
   exact Hstep.out
  ·
   obtain rfl : k = dv.length := by omega
   clear hlt hkl
   have hco := ho.cell dv.length (by rw [hM.out.len]; omega)
   have hfo := ho.frozen dv.length
   have hdn := hM.out.done
   have hol : (o.set dv.length c).length = dv.length + 1 := by simp [hM.out.len]
   have ho2 := ho.store dv.length c
   have hbel2 := hbel.setCell (p := ⟨w.heap.size, dv.length, none⟩) (Nat.le_refl _) (.int .u64 c)
   have Ho2 := Lib.hid ho2
   have Hbel2 := Lib.hid hbel2
   have Hdn := Lib.hid hdn
   have Hol := Lib.hid hol
   clear ho2 hbel2 hdn hol ho hbel hM
   go_wp2_with fail
   generalize wr.setCell ⟨w.heap.size, dv.length, none⟩ (.int .u64 (c : Nat)) = W at *
   have hB := Hbel2.out
   have hoU : Own W bu .u64 103 (pre ++ u ++ post) := Hown.out.below hB hbul
   have hoP := Ho2.out
   generalize o.set dv.length c = p at *
   have hrU := mid_row hoU capu Hcap.out Hcap2.out (by rw [Hlen.out]; omega)
   rw [Hlen.out] at hrU
   have hrP := hoP.isRow (by unfold maxLen; rw [Hol.out]; omega)
   rw [Hol.out] at hrP
   clear hco hfo Ho2 Hbel2
   refine (cut_any u _ _ hrU hu).mono ?_
   rintro e w' ⟨vU, rfl, hvU, rfl⟩
   go_wp2_with fail
   refine (cut_any p _ _ hrP Hdn.out.2).mono ?_
   rintro e w' ⟨vP, rfl, hvP, rfl⟩
   go_wp2_with fail
   refine (cmp_any _ _ _ _ _ hvU hvP).mono ?_
   rintro e w' ⟨rfl, nq, rfl⟩
   rw [Hdn.out.1]
   by_cases hle : lv b64 dv * q ≤ lv b64 u
   ·
    have Hle := Lib.hid hle
    have hcm : ¬ cmpN (lv b64 u) (lv b64 dv * q) < 0 := by unfold cmpN; split <;> (try split) <;> omega
    have hok : tkOk (lv b64 dv * q) (lv b64 u) = true := by simp [tkOk, hle]
    have hval : tkVal (lv b64 dv * q) (lv b64 u) = lv b64 u - lv b64 dv * q := by simp [tkVal, hle]
    have Hok := Lib.hid hok
    have Hval := Lib.hid hval
    generalize cmpN (lv b64 u) (lv b64 dv * q) = cm at *
    clear hle hok hval hvU hvP hrU hrP
    have HB := Lib.hid hB
    clear hB
    go_wp2_with fail
    go_loopw [14, 59] (fun bv' kv wr => ∃ (k : Nat) (x : List Nat) (b : Nat), k ≤ dv.length + 1 ∧ kv = .int .i64 k ∧ bv' = .int .u64 b ∧ Own wr bu .u64 103 (pre ++ (x ++ u.drop k) ++ post) ∧
      Own wr w.heap.size .u64 103 p ∧ Hid (DfIn u p k x b) ∧ w.grownBy wr (some bu))
     (fun _ kv _ => dv.length + 1 - (intOf kv).toNat)
    case atStart => exact ⟨0, [], 0, Nat.zero_le _, rfl, rfl, by simpa using hoU.drewN nq, hoP.drewN nq, DfIn.start u p, grownBy_dn (grownBy_below HB.out _) _⟩
    case round =>
     clear hoU hoP HB
     obtain ⟨k, x, b, hkl, rfl, rfl, hoU, hoP, hD, hgr⟩ := hrel
     by_cases hlt : k < dv.length + 1
     ·
      have hku : k < u.length := by rw [Hlen.out]; exact hlt
      have hlen1 : pre.length + k < (pre ++ (x ++ u.drop k) ++ post).length := by simp [hD.out.len]; omega
      have hcu := hoU.cell (pre.length + k) hlen1
      rw [getD_mid pre x u k post hD.out.len hku] at hcu
      have hfu := hoU.frozen (pre.length + k)
      have hcp := hoP.cell k (by rw [Hol.out]; exact hlt)
      have Hstep := Lib.hid (hD.out.step hu Hdn.out.2 (by rw [Hlen.out, Hol.out]) hku)
      have hbor := hD.out.bor
      obtain ⟨y, hy⟩ : ∃ y, y = u.getD k 0 := ⟨_, rfl⟩
      obtain ⟨z, hz⟩ : ∃ z, z = p.getD k 0 := ⟨_, rfl⟩
      rw [← hy] at hcu
      rw [← hz] at hcp
      have HY := Lib.hid hy
      have HZ := Lib.hid hz
      clear hy hz hlen1 hku
      have hsub := fun (W : World) => run_Sub64 y z b hbor W
      go_wp2_with fail
      go_region
      go_wp2_with fail
      refine ⟨⟨k + 1, x ++ [subLo y z b], subHi y z b, by omega, by go_num, by go_num, ?_, ?_, ?_, grownBy_dr (grownBy_set hgr _ _)⟩, meas_up hlt⟩
      ·
       have := (hoU.store (pre.length + k) (subLo y z b)).drew
       rw [set_mid pre x u k post hD.out.len (by rw [Hlen.out]; exact hlt)] at this
       exact this
      ·
       exact (hoP.other (a := ⟨bu, pre.length + k, none⟩) (by show bu ≠ w.heap.size; omega) _).drew
      ·
       rw [HY.out, HZ.out]; exact Hstep.out
     ·
      obtain rfl : k = dv.length + 1 := by omega
      go_wp2_with fail
      go_ret
      have hd := hD.out
      rw [← Hlen.out] at hd
      have hfin := hd.done (by rw [Hlen.out, Hol.out]) (by rw [Hdn.out.1]; exact Hle.out)
      rw [Hdn.out.1] at hfin
      refine ⟨x, by rw [Hok.out]; rfl, by rw [hd.len, Hlen.out], hd.dgs, by rw [Hval.out]; exact hfin, ?_, hgr⟩
      rw [List.drop_of_length_le (by rw [Hlen.out]; exact Nat.le_refl _), List.append_nil] at hoU
      exact hoU
   ·
    have hcm : cmpN (lv b64 u) (lv b64 dv * q) < 0 := by
     have : lv b64 u < lv b64 dv * q := by omega
     unfold cmpN; rw [if_pos this]; omega
    have hok : tkOk (lv b64 dv * q) (lv b64 u) = false := by simp [tkOk]; omega
    have hval : tkVal (lv b64 dv * q) (lv b64 u) = lv b64 u := by simp [tkVal, hle]
    have Hok := Lib.hid hok
    have Hval := Lib.hid hval
    generalize cmpN (lv b64 u) (lv b64 dv * q) = cm at *
    clear hle hok hval hvU hvP hrU hrP
    have HB := Lib.hid hB
    clear hB
    go_wp2_with fail
    go_ret
    exact ⟨u, by rw [Hok.out]; rfl, Hlen.out, hu, by rw [Hval.out], hoU.drewN nq, grownBy_dn (grownBy_below HB.out _) _⟩

end Go.Proofs.YtofijjomfhmbjaaGreat

namespace Go.Proofs.YtofijjomfhmbjaaGreat
open Go.RowKit

structure DigNums (u v : List Nat) (un u1 u2 v1 v2 : Nat) : Prop where
 lo : ∃ c, lv b64 u = ((un * b64 + u1) * b64 + u2) * b64 ^ (v.length - 2) + c ∧ c < b64 ^ (v.length - 2)
 hi : ∃ d, lv b64 v = (v1 * b64 + v2) * b64 ^ (v.length - 2) + d

theorem lv_top (ds : List Nat) (k : Nat) (hk : k < ds.length) : lv b64 (ds.take (k + 1)) = ds.getD k 0 * b64 ^ k + lv b64 (ds.take k) := by
 rw [lv_take_succ b64 ds k hk, Nat.mul_comm (b64 ^ k), Nat.add_comm]

theorem digNums (u v : List Nat) (hv2 : 2 ≤ v.length) (hlen : u.length = v.length + 1) (hu : Dgs b64 u) :
  DigNums u v (u.getD v.length 0) (u.getD (v.length - 1) 0) (u.getD (v.length - 2) 0) (v.getD (v.length - 1) 0) (v.getD (v.length - 2) 0) := by
 obtain ⟨n, hn⟩ : ∃ n, v.length = n + 2 := ⟨v.length - 2, by omega⟩
 have e1 : v.length - 1 = n + 1 := by omega
 have e2 : v.length - 2 = n := by omega
 constructor
 ·
  refine ⟨lv b64 (u.take n), ?_, ?_⟩
  ·
   have hful : lv b64 u = lv b64 (u.take (n + 2 + 1)) := by rw [List.take_of_length_le (by omega)]
   rw [e1, e2, hn, hful, lv_top u (n + 2) (by omega), lv_top u (n + 1) (by omega), lv_top u n (by omega)]
   rw [Nat.add_mul, Nat.add_mul, Nat.add_mul, Nat.pow_succ, Nat.pow_succ]
   have f1 : u.getD (n + 2) 0 * (b64 ^ n * b64 * b64) = u.getD (n + 2) 0 * b64 * b64 * b64 ^ n := by ac_rfl
   have f2 : u.getD (n + 1) 0 * (b64 ^ n * b64) = u.getD (n + 1) 0 * b64 * b64 ^ n := by ac_rfl
   rw [f1, f2]
   omega
  ·
   have := lv_lt (hu.take n)
   have e : (u.take n).length = n := by simp; omega
   rw [e] at this
   rw [e2]; exact this
 ·
  refine ⟨lv b64 (v.take n), ?_⟩
  have hful : lv b64 v = lv b64 (v.take (n + 1 + 1)) := by rw [List.take_of_length_le (by omega)]
  rw [e1, e2, hful, lv_top v (n + 1) (by omega), lv_top v n (by omega)]
  rw [Nat.add_mul, Nat.pow_succ]
  have f2 : v.getD (n + 1) 0 * (b64 ^ n * b64) = v.getD (n + 1) 0 * b64 * b64 ^ n := by ac_rfl
  rw [f2]
  omega

theorem quo_top {U V a b P c d Q : Nat} (hU : U = a * P + c) (hc : c < P) (hV : V = b * P + d) (hQ : Q * V ≤ U) : Q * b ≤ a := by
 have h1 : Q * b * P ≤ Q * V := by rw [hV, Nat.mul_add, Nat.mul_assoc]; omega
 have h2 : Q * b * P < (a + 1) * P := by rw [Nat.add_mul, Nat.one_mul]; omega
 have := Nat.lt_of_mul_lt_mul_right h2
 omega

theorem DigNums.three {u v : List Nat} {un u1 u2 v1 v2 Q : Nat} (h : DigNums u v un u1 u2 v1 v2) (hQ : Q * lv b64 v ≤ lv b64 u) : Q * (v1 * b64 + v2) ≤ (un * b64 + u1) * b64 + u2 := by
 obtain ⟨c, e1, hc⟩ := h.lo
 obtain ⟨d, e2⟩ := h.hi
 exact quo_top e1 hc e2 hQ

theorem DigNums.two {u v : List Nat} {un u1 u2 v1 v2 Q : Nat} (h : DigNums u v un u1 u2 v1 v2) (hu2 : u2 < b64) (hQ : Q * lv b64 v ≤ lv b64 u) : Q * v1 ≤ un * b64 + u1 :=
 quo_top (U := (un * b64 + u1) * b64 + u2) (V := v1 * b64 + v2) rfl hu2 rfl (h.three hQ)

structure Gs (un u1 v1 Q x r : Nat) : Prop where
 eq : x * v1 + r = un * b64 + u1
 le : Q ≤ x
 lt : x < b64

theorem Gs.first {un u1 v1 Q : Nat} (hv : un < v1) (hu1 : u1 < b64) (hQ : Q * v1 ≤ un * b64 + u1) : Gs un u1 v1 Q (divQ un u1 v1) (divR un u1 v1) := by
 have hp : 0 < v1 := by omega
 refine ⟨by unfold divQ divR; rw [Nat.mul_comm]; exact Nat.div_add_mod _ _, ?_, divQ_lt _ _ _ hp hu1 hv⟩
 unfold divQ
 rw [Nat.le_div_iff_mul_le hp]
 exact hQ

theorem Gs.less {un u1 u2 v1 v2 Q x r : Nat} (h : Gs un u1 v1 Q x r) (hQ : Q * (v1 * b64 + v2) ≤ (un * b64 + u1) * b64 + u2) (ht : r * b64 + u2 < x * v2) : 1 ≤ x ∧ Gs un u1 v1 Q (x - 1) (r + v1) := by
 have hlt : Q < x := by
  rcases Nat.lt_or_ge Q x with h' | h'
  ·
   exact h'
  ·
   have h1 : x * (v1 * b64 + v2) ≤ Q * (v1 * b64 + v2) := Nat.mul_le_mul_right _ h'
   have h2 : x * (v1 * b64 + v2) = x * v1 * b64 + x * v2 := by rw [Nat.mul_add, Nat.mul_assoc]
   have h3 : (un * b64 + u1) * b64 = x * v1 * b64 + r * b64 := by rw [← h.eq, Nat.add_mul]
   omega
 have h1 : 1 ≤ x := by omega
 refine ⟨h1, ?_, by omega, by have := h.lt; omega⟩
 obtain ⟨y, rfl⟩ : ∃ y, x = y + 1 := ⟨x - 1, by omega⟩
 have := h.eq
 rw [Nat.add_mul, Nat.one_mul] at this
 simp only [Nat.add_sub_cancel]
 omega

theorem mul_gt {x y hi lo r u2 : Nat} (hhi : hi = mulHi x y) (hlo : lo = mulLo x y) (h : r < hi ∨ hi = r ∧ u2 < lo) (hu2 : u2 < b64) : r * b64 + u2 < x * y := by
 have e := mul_eq x y
 rw [← hhi, ← hlo] at e
 rcases h with h | ⟨h1, h2⟩
 ·
  have : (r + 1) * b64 ≤ hi * b64 := Nat.mul_le_mul_right _ h
  rw [Nat.add_mul, Nat.one_mul, Nat.mul_comm hi] at this
  omega
 ·
  subst h1
  have : b64 * hi = hi * b64 := Nat.mul_comm _ _
  omega

set_option maxRecDepth 100000 in
set_option maxHeartbeats 4000000 in
theorem digit_any (pre u post dv : List Nat) (bu capu bv offv capv : Nat) (w : World) (hown : Own w bu .u64 103 (pre ++ u ++ post))
  (hlen : u.length = dv.length + 1) (hu : Dgs b64 u) (hv : Dgs b64 dv) (h2 : 2 ≤ dv.length) (hpos : 0 < lv b64 dv) (hQ : lv b64 u / lv b64 dv < b64) (hcap : u.length ≤ capu) (hcap2 : capu ≤ maxLen) (hne : bv ≠ bu) (hbv : bv < w.heap.size)
  (hcv : ∀ j, j < dv.length → w.cell? ⟨bv, offv + j, none⟩ = some (.int .u64 (dv.getD j 0 : Nat))) (hsz : dv.length ≤ 1099511627776) (hsz2 : pre.length ≤ 1099511627776) :
  Calls Tryz.prog 111 #[.slice (some ⟨bu, pre.length, none⟩) (dv.length + 1) capu, .slice (some ⟨bv, offv, none⟩) dv.length capv] w
   (RetMid w bu 103 pre (lv b64 u % lv b64 dv) (dv.length + 1) post (.int .u64 (lv b64 u / lv b64 dv : Nat))) := by
 have hbul := hown.lt
 have hrd : ∀ j, j < u.length → w.cell? ⟨bu, pre.length + j, none⟩ = some (.int .u64 (u.getD j 0 : Nat)) := fun j hj => by
  rw [hown.cell (pre.length + j) (by simp; omega)]
  congr 2
  have : (pre ++ u ++ post).getD (pre.length + j) 0 = u.getD j 0 := by
   simp [List.getElem?_append_right, List.getElem?_append_left, hj]
  rw [this]
 have hn := digNums u dv h2 hlen hu
 have c0 := hrd dv.length (by omega)
 have c1 := hrd (dv.length - 1) (by omega)
 have c2 := hrd (dv.length - 2) (by omega)
 have d1 := hcv (dv.length - 1) (by omega)
 have d2 := hcv (dv.length - 2) (by omega)
 have l0 := hu.getD b64_pos dv.length
 have l1 := hu.getD b64_pos (dv.length - 1)
 have l2 := hu.getD b64_pos (dv.length - 2)
 have k1 := hv.getD b64_pos (dv.length - 1)
 have k2 := hv.getD b64_pos (dv.length - 2)
 generalize u.getD dv.length 0 = un at *
 generalize u.getD (dv.length - 1) 0 = u1 at *
 generalize u.getD (dv.length - 2) 0 = u2 at *
 generalize dv.getD (dv.length - 1) 0 = v1 at *
 generalize dv.getD (dv.length - 2) 0 = v2 at *
 have hQm : lv b64 u / lv b64 dv * lv b64 dv ≤ lv b64 u := Nat.div_mul_le_self _ _
 obtain ⟨Q, hQe⟩ : ∃ Q, Q = lv b64 u / lv b64 dv := ⟨_, rfl⟩
 rw [← hQe] at hQ hQm
 have H3 := Lib.hid (hn.three hQm)
 have H2 := Lib.hid (hn.two l2 hQm)
 have HQe := Lib.hid hQe
 have HQ := Lib.hid hQ
 have Hcap := Lib.hid hcap
 have Hcap2 := Lib.hid hcap2
 have Hown := Lib.hid hown
 have Hlen := Lib.hid hlen
 have L0 := Lib.hid l0
 have L1 := Lib.hid l1
 have L2 := Lib.hid l2
 have K1 := Lib.hid k1
 have K2 := Lib.hid k2
 have Hcv := Lib.hid hcv
 clear hcap hcap2 hown hrd hn hQm hQe hQ l0 l1 l2 k1 k2 hcv hlen
 rw [← HQe.out]
 have i1 : (dv.length : Int) - 1 < dv.length := by omega
 have i2 : (0 : Int) ≤ (dv.length : Int) - 2 := by omega
 go_enter Tryz.func111, Tryz.ntmps111
 go_upto_region 3 with (fail)
 go_quiet (fail)
 go_upto_if 22 with (fail)
 go_cut [6] (fun g wx => ∃ x : Nat, g = .int .u64 x ∧ Hid (Q ≤ x) ∧ Hid (x < b64) ∧ Quiet w wx)
 case first =>
  by_cases t : un < v1
  ·
   have t' : decide (un < v1) = true := by simpa using t
   have T := Lib.hid t
   clear t
   rw [t']
   clear t'
   go_upto_region 5 with (fail)
   go_quiet ((go_at_call 74; exact quiet_at (div64_named un u1 v1 _ K1.out L1.out T.out)))
   go_upto_block 0 with (fail)
   go_wp2_with fail
   go_loopw [6, 7] (fun xv rv wr => ∃ x r : Nat, xv = .int .u64 x ∧ rv = .int .u64 r ∧ Hid (r < b64) ∧ Hid (Gs un u1 v1 Q x r) ∧ Quiet w wr) (fun xv _ _ => (intOf xv).toNat)
   case atStart => exact ⟨_, _, rfl, rfl, by show divR un u1 v1 < b64; exact Nat.lt_trans (Nat.mod_lt _ (by have := T.out; omega)) K1.out, Gs.first T.out L1.out H2.out, Quiet.step ⟨_, rfl⟩ _⟩
   case round =>
    obtain ⟨x, r, rfl, rfl, hr, hG, nw, rfl⟩ := hrel
    have hadd := run_Add64_0
    go_wp2_with fail
    refine (mul64_any x v2 _ hG.out.lt K2.out).mono ?_
    rintro e w' ⟨rfl, rfl⟩
    by_cases q1 : mulHi x v2 < r
    ·
     have q1' : decide (mulHi x v2 < r) = true := by simpa using q1
     go_wp2_with fail
     go_meet
     case rel => exact ⟨x, rfl, hG.out.le, hG.out.lt, _, rfl⟩
    ·
     have q1' : decide (mulHi x v2 < r) = false := by simpa using q1
     by_cases q2 : mulHi x v2 = r ∧ mulLo x v2 ≤ u2
     ·
      obtain ⟨q2, q3⟩ := q2
      have q2' : ((mulHi x v2 : Nat) : Int) = (r : Int) := by omega
      have q3' : decide (mulLo x v2 ≤ u2) = true := by simpa using q3
      have Q2 := Lib.hid q2
      have q4 : (((mulHi x v2 : Nat) : Int) == (r : Int)) = true := by simp [q2]
      clear q2 q2'
      go_wp2_with fail
      go_meet
      case rel => exact ⟨x, rfl, hG.out.le, hG.out.lt, _, rfl⟩
     ·
      have hgt : r * b64 + u2 < x * v2 := mul_gt rfl rfl (by omega) L2.out
      have hl := hG.out.less H3.out hgt
      have hl1 := hl.1
      have HL := Lib.hid hl.2
      clear hgt hl
      have hxb : (x : Int) ≤ 18446744073709551615 := by have := hG.out.lt; unfold b64 at this; omega
      by_cases e : mulHi x v2 = r
      ·
       have q4 : (((mulHi x v2 : Nat) : Int) == (r : Int)) = true := by simp [e]
       have q3' : decide (mulLo x v2 ≤ u2) = false := by simp; omega
       clear e q1 q2
       by_cases ho : 0 < addHi r v1 0
       ·
        have ho' : decide (0 < addHi r v1 0) = true := by simpa using ho
        clear ho
        go_wp2_with fail
        go_meet
        case rel => exact ⟨x - 1, by go_num, HL.out.le, HL.out.lt, _, rfl⟩
       ·
        have ho' : decide (0 < addHi r v1 0) = false := by simpa using ho
        have Hsum : Hid (addLo r v1 0 = r + v1) := by
         have := add_eq r v1 0
         have h0 : addHi r v1 0 = 0 := by omega
         rw [h0] at this
         show addLo r v1 0 = r + v1
         omega
        clear ho
        go_wp2_with fail
        refine ⟨⟨x - 1, addLo r v1 0, by go_num, rfl, addLo_lt _ _ _, ?_, _, rfl⟩, by simp [intOf]; omega⟩
        rw [Hsum.out]; exact HL.out
      ·
       have q4 : (((mulHi x v2 : Nat) : Int) == (r : Int)) = false := by simp; omega
       clear e q1 q2
       by_cases ho : 0 < addHi r v1 0
       ·
        have ho' : decide (0 < addHi r v1 0) = true := by simpa using ho
        clear ho
        go_wp2_with fail
        go_meet
        case rel => exact ⟨x - 1, by go_num, HL.out.le, HL.out.lt, _, rfl⟩
       ·
        have ho' : decide (0 < addHi r v1 0) = false := by simpa using ho
        have Hsum : Hid (addLo r v1 0 = r + v1) := by
         have := add_eq r v1 0
         have h0 : addHi r v1 0 = 0 := by omega
         rw [h0] at this
         show addLo r v1 0 = r + v1
         omega
        clear ho
        go_wp2_with fail
        refine ⟨⟨x - 1, addLo r v1 0, by go_num, rfl, addLo_lt _ _ _, ?_, _, rfl⟩, by simp [intOf]; omega⟩
        rw [Hsum.out]; exact HL.out
  ·
   have t' : decide (un < v1) = false := by simpa using t
   go_wp2_with fail
   go_meet
   case rel => exact ⟨18446744073709551615, rfl, by have := HQ.out; show _ ≤ _; unfold b64 at this; omega, by show _ < _; unfold b64; omega, _, rfl⟩
 case rest =>
  obtain ⟨x, rfl, hx1, hx2, nw, rfl⟩ := hcut
  go_wp2_with fail
  go_loopw [6] (fun xv wr => ∃ (x : Nat) (u' : List Nat), xv = .int .u64 x ∧ Hid (Q ≤ x) ∧ Hid (x < b64) ∧ Hid (u'.length = dv.length + 1) ∧ Dgs b64 u' ∧ Hid (lv b64 u' = lv b64 u) ∧ Own wr bu .u64 103 (pre ++ u' ++ post) ∧ w.grownBy wr (some bu)) (fun xv _ => (intOf xv).toNat)
  case atStart => exact ⟨x, u, rfl, hx1, hx2, Hlen.out, hu, rfl, Hown.out.drewN nw, grownBy_dn (World.grownBy.refl _ _) nw⟩
  case round =>
   clear hx1 hx2
   obtain ⟨x, u', rfl, hx1, hx2, hlu, hdu, hvu, hoU, hgr⟩ := hrel
   have hcvw : ∀ j, j < dv.length → wr.cell? ⟨bv, offv + j, none⟩ = some (.int .u64 (dv.getD j 0 : Nat)) := fun j hj => hgr.cell (Hcv.out j hj) (by simpa using hne)
   have hbvw : bv < wr.heap.size := Nat.lt_of_lt_of_le hbv hgr.size
   have ht := take_any pre u' post dv bu capu bv offv capv x wr hoU hlu.out hdu hv hx2.out (by rw [hlu.out, ← Hlen.out]; exact Hcap.out) Hcap2.out hne hbvw hcvw hsz hsz2
   have Ht := Lib.hid ht
   clear ht hcvw hbvw
   have hdiv := Nat.div_add_mod (lv b64 u) (lv b64 dv)
   rw [← HQe.out] at hdiv
   have Hdiv := Lib.hid hdiv
   clear hdiv
   by_cases hle : lv b64 dv * x ≤ lv b64 u'
   ·
    have hok : tkOk (lv b64 dv * x) (lv b64 u') = true := by simp [tkOk, hle]
    have hval : tkVal (lv b64 dv * x) (lv b64 u') = lv b64 u' - lv b64 dv * x := by simp [tkVal, hle]
    rw [hok, hval] at Ht
    have Hxq : Hid (x = Q) := by
     show x = Q
     refine Nat.le_antisymm ?_ hx1.out
     rw [HQe.out, Nat.le_div_iff_mul_le hpos, Nat.mul_comm, ← hvu.out]
     exact hle
    clear hle hok hval
    go_wp2_with fail
    refine Ht.out.mono ?_
    rintro e w' ⟨u2', rfl, hl2, hd2, hv2', ho2, hg2⟩
    go_wp2_with fail
    go_ret
    refine ⟨u2', by rw [Hxq.out]; rfl, hl2, hd2, ?_, ho2, grownBy_trans hgr hg2⟩
    rw [hv2', hvu.out, Hxq.out]
    have := Hdiv.out
    omega
   ·
    have hok : tkOk (lv b64 dv * x) (lv b64 u') = false := by simp [tkOk]; omega
    have hval : tkVal (lv b64 dv * x) (lv b64 u') = lv b64 u' := by simp [tkVal, hle]
    rw [hok, hval] at Ht
    have hxq : Q + 1 ≤ x := by
     rcases Nat.lt_or_ge Q x with h | h
     ·
      exact h
     ·
      have : lv b64 dv * x ≤ lv b64 dv * Q := Nat.mul_le_mul_left _ h
      have h2 := Hdiv.out
      rw [← hvu.out] at h2
      omega
    have hx0 : 1 ≤ x := by omega
    have Hxq := Lib.hid hxq
    clear hle hok hval hxq
    have hxb : (x : Int) ≤ 18446744073709551615 := by have := hx2.out; unfold b64 at this; omega
    go_wp2_with fail
    refine Ht.out.mono ?_
    rintro e w' ⟨u2', rfl, hl2, hd2, hv2', ho2, hg2⟩
    have Hl2 := Lib.hid hl2
    have Hv2 := Lib.hid hv2'
    clear hl2 hv2'
    go_wp2_with fail
    refine ⟨⟨x - 1, u2', by go_num, by show Q ≤ x - 1; have := Hxq.out; omega, by show x - 1 < b64; have := hx2.out; omega, Hl2.out, hd2, by show lv b64 u2' = lv b64 u; rw [Hv2.out, hvu.out], ho2, grownBy_trans hgr hg2⟩, by simp [intOf]; omega⟩

end Go.Proofs.YtofijjomfhmbjaaGreat

namespace Go.Proofs.YtofijjomfhmbjaaGreat
open Go.RowKit

def shlLo (x s : Nat) : Nat := x * 2 ^ s % b64
def shlHi (x s : Nat) : Nat := x / 2 ^ (64 - s)

theorem b64_split (s : Nat) (hs : s ≤ 64) : b64 = 2 ^ s * 2 ^ (64 - s) := by rw [b64_pow, ← Nat.pow_add]; congr 1; omega

theorem shl_eq (x s : Nat) (hs : s ≤ 64) : shlLo x s + b64 * shlHi x s = x * 2 ^ s := by
 have e := b64_split s hs
 have h := Nat.mod_add_div (x * 2 ^ s) b64
 have : x * 2 ^ s / b64 = shlHi x s := by
  unfold shlHi
  rw [e, Nat.mul_comm x, Nat.mul_div_mul_left _ _ (Nat.two_pow_pos s)]
 rw [this] at h
 exact h
theorem shlHi_lt (x s : Nat) (hs : s ≤ 64) (hx : x < b64) : shlHi x s < 2 ^ s := by
 unfold shlHi
 rw [Nat.div_lt_iff_lt_mul (Nat.two_pow_pos _), ← b64_split s hs]; exact hx
theorem shlLo_lt (x s : Nat) : shlLo x s < b64 := Nat.mod_lt _ b64_pos
theorem shlLo_or (z x s : Nat) (hs : s ≤ 64) (hz : z < 2 ^ s) : z ||| shlLo x s = z + shlLo x s ∧ z + shlLo x s < b64 := by
 have e := b64_split s hs
 have h1 : shlLo x s = (x % 2 ^ (64 - s)) * 2 ^ s := by
  unfold shlLo
  rw [e, Nat.mul_comm (2 ^ s), Nat.mul_mod_mul_right]
 have h2 : x % 2 ^ (64 - s) < 2 ^ (64 - s) := Nat.mod_lt _ (Nat.two_pow_pos _)
 have h3 : (x % 2 ^ (64 - s) + 1) * 2 ^ s ≤ 2 ^ (64 - s) * 2 ^ s := Nat.mul_le_mul_right _ h2
 rw [Nat.add_mul, Nat.one_mul] at h3
 have h4 : shlLo x s + 2 ^ s ≤ b64 := by rw [h1, e, Nat.mul_comm (2 ^ s) (2 ^ (64 - s))]; omega
 have h5 : z ||| shlLo x s = z + shlLo x s := by rw [h1, Nat.or_comm, or_disjoint _ _ _ hz, Nat.add_comm]
 exact ⟨h5, by omega⟩

structure ShlIn (a : List Nat) (q s i : Nat) (o : List Nat) : Prop where
 len : o.length = a.length + q + 1
 dgs : Dgs b64 o
 val : lv b64 o = lv b64 (a.take i) * 2 ^ s * b64 ^ q
 nxt : o.getD (i + q) 0 < 2 ^ s
 top : ∀ j, i + q < j → o.getD j 0 = 0

theorem ShlIn.start (a : List Nat) (q s : Nat) : ShlIn a q s 0 (List.replicate (a.length + q + 1) 0) :=
 ⟨by simp, Dgs.replicate b64_pos _, by simp [lv_replicate, lv], by simp [List.getElem?_replicate]; split <;> simp [Nat.two_pow_pos], fun j _ => by simp [List.getElem?_replicate]; split <;> rfl⟩

theorem ShlIn.step {a : List Nat} {q s i : Nat} {o : List Nat} (h : ShlIn a q s i o) (ha : Dgs b64 a) (hs : s ≤ 63) (hi : i < a.length) :
  ShlIn a q s (i + 1) ((o.set (i + q) (o.getD (i + q) 0 + shlLo (a.getD i 0) s)).set (i + q + 1) (shlHi (a.getD i 0) s)) := by
 have hx := ha.getD b64_pos i
 have h1 := shlLo_or (o.getD (i + q) 0) (a.getD i 0) s (by omega) h.nxt
 have h2 := shl_eq (a.getD i 0) s (by omega)
 have h3 := shlHi_lt (a.getD i 0) s (by omega) hx
 have hp : 2 ^ s < b64 := by rw [b64_pow]; exact Nat.pow_lt_pow_right (by omega) (by omega)
 have hl1 : i + q < o.length := by rw [h.len]; omega
 have hl2 : i + q + 1 < (o.set (i + q) (o.getD (i + q) 0 + shlLo (a.getD i 0) s)).length := by simp [h.len]; omega
 refine ⟨by simpa using h.len, (h.dgs.set _ _ h1.2).set _ _ (by omega), ?_, ?_, fun j hj => ?_⟩
 ·
  have e1 := lv_set b64 o (i + q) (o.getD (i + q) 0 + shlLo (a.getD i 0) s) hl1
  have e2 := lv_set b64 (o.set (i + q) (o.getD (i + q) 0 + shlLo (a.getD i 0) s)) (i + q + 1) (shlHi (a.getD i 0) s) hl2
  have e3 : (o.set (i + q) (o.getD (i + q) 0 + shlLo (a.getD i 0) s)).getD (i + q + 1) 0 = 0 := by
   have := h.top (i + q + 1) (by omega)
   rw [List.getD_eq_getElem?_getD] at *
   rw [List.getElem?_set_ne (by omega)]
   exact this
  rw [e3, Nat.mul_zero, Nat.add_zero] at e2
  rw [e2, lv_take_succ b64 a i hi, Nat.add_mul, Nat.add_mul, ← h.val]
  have e4 : b64 ^ (i + q + 1) * shlHi (a.getD i 0) s = b64 ^ (i + q) * (b64 * shlHi (a.getD i 0) s) := by rw [Nat.pow_succ]; ac_rfl
  have e5 : b64 ^ i * a.getD i 0 * 2 ^ s * b64 ^ q = b64 ^ (i + q) * (a.getD i 0 * 2 ^ s) := by rw [Nat.pow_add]; ac_rfl
  have e6 : b64 ^ (i + q) * (shlLo (a.getD i 0) s + b64 * shlHi (a.getD i 0) s) = b64 ^ (i + q) * (a.getD i 0 * 2 ^ s) := by rw [h2]
  rw [e4, e5]
  simp only [Nat.mul_add] at e1 e6
  omega
 ·
  have e : i + 1 + q = i + q + 1 := by omega
  rw [e, List.getD_eq_getElem?_getD, List.getElem?_set_self hl2]
  exact h3
 ·
  have := h.top j (by omega)
  rw [List.getD_eq_getElem?_getD] at *
  rw [List.getElem?_set_ne (by omega), List.getElem?_set_ne (by omega)]
  exact this

theorem ShlIn.done {a : List Nat} {q s : Nat} {o : List Nat} (h : ShlIn a q s a.length o) (k : Nat) (hq : k = 64 * q + s) : lv b64 o = lv b64 a * 2 ^ k := by
 rw [h.val, List.take_length, hq, Nat.pow_add, Nat.pow_mul, ← b64_pow, Nat.mul_assoc, Nat.mul_comm (2 ^ s)]

set_option maxRecDepth 100000 in
set_option maxHeartbeats 1000000 in
theorem left_any (m k : Nat) (va : Value) (w : World) (ha : IsNat .u64 b64 w va m) (hsz : (dig b64 m).length ≤ 549755813888) (hk : k ≤ 549755813888) :
  Calls Tryz.prog 110 #[va, .int .i64 k] w (RetNat .u64 b64 (m * 2 ^ k) w) := by
 by_cases hz : (dig b64 m).length = 0 ∨ k = 0
 ·
  have Hr : Hid (m * 2 ^ k = m) := by
   show m * 2 ^ k = m
   rcases hz with h | h
   ·
    have := (dig_nil_iff b64_two m).1 (List.eq_nil_of_length_eq_zero h)
    rw [this]; simp
   ·
    rw [h]; simp
  obtain ⟨aa, ca, rfl, _⟩ := IsRow.opened ha
  generalize dig b64 m = da at *
  by_cases h0 : da.length = 0
  ·
   have c1 : ((da.length : Int) == 0) = true := by simp [h0]
   clear h0 hz
   go_enter Tryz.func110, Tryz.ntmps110
   go_wp2_with fail
   go_ret
   exact ⟨_, rfl, by rw [Hr.out]; exact ha, Below.refl _ _⟩
  ·
   have c1 : ((da.length : Int) == 0) = false := by simp; intro h; simp [h] at h0
   have c2 : ((k : Int) == 0) = true := by simp; omega
   clear h0 hz
   go_enter Tryz.func110, Tryz.ntmps110
   go_wp2_with fail
   go_ret
   exact ⟨_, rfl, by rw [Hr.out]; exact ha, Below.refl _ _⟩
 ·
  obtain ⟨aa, ca, rfl, hA⟩ := IsRow.opened ha
  have hda := dgs_dig b64_two m
  have Hva := Lib.hid (lv_dig b64_two m)
  clear ha
  generalize dig b64 m = da at *
  have c1 : ((da.length : Int) == 0) = false := by simp; intro h; simp [h] at hz
  have c2 : ((k : Int) == 0) = false := by simp; omega
  clear hz
  obtain ⟨i0, hi, hz0, hz1, hz2⟩ := info_parts info_u64
  go_enter Tryz.func110, Tryz.ntmps110
  go_wp2_with (at_make; refine wpList_make_full _ rfl _ _ 52 rfl w.heap.size 103 i0 (.int .u64 0) 1 Tryz.underlying52 hi hz0 hz1 _ _ _ _ (da.length + k / 64 + 1) rfl rfl (by omega) (by omega) (by rw [hz2]; omega) (by unfold maxLen; omega) (by omega) ?_)
  intro w1 hown hgrow
  have ho := Own.of_made hown
  have hbel := (Below.refl w.heap.size w).grown hgrow (Nat.le_refl _) (by simp)
  clear hown hgrow hi hz0 hz1 hz2
  go_wp2_with fail
  go_loopw [25] (fun c wr => ∃ (i : Nat) (o : List Nat), i ≤ da.length ∧ c = .int .i64 i ∧ Own wr w.heap.size .u64 103 o ∧ Hid (ShlIn da (k / 64) (k % 64) i o) ∧ Below w.heap.size w wr)
   (fun c _ => da.length - (intOf c).toNat)
  case atStart => exact ⟨0, _, Nat.zero_le _, rfl, ho, ShlIn.start da _ _, hbel⟩
  case round =>
   clear ho hbel
   obtain ⟨i, o, hile, rfl, ho, hM, hbel⟩ := hrel
   by_cases hlt : i < da.length
   ·
    obtain ⟨b, off, rfl, hbA, hcA⟩ := hA (by omega)
    have hca : wr.cell? ⟨b, off + i, none⟩ = some (.int .u64 (da.getD i 0 : Nat)) := (hbel.cell (p := ⟨b, off + i, none⟩) hbA).trans (hcA i hlt)
    have hstep := hM.out.step hda (by omega) hlt
    have Hlen := Lib.hid hM.out.len
    have hco := ho.cell (i + k / 64) (by rw [hM.out.len]; omega)
    have hfo := ho.frozen (i + k / 64)
    have hco2 := ho.cell (i + k / 64 + 1) (by rw [hM.out.len]; omega)
    have hfo2 := ho.frozen (i + k / 64 + 1)
    have hxl := hda.getD b64_pos i
    have hor := shlLo_or (o.getD (i + k / 64) 0) (da.getD i 0) (k % 64) (by omega) hM.out.nxt
    have hzl := hM.out.dgs.getD b64_pos (i + k / 64)
    have Hstep := Lib.hid hstep
    clear hstep
    obtain ⟨x, hx⟩ : ∃ x, x = da.getD i 0 := ⟨_, rfl⟩
    obtain ⟨z, hz⟩ : ∃ z, z = o.getD (i + k / 64) 0 := ⟨_, rfl⟩
    rw [← hx] at hca hxl hor
    rw [← hz] at hco hzl hor
    have HX := Lib.hid hx
    have HZ := Lib.hid hz
    have e1 : IntKind.u64.wrap ((x : Int) * 2 ^ (k % 64)) = (shlLo x (k % 64) : Nat) := by
     rw [IntKind.wrap_u64]; unfold shlLo b64; simp
    have e2 : bits .or .u64 (z : Int) (shlLo x (k % 64) : Nat) = ((z + shlLo x (k % 64) : Nat) : Int) := by
     rw [bits_or_nat _ _ hzl (shlLo_lt _ _), hor.1]
    have e3 : (x : Int) / 2 ^ (64 - k % 64) = (shlHi x (k % 64) : Nat) := by unfold shlHi; simp
    clear hx hz hxl hzl hor
    obtain ⟨y, hy⟩ : ∃ y, y = z + shlLo x (k % 64) := ⟨_, rfl⟩
    rw [← hy] at e2
    have HY := Lib.hid hy
    clear hy
    go_wp2_with fail
    go_region
    go_wp2_with fail
    refine ⟨⟨i + 1, _, by omega, by go_num, ((ho.store _ _).store _ _).drew, ?_, ((hbel.setCell (p := ⟨w.heap.size, i + k / 64, none⟩) (Nat.le_refl _) _).setCell (p := ⟨w.heap.size, i + k / 64 + 1, none⟩) (Nat.le_refl _) _).drew⟩, by simp [intOf]; omega⟩
    rw [HY.out, HX.out, HZ.out]
    exact Hstep.out
   ·
    obtain rfl : i = da.length := by omega
    have hlen := Lib.hid hM.out.len
    go_wp2_with fail
    have hrow := ho.isRow (by unfold maxLen; rw [hlen.out]; omega)
    rw [hlen.out] at hrow
    refine (cut_any o _ _ hrow hM.out.dgs).mono ?_
    rintro e w' ⟨v, rfl, hv, rfl⟩
    go_wp2_with fail
    go_ret
    refine ⟨v, rfl, ?_, hbel⟩
    have := hM.out.done k (by omega)
    rw [Hva.out] at this
    rw [← this]
    exact hv


def shrL (s : Nat) : List Nat → List Nat
 | [] => []
 | x :: t => (x / 2 ^ s + (t.headD 0 % 2 ^ s) * 2 ^ (64 - s)) :: shrL s t

theorem shrL_length (s : Nat) (a : List Nat) : (shrL s a).length = a.length := by
 induction a with
 | nil => rfl
 | cons x t ih => simp [shrL, ih]

theorem shrL_getD (s : Nat) (a : List Nat) (i : Nat) (hi : i < a.length) : (shrL s a).getD i 0 = a.getD i 0 / 2 ^ s + (a.getD (i + 1) 0 % 2 ^ s) * 2 ^ (64 - s) := by
 induction a generalizing i with
 | nil => simp at hi
 | cons x t ih =>
  cases i with
  | zero => cases t <;> simp [shrL]
  | succ i => simpa [shrL] using ih i (by simpa using hi)

theorem shrL_dgs (s : Nat) (hs : s ≤ 63) (a : List Nat) (ha : Dgs b64 a) : Dgs b64 (shrL s a) := by
 have e := b64_split s (by omega)
 induction a with
 | nil => exact Dgs.nil _
 | cons x t ih =>
  refine Dgs.cons ?_ (ih ha.tail)
  have hx := ha.head
  have h1 : x / 2 ^ s < 2 ^ (64 - s) := by
   rw [Nat.div_lt_iff_lt_mul (Nat.two_pow_pos _), Nat.mul_comm, ← e]; exact hx
  have h2 : t.headD 0 % 2 ^ s < 2 ^ s := Nat.mod_lt _ (Nat.two_pow_pos _)
  have h3 : (t.headD 0 % 2 ^ s + 1) * 2 ^ (64 - s) ≤ 2 ^ s * 2 ^ (64 - s) := Nat.mul_le_mul_right _ h2
  rw [Nat.add_mul, Nat.one_mul, ← e] at h3
  omega

theorem lv_mod_head (s : Nat) (hs : s ≤ 64) (t : List Nat) : lv b64 t % 2 ^ s = t.headD 0 % 2 ^ s := by
 cases t with
 | nil => rfl
 | cons y u =>
  rw [lv_cons, b64_split s hs, Nat.mul_assoc, Nat.add_mul_mod_self_left]
  rfl

theorem lv_shrL (s : Nat) (hs : s ≤ 63) (a : List Nat) : lv b64 (shrL s a) = lv b64 a / 2 ^ s := by
 induction a with
 | nil => simp [shrL, lv]
 | cons x t ih =>
  have hp : 0 < 2 ^ s := Nat.two_pow_pos s
  have e := b64_split s (by omega)
  rw [shrL, lv_cons, lv_cons, ih, ← lv_mod_head s (by omega) t]
  have h1 := Nat.div_add_mod (lv b64 t) (2 ^ s)
  generalize lv b64 t = T at *
  have h2 : x + b64 * T = x + 2 ^ s * (2 ^ (64 - s) * T) := by rw [e, Nat.mul_assoc]
  rw [h2, Nat.add_mul_div_left _ _ hp]
  have h3 : 2 ^ (64 - s) * T = 2 ^ (64 - s) * (2 ^ s * (T / 2 ^ s) + T % 2 ^ s) := by rw [h1]
  rw [h3, Nat.mul_add, ← Nat.mul_assoc, Nat.mul_comm (2 ^ (64 - s)) (2 ^ s), ← e, Nat.mul_comm (T % 2 ^ s)]
  omega

theorem shr_or (x y s : Nat) (hs : s ≤ 63) (hx : x < b64) : x / 2 ^ s ||| (y * 2 ^ (64 - s) % b64) = x / 2 ^ s + (y % 2 ^ s) * 2 ^ (64 - s) := by
 have e := b64_split s (by omega)
 have h1 : x / 2 ^ s < 2 ^ (64 - s) := by
  rw [Nat.div_lt_iff_lt_mul (Nat.two_pow_pos _), Nat.mul_comm, ← e]; exact hx
 have h2 : y * 2 ^ (64 - s) % b64 = (y % 2 ^ s) * 2 ^ (64 - s) := by rw [e, Nat.mul_mod_mul_right]
 rw [h2, Nat.or_comm, or_disjoint _ _ _ h1, Nat.add_comm]

theorem lv_drop (a : List Nat) (ha : Dgs b64 a) (q : Nat) (hq : q ≤ a.length) : lv b64 (a.drop q) = lv b64 a / 2 ^ (64 * q) := by
 have h := lv_take_drop b64 a q hq
 have h2 := lv_lt (ha.take q)
 have e : (a.take q).length = q := by simp; omega
 rw [e] at h2
 rw [Nat.pow_mul, ← b64_pow, h, Nat.add_mul_div_left _ _ (Nat.pow_pos b64_pos), Nat.div_eq_of_lt h2, Nat.zero_add]

structure ShrIn (a : List Nat) (q s i : Nat) (o : List Nat) : Prop where
 len : o.length = a.length - q
 dgs : Dgs b64 o
 val : ∀ j, j < i → o.getD j 0 = (shrL s (a.drop q)).getD j 0

theorem ShrIn.done {a : List Nat} {q s k : Nat} {o : List Nat} (h : ShrIn a q s (a.length - q) o) (ha : Dgs b64 a) (hq : q ≤ a.length) (hs : s ≤ 63) (hk : k = 64 * q + s) : lv b64 o = lv b64 a / 2 ^ k := by
 have e : o = shrL s (a.drop q) := by
  apply List.ext_getElem
  ·
   rw [h.len, shrL_length, List.length_drop]
  ·
   intro j h1 h2
   have := h.val j (by rw [h.len] at h1; exact h1)
   simpa [h1, h2] using this
 rw [e, lv_shrL s hs, lv_drop a ha q hq, Nat.div_div_eq_div_mul, ← Nat.pow_add, hk]

theorem ShrIn.step {a : List Nat} {q s i : Nat} {o : List Nat} (h : ShrIn a q s i o) (ha : Dgs b64 a) (hs : s ≤ 63) (hi : i < a.length - q) (x : Nat)
  (hx : x = a.getD (i + q) 0 / 2 ^ s + (a.getD (i + q + 1) 0 % 2 ^ s) * 2 ^ (64 - s)) : ShrIn a q s (i + 1) (o.set i x) := by
 have e : x = (shrL s (a.drop q)).getD i 0 := by
  rw [shrL_getD s _ i (by simp; omega), hx]
  simp [List.getElem?_drop, Nat.add_comm, Nat.add_left_comm]
  rw [Nat.add_assoc]
 refine ⟨by simpa using h.len, h.dgs.set _ _ ?_, fun j hj => ?_⟩
 ·
  rw [e]; exact (shrL_dgs s hs _ (ha.drop q)).getD b64_pos i
 ·
  by_cases hji : j = i
  ·
   subst hji
   rw [List.getD_eq_getElem?_getD, List.getElem?_set_self (by rw [h.len]; exact hi)]
   exact e
  ·
   have := h.val j (by omega)
   rw [← this, List.getD_eq_getElem?_getD, List.getElem?_set_ne (by omega), List.getD_eq_getElem?_getD]

end Go.Proofs.YtofijjomfhmbjaaGreat

namespace Go.Proofs.YtofijjomfhmbjaaGreat
open Go.RowKit

set_option maxRecDepth 100000 in
set_option maxHeartbeats 1000000 in
theorem right_any (m k : Nat) (va : Value) (w : World) (ha : IsNat .u64 b64 w va m) (hsz : (dig b64 m).length ≤ 549755813888) (hk : k ≤ 549755813888) :
  Calls Tryz.prog 112 #[va, .int .i64 k] w (RetNat .u64 b64 (m / 2 ^ k) w) := by
 obtain ⟨aa, ca, rfl, hA⟩ := IsRow.opened ha
 have hda := dgs_dig b64_two m
 have Hva := Lib.hid (lv_dig b64_two m)
 have Hlt := Lib.hid (lt_pow_dig_length b64_two m)
 clear ha
 generalize dig b64 m = da at *
 by_cases hz : da.length ≤ k / 64
 ·
  have Hr : Hid (m / 2 ^ k = 0) := by
   show m / 2 ^ k = 0
   apply Nat.div_eq_of_lt
   refine Nat.lt_of_lt_of_le Hlt.out ?_
   rw [b64_pow, ← Nat.pow_mul]
   exact Nat.pow_le_pow_right (by omega) (by omega)
  go_enter Tryz.func112, Tryz.ntmps112
  go_wp2_with fail
  go_ret
  exact ⟨_, rfl, by rw [Hr.out]; exact IsNat.zero _ _ _, Below.refl _ _⟩
 ·
  obtain ⟨i0, hi, hz0, hz1, hz2⟩ := info_parts info_u64
  have hq : k / 64 < da.length := by omega
  clear hz
  go_enter Tryz.func112, Tryz.ntmps112
  go_wp2_with (at_make; refine wpList_make_full _ rfl _ _ 52 rfl w.heap.size 103 i0 (.int .u64 0) 1 Tryz.underlying52 hi hz0 hz1 _ _ _ _ (da.length - k / 64) rfl rfl (by omega) (by omega) (by rw [hz2]; omega) (by unfold maxLen; omega) (by omega) ?_)
  intro w1 hown hgrow
  have ho := Own.of_made hown
  have hbel := (Below.refl w.heap.size w).grown hgrow (Nat.le_refl _) (by simp)
  clear hown hgrow hi hz0 hz1 hz2
  go_wp2_with fail
  go_loopw [20] (fun c wr => ∃ (i : Nat) (o : List Nat), i ≤ da.length - k / 64 ∧ c = .int .i64 i ∧ Own wr w.heap.size .u64 103 o ∧ Hid (ShrIn da (k / 64) (k % 64) i o) ∧ Below w.heap.size w wr)
   (fun c _ => da.length - k / 64 - (intOf c).toNat)
  case atStart => exact ⟨0, _, Nat.zero_le _, rfl, ho, ⟨by simp, Dgs.replicate b64_pos _, fun j hj => absurd hj (by omega)⟩, hbel⟩
  case round =>
   clear ho hbel
   obtain ⟨i, o, hile, rfl, ho, hM, hbel⟩ := hrel
   obtain ⟨b, off, rfl, hbA, hcA⟩ := hA (by omega)
   by_cases hlt : i < da.length - k / 64
   ·
    have hca : wr.cell? ⟨b, off + (i + k / 64), none⟩ = some (.int .u64 (da.getD (i + k / 64) 0 : Nat)) := (hbel.cell (p := ⟨b, off + (i + k / 64), none⟩) hbA).trans (hcA _ (by omega))
    have Hlen := Lib.hid hM.out.len
    have hco := ho.cell i (by rw [hM.out.len]; omega)
    have hfo := ho.frozen i
    have hxl := hda.getD b64_pos (i + k / 64)
    obtain ⟨x, hx⟩ : ∃ x, x = da.getD (i + k / 64) 0 := ⟨_, rfl⟩
    rw [← hx] at hca hxl
    have HX := Lib.hid hx
    have HXL := Lib.hid hxl
    have e1 : (x : Int) / 2 ^ (k % 64) = ((x / 2 ^ (k % 64) : Nat) : Int) := by simp
    obtain ⟨h, hh⟩ : ∃ h, h = x / 2 ^ (k % 64) := ⟨_, rfl⟩
    rw [← hh] at e1
    have HH := Lib.hid hh
    clear hx hxl hh
    by_cases hn : i + k / 64 + 1 < da.length
    ·
     have hcb : wr.cell? ⟨b, off + (i + k / 64 + 1), none⟩ = some (.int .u64 (da.getD (i + k / 64 + 1) 0 : Nat)) := (hbel.cell (p := ⟨b, off + (i + k / 64 + 1), none⟩) hbA).trans (hcA _ (by omega))
     obtain ⟨y, hy⟩ : ∃ y, y = da.getD (i + k / 64 + 1) 0 := ⟨_, rfl⟩
     rw [← hy] at hcb
     have HY := Lib.hid hy
     clear hy
     have e2 : IntKind.u64.wrap ((y : Int) * 2 ^ (64 - k % 64)) = ((y * 2 ^ (64 - k % 64) % b64 : Nat) : Int) := by
      rw [IntKind.wrap_u64]; unfold b64; simp
     obtain ⟨g, hg⟩ : ∃ g, g = y * 2 ^ (64 - k % 64) % b64 := ⟨_, rfl⟩
     rw [← hg] at e2
     have HG := Lib.hid hg
     have e3 : bits .or .u64 (h : Int) (g : Int) = ((h ||| g : Nat) : Int) :=
      bits_or_nat _ _ (by rw [HH.out]; exact Nat.lt_of_le_of_lt (Nat.div_le_self _ _) HXL.out) (by rw [hg]; exact Nat.mod_lt _ b64_pos)
     obtain ⟨f, hf⟩ : ∃ f, f = h ||| g := ⟨_, rfl⟩
     rw [← hf] at e3
     have HF := Lib.hid hf
     clear hg hf
     go_wp2_with fail
     go_region
     go_wp2_with fail
     refine ⟨⟨i + 1, _, by omega, by go_num, ((ho.store _ _).store _ _).drew, ?_, ((hbel.setCell (p := ⟨w.heap.size, i, none⟩) (Nat.le_refl _) _).setCell (p := ⟨w.heap.size, i, none⟩) (Nat.le_refl _) _).drew⟩, meas_up hlt⟩
     rw [List.set_set]
     refine hM.out.step hda (by omega) hlt _ ?_
     rw [HF.out, HG.out, HH.out, shr_or _ _ _ (by omega) HXL.out, HX.out, HY.out]
    ·
     go_wp2_with fail
     refine ⟨⟨i + 1, _, by omega, by go_num, ho.store _ _, ?_, hbel.setCell (p := ⟨w.heap.size, i, none⟩) (Nat.le_refl _) _⟩, meas_up hlt⟩
     refine hM.out.step hda (by omega) hlt _ ?_
     rw [HH.out, HX.out]
     have : da.getD (i + k / 64 + 1) 0 = 0 := by simp [List.getElem?_eq_none (Nat.le_of_not_lt hn)]
     rw [this]; simp
   ·
    obtain rfl : i = da.length - k / 64 := by omega
    have hlen := Lib.hid hM.out.len
    go_wp2_with fail
    have hrow := ho.isRow (by unfold maxLen; rw [hlen.out]; omega)
    rw [hlen.out] at hrow
    refine (cut_any o _ _ hrow hM.out.dgs).mono ?_
    rintro e w' ⟨v, rfl, hv, rfl⟩
    go_wp2_with fail
    go_ret
    refine ⟨v, rfl, ?_, hbel⟩
    have := hM.out.done hda (by omega) (by omega) (show k = 64 * (k / 64) + k % 64 by omega)
    rw [Hva.out] at this
    rw [← this]
    exact hv

end Go.Proofs.YtofijjomfhmbjaaGreat

namespace Go.Proofs.YtofijjomfhmbjaaGreat
open Go.RowKit

def RetTwo (q r : Nat) (w : World) (e : Ending) (w' : World) : Prop :=
 ∃ v1 v2, e = .returned (.tuple #[v1, v2]) ∧ IsNat .u64 b64 w' v1 q ∧ IsNat .u64 b64 w' v2 r ∧ Below w.heap.size w w'

theorem dig_length_one {B : Nat} (hB : 2 ≤ B) (n : Nat) (h : (dig B n).length = 1) : dig B n = [n] ∧ 0 < n ∧ n < B := by
 match hd : dig B n, h with
 | [d], _ =>
  have h1 := lv_dig hB n
  rw [hd] at h1
  have h2 : d = n := by simpa [lv] using h1
  subst h2
  have h3 := (dgs_dig hB d)
  rw [hd] at h3
  have h4 : d ≠ 0 := fun h0 => by
   have := (dig_nil_iff hB d).2 h0
   rw [hd] at this
   cases this
  exact ⟨rfl, by omega, h3.head⟩

set_option maxRecDepth 100000 in
set_option maxHeartbeats 1000000 in
theorem divide_less (m n : Nat) (va vb : Value) (w : World) (ha : IsNat .u64 b64 w va m) (hb : IsNat .u64 b64 w vb n) (h : m < n) :
  Calls Tryz.prog 95 #[va, vb] w (RetTwo (m / n) (m % n) w) := by
 have hq : m / n = 0 := Nat.div_eq_of_lt h
 have hr : m % n = m := Nat.mod_eq_of_lt h
 rw [hq, hr]
 have hc : cmpN m n < 0 := by unfold cmpN; rw [if_pos h]; omega
 clear hq hr h
 go_enter Tryz.func95, Tryz.ntmps95
 go_wp2_with fail
 refine (cmp_any _ _ _ _ _ ha hb).mono ?_
 rintro e w' ⟨rfl, nq, rfl⟩
 generalize cmpN m n = c at *
 go_wp2_with fail
 go_ret2
 exact ⟨_, _, rfl, IsNat.zero _ _ _, ha, (Quiet.below ⟨nq, rfl⟩)⟩

set_option maxRecDepth 100000 in
set_option maxHeartbeats 1000000 in
theorem divide_word (m n : Nat) (va vb : Value) (w : World) (ha : IsNat .u64 b64 w va m) (hb : IsNat .u64 b64 w vb n) (h : ¬ m < n) (h1 : (dig b64 n).length = 1) (hsz : (dig b64 m).length ≤ 1099511627776) :
  Calls Tryz.prog 95 #[va, vb] w (RetTwo (m / n) (m % n) w) := by
 obtain ⟨hd, hn0, hnb⟩ := dig_length_one b64_two n h1
 have hc : ¬ cmpN m n < 0 := by unfold cmpN; rw [if_neg h]; split <;> omega
 have Ha := Lib.hid ha
 have Hb := Lib.hid hb
 obtain ⟨ab, cb, rfl, hB⟩ := IsRow.opened hb
 rw [h1]
 rw [h1] at hB Hb
 obtain ⟨b, off, rfl, hbB, hcB⟩ := hB (by omega)
 have hcb := hcB 0 (by omega)
 rw [hd] at hcb
 simp only [List.getD_cons_zero, Nat.add_zero] at hcb
 clear hcB hd h h1 ha hb hB
 go_enter Tryz.func95, Tryz.ntmps95
 go_wp2_with fail
 refine (cmp_any _ _ _ _ _ Ha.out Hb.out).mono ?_
 rintro e w' ⟨rfl, nq, rfl⟩
 generalize cmpN m n = c at *
 go_wp2_with fail
 refine (byWord_any m n _ _ (IsNat.below Ha.out (Quiet.below ⟨nq, rfl⟩)) hsz hn0 hnb).mono ?_
 rintro e w1 ⟨v, rfl, hv, hb1⟩
 go_wp2_with fail
 refine (word_any (m % n) _ (Nat.lt_trans (Nat.mod_lt _ hn0) hnb)).mono ?_
 rintro e w2 ⟨v2, rfl, hv2, hb2⟩
 go_wp2_with fail
 go_ret2
 exact ⟨_, _, rfl, hv.below hb2, hv2, ((Quiet.below (w := w) ⟨nq, rfl⟩).trans (hb1.mono (by simp))).trans (hb2.mono (by have := hb1.size; simpa using this))⟩


structure DvIn (U V nv L j : Nat) (uu qq : List Nat) : Prop where
 lu : uu.length = L + nv
 lq : qq.length = L
 du : Dgs b64 uu
 dq : Dgs b64 qq
 val : U = lv b64 qq * V + lv b64 uu
 rem : lv b64 (uu.drop j) < V
 low : ∀ i, i < j → qq.getD i 0 = 0

theorem lv_pos_of_ge {ds : List Nat} {n : Nat} (h : lv b64 ds < b64 ^ n) : lv b64 (ds.drop n) = 0 := by
 by_cases hn : n ≤ ds.length
 ·
  have := lv_take_drop b64 ds n hn
  rcases Nat.eq_zero_or_pos (lv b64 (ds.drop n)) with h0 | h0
  ·
   exact h0
  ·
   have : b64 ^ n ≤ b64 ^ n * lv b64 (ds.drop n) := Nat.le_mul_of_pos_right _ h0
   omega
 ·
  rw [List.drop_of_length_le (by omega)]; rfl

structure Win (V nv j : Nat) (uu u : List Nat) : Prop where
 len : u.length = nv + 1
 dgs : Dgs b64 u
 split : uu = uu.take j ++ u ++ uu.drop (j + nv + 1)
 val : lv b64 u = lv b64 (uu.drop j)
 zero : lv b64 (uu.drop (j + nv + 1)) = 0
 lt : lv b64 u / V < b64

theorem DvIn.win {U V nv L j : Nat} {uu qq : List Nat} (h : DvIn U V nv L (j + 1) uu qq) (hj : j + 1 ≤ L) (hV : V < b64 ^ nv) (hV0 : 0 < V) : Win V nv j uu ((uu.drop j).take (nv + 1)) := by
 have hl := h.lu
 have hz : lv b64 (uu.drop (j + nv + 1)) = 0 := by
  have := lv_pos_of_ge (ds := uu.drop (j + 1)) (n := nv) (Nat.lt_trans h.rem hV)
  rw [List.drop_drop] at this
  have e : j + 1 + nv = j + nv + 1 := by omega
  rw [e] at this
  exact this
 have hval : lv b64 ((uu.drop j).take (nv + 1)) = lv b64 (uu.drop j) := by
  have h1 := lv_take_drop b64 (uu.drop j) (nv + 1) (by simp; omega)
  rw [List.drop_drop] at h1
  have e : j + (nv + 1) = j + nv + 1 := by omega
  rw [e, hz, Nat.mul_zero, Nat.add_zero] at h1
  exact h1.symm
 refine ⟨by simp; omega, (h.du.drop j).take _, ?_, hval, hz, ?_⟩
 ·
  have h2 : (uu.drop j).drop (nv + 1) = uu.drop (j + nv + 1) := by rw [List.drop_drop]; congr 1
  rw [List.append_assoc, ← h2, List.take_append_drop, List.take_append_drop]
 ·
  rw [hval, List.drop_eq_getElem_cons (by omega), lv_cons, Nat.div_lt_iff_lt_mul hV0]
  have h3 : uu[j] < b64 := h.du _ (List.getElem_mem _)
  have h4 : b64 * (lv b64 (uu.drop (j + 1)) + 1) ≤ b64 * V := Nat.mul_le_mul_left _ h.rem
  rw [Nat.mul_add] at h4
  omega

theorem DvIn.step {U V nv L j : Nat} {uu qq u u' : List Nat} (h : DvIn U V nv L (j + 1) uu qq) (hj : j + 1 ≤ L) (hW : Win V nv j uu u) (hV0 : 0 < V)
  (hl : u'.length = nv + 1) (hd : Dgs b64 u') (hv : lv b64 u' = lv b64 u % V) :
  DvIn U V nv L j (uu.take j ++ u' ++ uu.drop (j + nv + 1)) (qq.set j (lv b64 u / V)) := by
 have hlu := h.lu
 have ht : (uu.take j).length = j := by simp; omega
 have e1 : lv b64 (uu.take j ++ u' ++ uu.drop (j + nv + 1)) = lv b64 (uu.take j) + b64 ^ j * lv b64 u' := by
  rw [lv_append, lv_append, hW.zero, ht]; simp
 have e2 : lv b64 uu = lv b64 (uu.take j) + b64 ^ j * lv b64 u := by
  have := lv_take_drop b64 uu j (by omega)
  rw [← hW.val] at this
  exact this
 refine ⟨by simp [hl, ht]; omega, by simpa using h.lq, ((h.du.take j).append hd).append (h.du.drop _), h.dq.set _ _ hW.lt, ?_, ?_, fun i hi => ?_⟩
 ·
  have e3 := lv_set b64 qq j (lv b64 u / V) (by rw [h.lq]; omega)
  rw [h.low j (by omega), Nat.mul_zero, Nat.add_zero] at e3
  rw [e1, e3, hv, h.val, e2, Nat.add_mul]
  have e4 := Nat.div_add_mod (lv b64 u) V
  have e5 : b64 ^ j * lv b64 u = b64 ^ j * (V * (lv b64 u / V) + lv b64 u % V) := by rw [e4]
  have e6 : b64 ^ j * (lv b64 u / V) * V = b64 ^ j * (V * (lv b64 u / V)) := by ac_rfl
  rw [Nat.mul_add (b64 ^ j)] at e5
  omega
 ·
  have e7 : (uu.take j ++ u' ++ uu.drop (j + nv + 1)).drop j = u' ++ uu.drop (j + nv + 1) := by
   rw [List.append_assoc, List.drop_append_of_le_length (by omega), List.drop_of_length_le (by omega), List.nil_append]
  rw [e7, lv_append, hW.zero, Nat.mul_zero, Nat.add_zero, hv]
  exact Nat.mod_lt _ hV0
 ·
  have := h.low i (by omega)
  rw [List.getD_eq_getElem?_getD] at *
  rw [List.getElem?_set_ne (by omega)]
  exact this

theorem DvIn.start (U V nv L : Nat) (hU : (dig b64 U).length + 1 = L + nv) (hV : (dig b64 V).length = nv) (hV0 : 0 < V) (hnv : 1 ≤ nv) : DvIn U V nv L L (dig b64 U ++ [0]) (List.replicate L 0) := by
 have hd := dgs_dig b64_two U
 refine ⟨by simp [hU], by simp, hd.append (Dgs.cons b64_pos (Dgs.nil _)), Dgs.replicate b64_pos _, by rw [lv_replicate, dig_lv_snoc_zero, lv_dig b64_two]; omega, ?_, fun i _ => by simp [List.getElem?_replicate]; split <;> rfl⟩
 have h1 : L ≤ (dig b64 U).length := by omega
 have h2 : (dig b64 U ++ [0]).drop L = (dig b64 U).drop L ++ [0] := List.drop_append_of_le_length h1
 rw [h2, dig_lv_snoc_zero]
 have h3 := lv_lt (hd.drop L)
 have h4 : ((dig b64 U).drop L).length = nv - 1 := by simp; omega
 rw [h4] at h3
 exact Nat.lt_of_lt_of_le h3 (pow_le_of_dig_length b64_two V (nv - 1) (by omega))

theorem DvIn.done {U V nv L : Nat} {uu qq : List Nat} (h : DvIn U V nv L 0 uu qq) : lv b64 qq = U / V ∧ lv b64 uu = U % V := by
 have hr := h.rem
 simp only [List.drop_zero] at hr
 have hV : 0 < V := by omega
 rw [h.val]
 exact ⟨by rw [Nat.add_comm, Nat.add_mul_div_right _ _ hV, Nat.div_eq_of_lt hr, Nat.zero_add], by rw [Nat.add_comm, Nat.add_mul_mod_self_right, Nat.mod_eq_of_lt hr]⟩

theorem dig_length_shift (m s : Nat) (hs : s ≤ 64) : (dig b64 (m * 2 ^ s)).length ≤ (dig b64 m).length + 1 := by
 refine dig_length_le b64_two _ _ ?_
 have h1 := lt_pow_dig_length b64_two m
 have h2 : 2 ^ s ≤ b64 := by rw [b64_pow]; exact Nat.pow_le_pow_right (by omega) hs
 rw [Nat.pow_succ]
 exact Nat.mul_lt_mul_of_lt_of_le h1 h2 b64_pos

set_option maxRecDepth 100000 in
set_option maxHeartbeats 4000000 in
theorem divide_long (m n : Nat) (va vb : Value) (w : World) (ha : IsNat .u64 b64 w va m) (hb : IsNat .u64 b64 w vb n) (h : ¬ m < n) (hn0 : 0 < n) (h1 : (dig b64 n).length ≠ 1) (hsz : (dig b64 m).length ≤ 274877906944) :
  Calls Tryz.prog 95 #[va, vb] w (RetTwo (m / n) (m % n) w) := by
 have hc : ¬ cmpN m n < 0 := by unfold cmpN; rw [if_neg h]; split <;> omega
 have hnm := dig_length_mono b64_two (show n ≤ m by omega)
 have hn2 : 2 ≤ (dig b64 n).length := by
  have : (dig b64 n).length ≠ 0 := fun h0 => by
   have := (dig_nil_iff b64_two n).1 (List.eq_nil_of_length_eq_zero h0); omega
  omega
 have hl1 : (((dig b64 n).length : Int) == 1) = false := by simp; omega
 have Ha := Lib.hid ha
 have Hb := Lib.hid hb
 obtain ⟨ab, cb, rfl, hB⟩ := IsRow.opened hb
 obtain ⟨b, off, rfl, hbB, hcB⟩ := hB (by omega)
 have hcb := hcB ((dig b64 n).length - 1) (by omega)
 have hx := (dgs_dig b64_two n).getD b64_pos ((dig b64 n).length - 1)
 have hx0 : (dig b64 n).getD ((dig b64 n).length - 1) 0 ≠ 0 := by
  have hne : dig b64 n ≠ [] := by intro h0; rw [h0] at hn2; simp at hn2
  have := dig_last b64_two n hne
  rw [List.getLast_eq_getElem] at this
  simpa [show (dig b64 n).length - 1 < (dig b64 n).length by omega] using this
 generalize (dig b64 n).getD ((dig b64 n).length - 1) 0 = x at *
 obtain ⟨k1, k2, k3⟩ := bitLen_spec64 x hx
 obtain ⟨k4, _⟩ := k2 hx0
 obtain ⟨s, hs⟩ : ∃ s, s + Lib.bitLen x = 64 := ⟨64 - Lib.bitLen x, by omega⟩
 have hs63 : s ≤ 63 := by omega
 have hlV1 := dig_length_shift n s (by omega)
 have hlU1 := dig_length_shift m s (by omega)
 have hlV0 : (dig b64 n).length ≤ (dig b64 (n * 2 ^ s)).length := dig_length_mono b64_two (Nat.le_mul_of_pos_right _ (Nat.two_pow_pos s))
 have hlUV : (dig b64 (n * 2 ^ s)).length ≤ (dig b64 (m * 2 ^ s)).length := dig_length_mono b64_two (Nat.mul_le_mul_right _ (by omega))
 have hV0 : 0 < n * 2 ^ s := Nat.mul_pos hn0 (Nat.two_pow_pos s)
 have HS := Lib.hid hs
 have Hx := Lib.hid hx
 have hln : (dig b64 n).length ≤ 274877906944 := by omega
 clear hcB h h1 ha hb hB hx hx0 k1 k2 k3 k4 hs
 obtain ⟨i0, hi, hz0, hz1, hz2⟩ := info_parts info_u64
 go_enter Tryz.func95, Tryz.ntmps95
 go_wp2_with fail
 refine (cmp_any _ _ _ _ _ Ha.out Hb.out).mono ?_
 rintro e w' ⟨rfl, nq, rfl⟩
 generalize cmpN m n = c at *
 have hcb2 : (w.drewN nq).cell? ⟨b, off + ((dig b64 n).length - 1), none⟩ = some (.int .u64 x) := hcb
 go_wp2_with fail
 refine (lz64_any x _ Hx.out s HS.out).mono ?_
 rintro e w' ⟨rfl, rfl⟩
 go_wp2_with fail
 have hq0 : Below w.heap.size w (w.drewN nq) := Quiet.below ⟨nq, rfl⟩
 refine (left_any n s _ _ (IsNat.below Hb.out hq0) (by omega) (by omega)).mono ?_
 rintro e w1 ⟨vV, rfl, hvV, hb1⟩
 have hx1 := ext_trans hq0 hb1
 clear hcb hcb2 hbB
 obtain ⟨av, cv, rfl, hV⟩ := IsRow.opened hvV
 obtain ⟨bV, offV, rfl, hbV, hcV⟩ := hV (by omega)
 have HcV := Lib.hid hcV
 clear hV hb1 hcV
 go_wp2_with fail
 have hx1a : Below w.heap.size w (w1.alloc (.cells #[] 103)) := hx1.alloc hx1.size _
 refine (left_any m s _ _ (IsNat.below Ha.out hx1a) (by omega) (by omega)).mono ?_
 rintro e w2 ⟨vU, rfl, hvU, hb2⟩
 have hy2 : Below w1.heap.size w1 w2 := ((Below.refl _ _).alloc (Nat.le_refl _) _).trans (hb2.mono (by simp))
 have hem := ownsRow_empty (w := w1) (e := 103) (by simpa using hb2)
 have hsz2 := hb2.size
 simp at hsz2
 obtain ⟨au, cu, rfl, hU⟩ := IsRow.opened hvU
 obtain ⟨bu, offu, rfl, hbU, hcU⟩ := hU (by omega)
 clear hvU hvV hU hb2 hq0 hx1a
 have hdU := dgs_dig b64_two (m * 2 ^ s)
 have HstartU := Lib.hid (DvIn.start (m * 2 ^ s) (n * 2 ^ s) (dig b64 (n * 2 ^ s)).length ((dig b64 (m * 2 ^ s)).length + 1 - (dig b64 (n * 2 ^ s)).length) (by omega) rfl hV0 (by omega))
 have HVlt := Lib.hid (lt_pow_dig_length b64_two (n * 2 ^ s))
 have HVv := Lib.hid (lv_dig b64_two (n * 2 ^ s))
 have HdV := Lib.hid (dgs_dig b64_two (n * 2 ^ s))
 generalize dig b64 (m * 2 ^ s) = dU at *
 generalize dig b64 (n * 2 ^ s) = dV at *
 go_wp2_with (at_builtin; refine wpList_append_own _ rfl (.tmp 45) (.tmp 48) 52 rfl w1.heap.size 103 i0 (.int .u64 0) 1 8 Tryz.underlying52 hi hz0 hz1 hz2 rfl (by decide) _ _ _ rfl hem ⟨bu, offu, none⟩ dU.length cu (dU.map (fun d : Nat => Value.int .u64 (d : Int))) rfl (by simp) (row_cells hcU) (row_one _) (by unfold maxLen; omega) (by omega) (by omega) ?_)
 intro v3 w3 hown3 hgr3 _
 try simp only [Nat.zero_add, List.nil_append] at hown3
 have hsz3 := hgr3.size
 have hy3 : Below w1.heap.size w1 w3 := hy2.grown hgr3 hy2.size (by intro k hk; simp [Value.ownBlock] at hk; omega)
 go_wp2_with (at_builtin; refine wpList_append_own _ rfl (.tmp 49) (.tmp 50) 52 rfl w1.heap.size 103 i0 (.int .u64 0) 1 8 Tryz.underlying52 hi hz0 hz1 hz2 rfl (by decide) _ _ _ rfl (hown3.alloc _) ⟨w3.heap.size, 0, none⟩ 1 1 [.int .u64 0] rfl rfl (cell_one_new _ _ _) (by simp [Value.oneCell']) (by unfold maxLen; omega) (by omega) (by simp; omega) ?_)
 intro v4 w4 hown4 hgr4 _
 have hy4 : Below w1.heap.size w1 w4 := (hy3.alloc hy3.size _).grown hgr4 (by simp; omega) (fun k hk => (hown3.lt k hk).1)
 have e0 : dU.map (fun d : Nat => Value.int .u64 (d : Int)) ++ [Value.int .u64 0] = (dU ++ [0]).map (fun d : Nat => Value.int .u64 (d : Int)) := by simp
 rw [e0] at hown4
 obtain ⟨g, cap, rfl⟩ := ownsRow_some hown4 (by omega)
 obtain ⟨hoU, hcap1, hcap2, hg1⟩ := Own.of_ownsRow (by simp) hown4
 have hgl := hoU.lt
 have Hcap2 := Lib.hid hcap2
 clear hown3 hown4 hgr3 hgr4 hem e0 hsz2 hsz3 hcU hbU hdU hy2 hy3 hcap2
 go_wp2_with (at_make; refine wpList_make_full _ rfl _ _ 52 rfl w4.heap.size 103 i0 (.int .u64 0) 1 Tryz.underlying52 hi hz0 hz1 _ _ _ _ (dU.length + 1 - dV.length) rfl rfl (by omega) (by omega) (by rw [hz2]; omega) (by unfold maxLen; omega) (by omega) ?_)
 intro w5 hown5 hgr5
 have hoQ := Own.of_made hown5
 have hy5 : Below w1.heap.size w1 w5 := hy4.grown hgr5 hy4.size (by simp)
 have hoU5 := hoU.grown hgr5 (by simp)
 clear hown5 hgr5 hy4 hoU hi hz0 hz1 hz2
 go_wp2_with fail
 go_loopw [13] (fun c wr => ∃ (j : Nat) (uu qq : List Nat), j ≤ dU.length + 1 - dV.length ∧ c = .int .i64 ((j : Int) - 1) ∧ Own wr g .u64 103 uu ∧ Own wr w4.heap.size .u64 103 qq ∧
   Hid (DvIn (m * 2 ^ s) (n * 2 ^ s) dV.length (dU.length + 1 - dV.length) j uu qq) ∧ Below w1.heap.size w1 wr) (fun c _ => ((intOf c) + 1).toNat)
 case atStart => exact ⟨_, _, _, Nat.le_refl _, by go_num, hoU5, hoQ, HstartU.out, hy5⟩
 case round =>
  clear hoU5 hoQ hy5
  obtain ⟨j, uu, qq, hj, rfl, hoU, hoQ, hD, hy⟩ := hrel
  have hsz1 := hx1.size
  rcases Nat.eq_zero_or_pos j with rfl | hjp
  ·
   have hdn := hD.out.done
   have hlq := hD.out.lq
   have hlu := hD.out.lu
   have hlu' : uu.length = dU.length + 1 := by omega
   have hrQ := hoQ.isRow (by unfold maxLen; omega)
   rw [hlq] at hrQ
   have hrU := hoU.isRowCap cap (by omega) Hcap2.out
   rw [hlu'] at hrU
   have hdQ := hD.out.dq
   have hdU := hD.out.du
   clear hlq hlu hlu'
   have e1 : n * 2 ^ s ≠ 0 := by omega
   have hp : 0 < 2 ^ s := Nat.two_pow_pos s
   have Hdiv : Hid (lv b64 qq = m / n) := by show lv b64 qq = m / n; rw [hdn.1, Nat.mul_div_mul_right _ _ hp]
   have Hmod : Hid (lv b64 uu = m % n * 2 ^ s) := by show lv b64 uu = m % n * 2 ^ s; rw [hdn.2, Nat.mul_mod_mul_right]
   clear hdn e1 hp
   go_wp2_with fail
   refine (cut_any qq _ _ hrQ hdQ).mono ?_
   rintro e w' ⟨vq, rfl, hvq, rfl⟩
   go_wp2_with fail
   refine (cut_any uu _ _ hrU hdU).mono ?_
   rintro e w' ⟨vr, rfl, hvr, rfl⟩
   rw [Hdiv.out] at hvq
   rw [Hmod.out] at hvr
   go_wp2_with fail
   have hlr : (dig b64 (m % n * 2 ^ s)).length ≤ 549755813888 := by
    have h1 := dig_length_shift (m % n) s (by omega)
    have h2 := dig_length_mono b64_two (show m % n ≤ n from Nat.le_of_lt (Nat.mod_lt _ hn0))
    omega
   refine (right_any (m % n * 2 ^ s) s _ _ hvr hlr (by omega)).mono ?_
   rintro e w6 ⟨vr2, rfl, hvr2, hb6⟩
   rw [Nat.mul_div_cancel _ (Nat.two_pow_pos s)] at hvr2
   go_wp2_with fail
   go_ret2
   exact ⟨_, _, rfl, hvq.below hb6, hvr2, ext_trans (hx1.trans (hy.mono hsz1)) hb6⟩
  ·
   obtain ⟨i, rfl⟩ : ∃ i, j = i + 1 := ⟨j - 1, by omega⟩
   have hW := hD.out.win hj HVlt.out hV0
   have hlu := hD.out.lu
   generalize (uu.drop i).take (dV.length + 1) = u at *
   have hpl : (uu.take i).length = i := by simp; omega
   have hoU' := hoU
   rw [hW.split] at hoU'
   have hdg := digit_any (uu.take i) u (uu.drop (i + dV.length + 1)) dV g (cap - i) bV offV cv wr hoU' hW.len hW.dgs HdV.out (by omega) (by rw [HVv.out]; exact hV0) (by rw [HVv.out]; exact hW.lt) (by rw [hW.len]; omega) (by have := Hcap2.out; omega) (by omega) (Nat.lt_of_lt_of_le hbV hy.size)
    (fun q hq => (hy.cell (p := ⟨bV, offV + q, none⟩) hbV).trans (HcV.out q hq)) (by omega) (by rw [hpl]; omega)
   rw [hpl, HVv.out] at hdg
   have HD := Lib.hid hdg
   have HW := Lib.hid hW
   have hcq := hoQ.cell i (by rw [hD.out.lq]; omega)
   have hfq := hoQ.frozen i
   have e1 : ((i + 1 : Nat) : Int) - 1 = (i : Int) := by omega
   rw [e1]
   have hne : ¬ cap = i := by omega
   have hle1 : (i : Int) + dV.length + 1 ≤ cap := by omega
   clear hdg hW hoU' hlu
   go_wp2_with fail
   rw [show i + dV.length + 1 - i = dV.length + 1 from by omega]
   refine HD.out.mono ?_
   rintro e w6 ⟨u', rfl, hl', hd', hv', hoU6, hgr6⟩
   have hoQ6 := hoQ.grown hgr6 (by simp; omega)
   have hcq6 := hoQ6.cell i (by rw [hD.out.lq]; omega)
   have hfq6 := hoQ6.frozen i
   have hstep := Lib.hid (hD.out.step hj HW.out hV0 hl' hd' hv')
   have Hl' := Lib.hid hl'
   have Hv' := Lib.hid hv'
   have hy6 : Below w1.heap.size w1 w6 := hy.grown hgr6 hy.size (by simp; omega)
   clear hl' hv' hcq hfq
   generalize lv b64 u / (n * 2 ^ s) = dgt at *
   go_wp2_with fail
   exact ⟨⟨i, _, _, by omega, rfl, hoU6.other (by show w4.heap.size ≠ g; omega) _, hoQ6.store _ _, hstep.out, hy6.setCell (p := ⟨w4.heap.size, i, none⟩) (by show w1.heap.size ≤ w4.heap.size; omega) _⟩, by simp [intOf]⟩


theorem divide_any (m n : Nat) (va vb : Value) (w : World) (ha : IsNat .u64 b64 w va m) (hb : IsNat .u64 b64 w vb n) (hn0 : 0 < n) (hsz : (dig b64 m).length ≤ 274877906944) :
  Calls Tryz.prog 95 #[va, vb] w (RetTwo (m / n) (m % n) w) := by
 by_cases h : m < n
 ·
  exact divide_less m n va vb w ha hb h
 ·
  by_cases h1 : (dig b64 n).length = 1
  ·
   exact divide_word m n va vb w ha hb h h1 (by omega)
  ·
   exact divide_long m n va vb w ha hb h hn0 h1 hsz

end Go.Proofs.YtofijjomfhmbjaaGreat

namespace Go.Proofs.YtofijjomfhmbjaaGreat
open Go.RowKit

theorem row_short {k : IntKind} {w : World} {m : Nat} {v : Value} (h : IsNat k b64 w v m) (hl : (dig b64 m).length ≤ 1) : (m = 0 ∧ ∃ ao cap, v = .slice ao 0 cap) ∨ (m ≠ 0 ∧ m < b64 ∧ ∃ b off cap, v = .slice (some ⟨b, off, none⟩) 1 cap ∧ w.cell? ⟨b, off, none⟩ = some (.int k m)) := by
 rcases h with ⟨h0, ao, cap, rfl, _⟩ | ⟨h0, b, off, cap, rfl, _, _, _, hc⟩
 ·
  exact .inl ⟨(dig_nil_iff b64_two m).1 h0, _, _, rfl⟩
 ·
  obtain ⟨hd, hm0, hmb⟩ := dig_length_one b64_two m (by omega)
  have := hc 0 (by omega)
  rw [hd] at this
  rw [hd]
  exact .inr ⟨by omega, hmb, b, off, cap, rfl, by simpa using this⟩

set_option maxHeartbeats 1000000 in
theorem small_any (m n : Nat) (va vb : Value) (w : World) (ha : IsNat .u64 b64 w va m) (hb : IsNat .u64 b64 w vb n) (hla : (dig b64 m).length ≤ 1) (hlb : (dig b64 n).length ≤ 1) (hn : 0 < n) :
  Calls Tryz.prog 109 #[va, vb] w (fun e w' => e = .returned (.int .u64 (Nat.gcd m n : Nat)) ∧ Quiet w w') := by
 rcases row_short hb hlb with ⟨h0, _⟩ | ⟨_, hnb, b, off, cap, rfl, hc⟩
 ·
  omega
 have hmb : m < b64 := by
  rcases row_short ha hla with ⟨h0, _⟩ | ⟨_, hmb, _⟩
  ·
   rw [h0]; exact b64_pos
  ·
   exact hmb
 clear hlb hla
 rcases row_short ha (by exact (show (dig b64 m).length ≤ 1 from dig_length_le b64_two 1 m (by simpa using hmb))) with ⟨h0, ao, cap', rfl⟩ | ⟨_, _, b', off', cap', rfl, hc'⟩
 all_goals
  clear ha hb
  go_enter Tryz.func109, Tryz.ntmps109
  go_wp2_with fail
  go_loopw [5, 6] (fun xv yv wr => ∃ x y : Nat, xv = .int .u64 x ∧ yv = .int .u64 y ∧ Hid (x < b64) ∧ Hid (y < b64) ∧ Hid (Nat.gcd x y = Nat.gcd m n) ∧ Quiet w wr) (fun _ yv _ => (intOf yv).toNat)
  case atStart => first | exact ⟨m, n, rfl, rfl, hmb, hnb, rfl, .refl _⟩ | exact ⟨0, n, rfl, rfl, b64_pos, hnb, by rw [h0]; rfl, .refl _⟩
  case round =>
   obtain ⟨x, y, rfl, rfl, hx, hy, hg, nq, rfl⟩ := hrel
   rcases Nat.eq_zero_or_pos y with rfl | hp
   ·
    go_wp2_with fail
    go_ret
    have := hg.out
    rw [Nat.gcd_zero_right] at this
    exact ⟨by rw [← this]; rfl, _, rfl⟩
   ·
    have c1 : (0 : Int) < y := by omega
    have c2 : ¬ y = 0 := by omega
    obtain ⟨z, hz⟩ : ∃ z, z = x % y := ⟨_, rfl⟩
    have HZ := Lib.hid hz
    have e1 : (x : Int).tmod y = (z : Int) := by rw [hz]; rfl
    have e2 : (x : Int) % y = (z : Int) := by rw [hz]; rfl
    clear hz
    go_wp2_with fail
    go_quiet (fail)
    go_wp2_with fail
    refine ⟨⟨y, z, rfl, by first | rfl | rw [e2] | rw [e1], hy, by show z < b64; rw [HZ.out]; exact Nat.lt_trans (Nat.mod_lt _ hp) hy.out, by show Nat.gcd y z = Nat.gcd m n; rw [HZ.out, ← hg.out, Nat.gcd_comm y, ← Nat.gcd_rec, Nat.gcd_comm], Quiet.step ⟨_, rfl⟩ _⟩, ?_⟩
    have := Nat.mod_lt x hp
    rw [← HZ.out] at this
    simp only [intOf, Int.toNat_natCast]
    first | omega | (rw [e2]; omega)


set_option maxHeartbeats 1000000 in
theorem gcd_any (m n : Nat) (va vb : Value) (w : World) (ha : IsNat .u64 b64 w va m) (hb : IsNat .u64 b64 w vb n) (hla : (dig b64 m).length ≤ 274877906944) (hlb : (dig b64 n).length ≤ 274877906944) :
  Calls Tryz.prog 94 #[va, vb] w (RetNat .u64 b64 (Nat.gcd m n) w) := by
 go_enter Tryz.func94, Tryz.ntmps94
 go_wp2_with fail
 go_loopg [0, 1] n (fun k av bv wr => ∃ x : Nat, IsNat .u64 b64 wr av x ∧ IsNat .u64 b64 wr bv k ∧ Hid (Nat.gcd x k = Nat.gcd m n) ∧ (dig b64 x).length ≤ 274877906944 ∧ (dig b64 k).length ≤ 274877906944 ∧ Below w.heap.size w wr)
 case atStart => exact ⟨m, ha, hb, rfl, hla, hlb, Below.refl _ _⟩
 case round =>
  clear ha hb hla hlb
  obtain ⟨x, ha, hb, hg, hla, hlb, hbel⟩ := hrel
  rcases Nat.eq_zero_or_pos gk with h0 | hp
  ·
   subst h0
   have hg' := hg.out
   rw [Nat.gcd_zero_right] at hg'
   rw [hg'] at ha
   have Ha := Lib.hid ha
   obtain ⟨ab, cb, rfl, _⟩ := IsRow.opened hb
   rw [dig_zero, List.length_nil]
   clear ha hb hg' 
   go_wp2_with fail
   go_ret
   exact ⟨_, rfl, Ha.out, hbel⟩
  ·
   have hk0 : 0 < (dig b64 gk).length := by
    rcases Nat.eq_zero_or_pos (dig b64 gk).length with h0 | h0
    ·
     have := (dig_nil_iff b64_two gk).1 (List.eq_nil_of_length_eq_zero h0); omega
    ·
     exact h0
   have Ha := Lib.hid ha
   have Hb := Lib.hid hb
   obtain ⟨aa, ca, rfl, _⟩ := IsRow.opened ha
   obtain ⟨ab, cb, rfl, _⟩ := IsRow.opened hb
   clear ha hb
   by_cases hs : (dig b64 x).length ≤ 1 ∧ (dig b64 gk).length ≤ 1
   ·
    obtain ⟨s1, s2⟩ := hs
    have t1 : decide (((dig b64 x).length : Int) ≤ 1) = true := by simp; omega
    have t2 : decide (((dig b64 gk).length : Int) ≤ 1) = true := by simp; omega
    have hgb : Nat.gcd x gk < b64 := by
     refine Nat.lt_of_le_of_lt (Nat.le_of_dvd hp (Nat.gcd_dvd_right x gk)) ?_
     have h1 := lt_pow_dig_length b64_two gk
     exact Nat.lt_of_lt_of_le h1 (by have := Nat.pow_le_pow_right b64_pos s2; simpa using this)
    go_wp2_with fail
    refine (small_any x gk _ _ _ Ha.out Hb.out s1 s2 hp).mono ?_
    rintro e w' ⟨rfl, nq, rfl⟩
    go_wp2_with fail
    refine (word_any (Nat.gcd x gk) _ hgb).mono ?_
    rintro e w2 ⟨v2, rfl, hv2, hb2⟩
    go_wp2_with fail
    go_ret
    rw [hg.out] at hv2
    exact ⟨_, rfl, hv2, ext_trans (below_dn hbel nq) hb2⟩
   ·
    by_cases s1 : (dig b64 x).length ≤ 1
    ·
     have t1 : decide (((dig b64 x).length : Int) ≤ 1) = true := by simp; omega
     have t2 : decide (((dig b64 gk).length : Int) ≤ 1) = false := by simp; omega
     clear hs
     go_wp2_with fail
     refine (divide_any x gk _ _ _ Ha.out Hb.out hp hla).mono ?_
     rintro e w2 ⟨v1, v2, rfl, _, hv2, hb2⟩
     have hb0 := Hb.out.below hb2
     go_wp2_with fail
     go_roundg (x % gk)
     case measure => exact Nat.mod_lt _ hp
     case rel => exact ⟨gk, hb0, hv2, by show Nat.gcd gk (x % gk) = Nat.gcd m n; rw [← hg.out, Nat.gcd_comm gk, ← Nat.gcd_rec, Nat.gcd_comm], hlb, Nat.le_trans (dig_length_mono b64_two (Nat.mod_le _ _)) hla, ext_trans hbel hb2⟩
    ·
     have t1 : decide (((dig b64 x).length : Int) ≤ 1) = false := by simp; omega
     clear hs
     go_wp2_with fail
     refine (divide_any x gk _ _ _ Ha.out Hb.out hp hla).mono ?_
     rintro e w2 ⟨v1, v2, rfl, _, hv2, hb2⟩
     have hb0 := Hb.out.below hb2
     go_wp2_with fail
     go_roundg (x % gk)
     case measure => exact Nat.mod_lt _ hp
     case rel => exact ⟨gk, hb0, hv2, by show Nat.gcd gk (x % gk) = Nat.gcd m n; rw [← hg.out, Nat.gcd_comm gk, ← Nat.gcd_rec, Nat.gcd_comm], hlb, Nat.le_trans (dig_length_mono b64_two (Nat.mod_le _ _)) hla, ext_trans hbel hb2⟩

end Go.Proofs.YtofijjomfhmbjaaGreat

namespace Go.Proofs.YtofijjomfhmbjaaGreat
open Go.RowKit

set_option maxHeartbeats 1000000 in
theorem under_any (d : Nat) (v : Value) (w : World) (h : IsNat .u64 b64 w v (dn d)) (hd : 0 < d) : Calls Tryz.prog 65 #[v] w (RetNat .u64 b64 d w) := by
 by_cases h1 : d = 1
 ·
  have hz : dn d = 0 := by simp [dn, h1]
  rw [hz] at h
  obtain ⟨ao, cap, rfl, _⟩ := IsRow.opened h
  rw [dig_zero, List.length_nil]
  have H1 := Lib.hid h1
  clear h hz h1
  go_enter Tryz.func65, Tryz.ntmps65
  go_wp2_with fail
  have hw := word_any 1 w (by unfold b64; omega)
  refine hw.mono ?_
  rintro e w' ⟨v, rfl, hv, hb⟩
  go_wp2_with fail
  go_ret
  rw [H1.out]
  exact ⟨_, rfl, hv, hb⟩
 ·
  have hz : dn d = d := by simp [dn, h1]
  rw [hz] at h
  have H := Lib.hid h
  obtain ⟨ao, cap, rfl, _⟩ := IsRow.opened h
  have hl : ((dig b64 d).length : Int) ≠ 0 := fun h0 => by
   have := (dig_nil_iff b64_two d).1 (List.eq_nil_of_length_eq_zero (by omega)); omega
  have hb : (((dig b64 d).length : Int) == 0) = false := beq_eq_false_iff_ne.2 hl
  clear h hl
  go_enter Tryz.func65, Tryz.ntmps65
  go_wp2_with fail
  go_ret
  exact ⟨_, rfl, H.out, Below.refl _ _⟩

set_option maxHeartbeats 2000000 in
theorem reduced_any (neg : Bool) (n d : Nat) (vn vd : Value) (w : World) (hn : IsNat .u64 b64 w vn n) (hd : IsNat .u64 b64 w vd d) (hd0 : 0 < d) (hla : (dig b64 n).length ≤ 274877906944) (hlb : (dig b64 d).length ≤ 274877906944) :
  Calls Tryz.prog 67 #[.bool neg, vn, vd] w (RetRat (mkQ neg n d) w) := by
 by_cases hn0 : n = 0
 ·
  have Hn := Lib.hid hn0
  rw [hn0] at hn
  obtain ⟨ao, cap, rfl, _⟩ := IsRow.opened hn
  rw [dig_zero, List.length_nil]
  clear hn hn0 hla
  go_enter Tryz.func67, Tryz.ntmps67
  go_wp2_with fail
  refine bodyPost_ret (v := .agg #[.bool false, .slice none 0 0, .slice none 0 0]) (by simp [results, Tryz.results67, go_sem]) rfl ⟨_, rfl, ?_, (Below.refl _ _).alloc (Nat.le_refl _) _⟩
  rw [Hn.out, mkQ_zero]
  exact IsRat.zero _
 ·
  have hg0 : 0 < Nat.gcd n d := Nat.gcd_pos_of_pos_right n hd0
  have Hneg := Lib.hid (mkQ_neg neg n d hd0 hn0)
  have Hnum := Lib.hid (mkQ_num neg n d hd0)
  have Hden := Lib.hid (mkQ_den neg n d hd0)
  have hl : ((dig b64 n).length : Int) ≠ 0 := fun h0 => by
   have := (dig_nil_iff b64_two n).1 (List.eq_nil_of_length_eq_zero (by omega)); omega
  have hlb0 : (((dig b64 n).length : Int) == 0) = false := beq_eq_false_iff_ne.2 hl
  have Hn := Lib.hid hn
  have Hd := Lib.hid hd
  obtain ⟨ao, cap, rfl, _⟩ := IsRow.opened hn
  obtain ⟨dd, hdd⟩ : ∃ dd, dd = d / Nat.gcd n d := ⟨_, rfl⟩
  obtain ⟨nn, hnn⟩ : ∃ nn, nn = n / Nat.gcd n d := ⟨_, rfl⟩
  have hdd0 : 0 < dd := by rw [hdd]; exact Nat.div_pos (Nat.le_of_dvd hd0 (Nat.gcd_dvd_right n d)) hg0
  rw [← hnn] at Hnum
  rw [← hdd] at Hden
  have Hdd := Lib.hid hdd
  have Hnn := Lib.hid hnn
  generalize hq : mkQ neg n d = q at *
  clear hn hd hl hdd hnn hq hn0
  by_cases hg1 : Nat.gcd n d = 1
  ·
   have t1 : decide (Nat.gcd n d = 1) = true := by simp [hg1]
   have hnn' : nn = n := by rw [Hnn.out, hg1, Nat.div_one]
   have hdd' : dd = d := by rw [Hdd.out, hg1, Nat.div_one]
   subst hnn' hdd'
   clear hg1
   have hal : Below w.heap.size w (w.alloc (.cells #[.bool false, .slice none 0 0, .slice none 0 0] 54)) := (Below.refl _ _).alloc (Nat.le_refl _) _
   have hB0 := blk_new w #[.bool false, .slice none 0 0, .slice none 0 0] 54
   obtain ⟨ad, cd, rfl, _⟩ := IsRow.opened Hd.out
   go_enter Tryz.func67, Tryz.ntmps67
   go_wp2_with fail
   refine (gcd_any nn dd _ _ _ (Hn.out.below hal) (Hd.out.below hal) hla hlb).mono ?_
   rintro e w3 ⟨vg, rfl, hvg, hb1⟩
   have hx3 := ext_trans hal hb1
   have hB3 := blk_keep hB0 hb1 (by simp)
   have hv13 := Hn.out.below hx3
   have hv3 := Hd.out.below hx3
   clear hal hB0 hb1
   have hBl := blk_lt hB3
   have c0 := blk_cell hB3 0 (.bool false) rfl
   have c1 := blk_cell hB3 1 (.slice none 0 0) rfl
   have c2 := blk_cell hB3 2 (.slice none 0 0) rfl
   have f0 := blk_frozen hB3 0
   have f1 := blk_frozen hB3 1
   have f2 := blk_frozen hB3 2
   go_wp2_with fail
   refine (isOne_any _ _ _ hvg).mono ?_
   rw [t1]
   rintro e w' ⟨rfl, rfl⟩
   go_wp2_with fail
   refine (isOne_any _ _ _ hv3).mono ?_
   have Hv13 := Lib.hid hv13
   have Hv3 := Lib.hid hv3
   have HB3 := Lib.hid hB3
   clear hv13 hv3 hB3
   by_cases hd1 : dd = 1
   ·
    have t2 : decide (dd = 1) = true := by simp [hd1]
    have Hd1 := Lib.hid hd1
    clear hd1
    rw [t2]
    rintro e w' ⟨rfl, rfl⟩
    clear t1 t2
    go_wp2_with fail
    refine bodyPost_ret (v := .agg #[.bool neg, .slice ao (dig b64 nn).length cap, .slice none 0 0]) (by simp [results, Tryz.results67, go_sem, c0, c1, c2]) rfl ⟨_, rfl, ?_, below_store3 hx3 (Nat.le_refl _)⟩
    refine ⟨_, _, by rw [Hneg.out], ?_, ?_⟩
    ·
     rw [Hnum.out]; exact store3 HB3.out Hv13.out
    ·
     rw [Hden.out, Hd1.out]; exact IsNat.zero _ _ _
   ·
    have t2 : decide (dd = 1) = false := by simp [hd1]
    have Hd1 : Hid (dn dd = dd) := by show dn dd = dd; simp [dn, hd1]
    clear hd1
    rw [t2]
    rintro e w' ⟨rfl, rfl⟩
    clear t1 t2
    go_wp2_with fail
    refine bodyPost_ret (v := .agg #[.bool neg, .slice ao (dig b64 nn).length cap, .slice ad (dig b64 dd).length cd]) (by simp [results, Tryz.results67, go_sem, c0, c1, c2]) rfl ⟨_, rfl, ?_, below_store3 hx3 (Nat.le_refl _)⟩
    refine ⟨_, _, by rw [Hneg.out], ?_, ?_⟩
    ·
     rw [Hnum.out]; exact store3 HB3.out Hv13.out
    ·
     rw [Hden.out, Hd1.out]; exact store3 HB3.out Hv3.out
  ·
   have t1 : decide (Nat.gcd n d = 1) = false := by simp [hg1]
   clear hg1
   have hal : Below w.heap.size w (w.alloc (.cells #[.bool false, .slice none 0 0, .slice none 0 0] 54)) := (Below.refl _ _).alloc (Nat.le_refl _) _
   have hB0 := blk_new w #[.bool false, .slice none 0 0, .slice none 0 0] 54
   go_enter Tryz.func67, Tryz.ntmps67
   go_wp2_with fail
   refine (gcd_any n d _ _ _ (Hn.out.below hal) (Hd.out.below hal) hla hlb).mono ?_
   rintro e w1 ⟨vg, rfl, hvg, hb1⟩
   have hx1 := ext_trans hal hb1
   have hB1 := blk_keep hB0 hb1 (by simp)
   clear hal hB0
   go_wp2_with fail
   refine (isOne_any _ _ _ hvg).mono ?_
   rw [t1]
   rintro e w' ⟨rfl, rfl⟩
   go_wp2_with fail
   refine (divide_any n _ _ _ _ (Hn.out.below hx1) hvg hg0 hla).mono ?_
   rintro e w2 ⟨v1, v2, rfl, hv1, _, hb2⟩
   have hx2 := ext_trans hx1 hb2
   have hB2 := blk_keep hB1 hb2 (blk_lt hB1)
   have hvg2 := hvg.below hb2
   clear hB1 hvg
   go_wp2_with fail
   refine (divide_any d _ _ _ _ (Hd.out.below hx2) hvg2 hg0 hlb).mono ?_
   rintro e w3 ⟨v3, v4, rfl, hv3, _, hb3⟩
   have hx3 := ext_trans hx2 hb3
   have hB3 := blk_keep hB2 hb3 (blk_lt hB2)
   have hv13 := hv1.below hb3
   rw [← Hnn.out] at hv13
   rw [← Hdd.out] at hv3
   clear hB2 hvg2 hx1 hx2 hb1 hb2 hb3 hv1
   have Hv13' := Lib.hid hv13
   have Hv3' := Lib.hid hv3
   obtain ⟨a1, c1', rfl, _⟩ := IsRow.opened hv13
   obtain ⟨a3, c3', rfl, _⟩ := IsRow.opened hv3
   clear hv13 hv3
   have hv13 := Hv13'.out
   have hv3 := Hv3'.out
   clear Hv13' Hv3'
   have hBl := blk_lt hB3
   have c0 := blk_cell hB3 0 (.bool false) rfl
   have c1 := blk_cell hB3 1 (.slice none 0 0) rfl
   have c2 := blk_cell hB3 2 (.slice none 0 0) rfl
   have f0 := blk_frozen hB3 0
   have f1 := blk_frozen hB3 1
   have f2 := blk_frozen hB3 2
   go_wp2_with fail
   refine (isOne_any _ _ _ hv3).mono ?_
   have Hv13 := Lib.hid hv13
   have Hv3 := Lib.hid hv3
   have HB3 := Lib.hid hB3
   clear hv13 hv3 hB3
   by_cases hd1 : dd = 1
   ·
    have t2 : decide (dd = 1) = true := by simp [hd1]
    have Hd1 := Lib.hid hd1
    clear hd1
    rw [t2]
    rintro e w' ⟨rfl, rfl⟩
    clear t1 t2
    go_wp2_with fail
    refine bodyPost_ret (v := .agg #[.bool neg, .slice a1 (dig b64 nn).length c1', .slice none 0 0]) (by simp [results, Tryz.results67, go_sem, c0, c1, c2]) rfl ⟨_, rfl, ?_, below_store3 hx3 (Nat.le_refl _)⟩
    refine ⟨_, _, by rw [Hneg.out], ?_, ?_⟩
    ·
     rw [Hnum.out]; exact store3 HB3.out Hv13.out
    ·
     rw [Hden.out, Hd1.out]; exact IsNat.zero _ _ _
   ·
    have t2 : decide (dd = 1) = false := by simp [hd1]
    have Hd1 : Hid (dn dd = dd) := by show dn dd = dd; simp [dn, hd1]
    clear hd1
    rw [t2]
    rintro e w' ⟨rfl, rfl⟩
    clear t1 t2
    go_wp2_with fail
    refine bodyPost_ret (v := .agg #[.bool neg, .slice a1 (dig b64 nn).length c1', .slice a3 (dig b64 dd).length c3']) (by simp [results, Tryz.results67, go_sem, c0, c1, c2]) rfl ⟨_, rfl, ?_, below_store3 hx3 (Nat.le_refl _)⟩
    refine ⟨_, _, by rw [Hneg.out], ?_, ?_⟩
    ·
     rw [Hnum.out]; exact store3 HB3.out Hv13.out
    ·
     rw [Hden.out, Hd1.out]; exact store3 HB3.out Hv3.out

end Go.Proofs.YtofijjomfhmbjaaGreat

namespace Go.Proofs.YtofijjomfhmbjaaGreat
open Go.RowKit

set_option maxHeartbeats 1000000 in
theorem size_any (n : Int) (w : World) (h1 : -9223372036854775808 ≤ n) (h2 : n ≤ 9223372036854775807) : Calls Tryz.prog 98 #[.int .i64 n] w (RetNat .u64 b64 n.natAbs w) := by
 have hb : n.natAbs < b64 := by unfold b64; omega
 by_cases hn : n < 0
 ·
  have e1 : IntKind.u64.wrap (-(IntKind.u64.wrap n)) = ((n.natAbs : Nat) : Int) := by
   rw [IntKind.wrap_u64, IntKind.wrap_u64]; omega
  go_enter Tryz.func98, Tryz.ntmps98
  go_wp2_with fail
  refine (word_any n.natAbs _ hb).mono ?_
  rintro e w' ⟨v, rfl, hv, hb'⟩
  go_wp2_with fail
  go_ret
  exact ⟨_, rfl, hv, hb'⟩
 ·
  have e1 : IntKind.u64.wrap n = ((n.natAbs : Nat) : Int) := by
   rw [IntKind.wrap_u64]; omega
  go_enter Tryz.func98, Tryz.ntmps98
  go_wp2_with fail
  refine (word_any n.natAbs _ hb).mono ?_
  rintro e w' ⟨v, rfl, hv, hb'⟩
  go_wp2_with fail
  go_ret
  exact ⟨_, rfl, hv, hb'⟩

set_option maxHeartbeats 1000000 in
theorem zero_any (b : Bool) (a1 : Option Addr) (n c1 : Nat) (a2 : Option Addr) (l2 c2 : Nat) (w : World) :
  Calls Tryz.prog 56 #[.agg #[.bool b, .slice a1 (dig b64 n).length c1, .slice a2 l2 c2]] w (RetBool (decide (n = 0)) w) := by
 have e : ((((dig b64 n).length : Nat) : Int) == 0) = decide (n = 0) := by
  rw [Bool.eq_iff_iff]
  simp only [beq_iff_eq, decide_eq_true_eq]
  rw [← dig_nil_iff b64_two n]
  constructor
  ·
   intro h; exact List.eq_nil_of_length_eq_zero (by omega)
  ·
   intro h; rw [h]; rfl
 rw [← e]
 clear e
 go_enter Tryz.func56, Tryz.ntmps56
 go_wp2_with fail
 go_ret
 exact ⟨rfl, (Below.refl _ _).alloc (Nat.le_refl _) _⟩

def sgnI (b : Bool) (n : Nat) : Int := if b then -1 else if n = 0 then 0 else 1

set_option maxHeartbeats 1000000 in
theorem sign_any (b : Bool) (a1 : Option Addr) (n c1 : Nat) (a2 : Option Addr) (l2 c2 : Nat) (w : World) :
  Calls Tryz.prog 38 #[.agg #[.bool b, .slice a1 (dig b64 n).length c1, .slice a2 l2 c2]] w (RetInt (sgnI b n) w) := by
 have hal : Below w.heap.size w (w.alloc (.cells #[.bool b, .slice a1 (dig b64 n).length c1, .slice a2 l2 c2] 54)) := (Below.refl _ _).alloc (Nat.le_refl _) _
 cases b with
 | true =>
  have Hs : Hid (sgnI true n = -1) := rfl
  go_enter Tryz.func38, Tryz.ntmps38
  go_wp2_with fail
  go_ret
  exact ⟨by rw [Hs.out]; rfl, hal⟩
 | false =>
  by_cases hn : n = 0
  ·
   have t : decide (n = 0) = true := by simp [hn]
   have Hs : Hid (sgnI false n = 0) := by show sgnI false n = 0; simp [sgnI, hn]
   clear hn
   go_enter Tryz.func38, Tryz.ntmps38
   go_wp2_with fail
   refine (zero_any _ _ n _ _ _ _ _).mono ?_
   rw [t]
   rintro e w' ⟨rfl, hb⟩
   go_wp2_with fail
   go_ret
   exact ⟨by rw [Hs.out]; rfl, ext_trans hal hb⟩
  ·
   have t : decide (n = 0) = false := by simp [hn]
   have Hs : Hid (sgnI false n = 1) := by show sgnI false n = 1; simp [sgnI, hn]
   clear hn
   go_enter Tryz.func38, Tryz.ntmps38
   go_wp2_with fail
   refine (zero_any _ _ n _ _ _ _ _).mono ?_
   rw [t]
   rintro e w' ⟨rfl, hb⟩
   go_wp2_with fail
   go_ret
   exact ⟨by rw [Hs.out]; rfl, ext_trans hal hb⟩


set_option maxHeartbeats 1000000 in
theorem int_any (n : Int) (w : World) (h1 : -9223372036854775808 ≤ n) (h2 : n ≤ 9223372036854775807) : Calls Tryz.prog 73 #[.int .i64 n] w (RetRat (n : Rat) w) := by
 have hal : Below w.heap.size w (w.alloc (.cells #[.bool false, .slice none 0 0, .slice none 0 0] 54)) := (Below.refl _ _).alloc (Nat.le_refl _) _
 have hB0 := blk_new w #[.bool false, .slice none 0 0, .slice none 0 0] 54
 go_enter Tryz.func73, Tryz.ntmps73
 go_wp2_with fail
 refine (size_any n _ h1 h2).mono ?_
 rintro e w3 ⟨v, rfl, hv, hb⟩
 have hx3 := ext_trans hal hb
 have hB3 := blk_keep hB0 hb (by simp)
 have Hv := Lib.hid hv
 obtain ⟨a1, c1, rfl, _⟩ := IsRow.opened hv
 clear hv hal hB0 hb
 have hBl := blk_lt hB3
 have c0 := blk_cell hB3 0 (.bool false) rfl
 have c1 := blk_cell hB3 1 (.slice none 0 0) rfl
 have c2 := blk_cell hB3 2 (.slice none 0 0) rfl
 have f0 := blk_frozen hB3 0
 have f1 := blk_frozen hB3 1
 have f2 := blk_frozen hB3 2
 have HB3 := Lib.hid hB3
 clear hB3
 go_wp2_with fail
 refine bodyPost_ret (v := .agg #[.bool (decide (n < 0)), .slice a1 (dig b64 n.natAbs).length _, .slice none 0 0]) (by simp [results, Tryz.results73, go_sem, c0, c1, c2]; first | done | exact ⟨rfl, rfl⟩ | rfl) rfl ⟨_, rfl, ?_, below_store3 hx3 (Nat.le_refl _)⟩
 refine ⟨_, _, rfl, ?_, ?_⟩
 ·
  exact store3 HB3.out Hv.out
 ·
  exact IsNat.zero _ _ _

end Go.Proofs.YtofijjomfhmbjaaGreat

namespace Go.Proofs.YtofijjomfhmbjaaGreat
open Go.RowKit

def RetRatE (q : Rat) (err : Int) (w : World) (e : Ending) (w' : World) : Prop :=
 ∃ v, e = .returned (.tuple #[v, .int .i64 err]) ∧ IsRat w' v q ∧ Below w.heap.size w w'

theorem new_plain (n d : Int) (hd : d ≠ 0) : mkQ (decide (n < 0) != decide (d < 0)) n.natAbs d.natAbs = (n : Rat) / (d : Rat) := by
 have hd' : (d : Rat) ≠ 0 := by simpa using hd
 have h1 : mkQ (decide (n < 0) != decide (d < 0)) n.natAbs d.natAbs = (sg (decide (n < 0) != decide (d < 0)) n.natAbs : Rat) / ((d.natAbs : Nat) : Rat) := by
  unfold mkQ; exact Rat.mkRat_eq_div _ _
 rw [h1]
 rcases Int.lt_or_le d 0 with hdn | hdn
 ·
  have e1 : ((d.natAbs : Nat) : Rat) = -(d : Rat) := by
   have : ((d.natAbs : Nat) : Int) = -d := by omega
   rw [← Rat.intCast_natCast, this, Rat.intCast_neg]
  rcases Int.lt_or_le n 0 with hnn | hnn
  ·
   have e2 : sg (decide (n < 0) != decide (d < 0)) n.natAbs = -n := by
    unfold sg; simp [hdn, hnn]; omega
   rw [e1, e2, Rat.intCast_neg]
   grind
  ·
   have e2 : sg (decide (n < 0) != decide (d < 0)) n.natAbs = -n := by
    have : ¬ n < 0 := by omega
    unfold sg; simp [hdn, this]; omega
   rw [e1, e2, Rat.intCast_neg]
   grind
 ·
  have e1 : ((d.natAbs : Nat) : Rat) = (d : Rat) := by
   have : ((d.natAbs : Nat) : Int) = d := by omega
   rw [← Rat.intCast_natCast, this]
  have hd2 : ¬ d < 0 := by omega
  rcases Int.lt_or_le n 0 with hnn | hnn
  ·
   have e2 : sg (decide (n < 0) != decide (d < 0)) n.natAbs = n := by
    unfold sg; simp [hd2, hnn]; omega
   rw [e1, e2]
  ·
   have e2 : sg (decide (n < 0) != decide (d < 0)) n.natAbs = n := by
    have : ¬ n < 0 := by omega
    unfold sg; simp [hd2, this]; omega
   rw [e1, e2]

end Go.Proofs.YtofijjomfhmbjaaGreat

namespace Go.Proofs.YtofijjomfhmbjaaGreat
open Go.RowKit

set_option maxHeartbeats 1000000 in
theorem divisor_any (m n : Nat) (va vb : Value) (w : World) (ha : IsNat .u32 b32 w va m) (hb : IsNat .u32 b32 w vb n) (hla : (dig b32 m).length ≤ 68719476736) (hlb : (dig b32 n).length ≤ 68719476736) :
  Calls Tryz.prog 82 #[va, vb] w (RetNat .u32 b32 (Nat.gcd m n) w) := by
 go_enter Tryz.func82, Tryz.ntmps82
 go_wp2_with fail
 go_loopg [0, 1] n (fun k av bv wr => ∃ x : Nat, IsNat .u32 b32 wr av x ∧ IsNat .u32 b32 wr bv k ∧ Hid (Nat.gcd x k = Nat.gcd m n) ∧ (dig b32 x).length ≤ 68719476736 ∧ (dig b32 k).length ≤ 68719476736 ∧ Below w.heap.size w wr)
 case atStart => exact ⟨m, ha, hb, rfl, hla, hlb, Below.refl _ _⟩
 case round =>
  clear ha hb hla hlb
  obtain ⟨x, ha, hb, hg, hla, hlb, hbel⟩ := hrel
  rcases Nat.eq_zero_or_pos gk with h0 | hp
  ·
   subst h0
   have hg' := hg.out
   rw [Nat.gcd_zero_right] at hg'
   rw [hg'] at ha
   have Ha := Lib.hid ha
   obtain ⟨ab, cb, rfl, _⟩ := IsRow.opened hb
   rw [dig_zero, List.length_nil]
   clear ha hb hg'
   go_wp2_with fail
   go_ret
   exact ⟨_, rfl, Ha.out, hbel⟩
  ·
   have hk0 : 0 < (dig b32 gk).length := by
    rcases Nat.eq_zero_or_pos (dig b32 gk).length with h0 | h0
    ·
     have := (dig_nil_iff b32_two gk).1 (List.eq_nil_of_length_eq_zero h0); omega
    ·
     exact h0
   have Ha := Lib.hid ha
   have Hb := Lib.hid hb
   obtain ⟨ab, cb, rfl, _⟩ := IsRow.opened hb
   have t1 : decide (((dig b32 gk).length : Int) > 0) = true := by simp; omega
   have Hp := Lib.hid hp
   clear ha hb hp
   go_wp2_with fail
   refine (quotient_any x gk _ _ _ Ha.out Hb.out (by have := Hp.out; omega) hla hlb).mono ?_
   rintro e w2 ⟨v1, v2, rfl, _, hv2, hb2⟩
   have hb0 := Hb.out.below hb2
   go_wp2_with fail
   go_roundg (x % gk)
   case measure => exact Nat.mod_lt _ Hp.out
   case rel => exact ⟨gk, hb0, hv2, by show Nat.gcd gk (x % gk) = Nat.gcd m n; rw [← hg.out, Nat.gcd_comm gk, ← Nat.gcd_rec, Nat.gcd_comm], hlb, Nat.le_trans (dig_length_mono b32_two (Nat.le_of_lt (Nat.mod_lt _ Hp.out))) hlb, ext_trans hbel hb2⟩

def IsDen (d' d : Nat) : Prop := d' = d ∨ (d' = 0 ∧ d = 1)

def IsR (w : World) (v : Value) (q : Rat) : Prop :=
 ∃ vn vd d', v = .agg #[.bool (decide (q.num < 0)), vn, vd] ∧ IsNat .u32 b32 w vn q.num.natAbs ∧ IsNat .u32 b32 w vd d' ∧ IsDen d' q.den
theorem IsR.below {w w' : World} {v : Value} {q : Rat} (h : IsR w v q) (hb : Below w.heap.size w w') : IsR w' v q := by
 obtain ⟨vn, vd, d', rfl, h1, h2, h3⟩ := h
 exact ⟨vn, vd, d', rfl, h1.below hb, h2.below hb, h3⟩
def RetR (q : Rat) (w : World) (e : Ending) (w' : World) : Prop := ∃ v, e = .returned v ∧ IsR w' v q ∧ Below w.heap.size w w'
theorem IsR.zero (w : World) : IsR w (.agg #[.bool false, .slice none 0 0, .slice none 0 0]) 0 :=
 ⟨_, _, 0, rfl, IsNat.zero _ _ _, IsNat.zero _ _ _, .inr ⟨rfl, rfl⟩⟩
theorem IsR.opened {w : World} {v : Value} {q : Rat} (h : IsR w v q) : ∃ d' a1 c1 a2 c2, v = .agg #[.bool (decide (q.num < 0)), .slice a1 (dig b32 q.num.natAbs).length c1, .slice a2 (dig b32 d').length c2] ∧
  IsNat .u32 b32 w (.slice a1 (dig b32 q.num.natAbs).length c1) q.num.natAbs ∧ IsNat .u32 b32 w (.slice a2 (dig b32 d').length c2) d' ∧ IsDen d' q.den := by
 obtain ⟨vn, vd, d', rfl, h1, h2, h3⟩ := h
 have h1' := h1
 have h2' := h2
 obtain ⟨a1, c1, rfl, _⟩ := IsRow.opened h1
 obtain ⟨a2, c2, rfl, _⟩ := IsRow.opened h2
 exact ⟨d', a1, c1, a2, c2, rfl, h1', h2', h3⟩

set_option maxHeartbeats 1000000 in
theorem qunder_any (d' d : Nat) (b : Bool) (a1 : Option Addr) (l1 c1 : Nat) (a2 : Option Addr) (c2 : Nat) (w : World) (h : IsNat .u32 b32 w (.slice a2 (dig b32 d').length c2) d') (hd : IsDen d' d) (hd0 : d ≠ 0) :
  Calls Tryz.prog 59 #[.agg #[.bool b, .slice a1 l1 c1, .slice a2 (dig b32 d').length c2]] w (RetNat .u32 b32 d w) := by
 have hal : Below w.heap.size w (w.alloc (.cells #[.bool b, .slice a1 l1 c1, .slice a2 (dig b32 d').length c2] 70)) := (Below.refl _ _).alloc (Nat.le_refl _) _
 by_cases h0 : d' = 0
 ·
  obtain rfl : d = 1 := by rcases hd with h | h; exact absurd (h.symm.trans h0) hd0; exact h.2
  subst h0
  clear h hd hd0
  go_enter Tryz.func59, Tryz.ntmps59
  go_wp2_with fail
  refine (nat_any 1 _ (by unfold b64; omega)).mono ?_
  rintro e w' ⟨v, rfl, hv, hb⟩
  go_wp2_with fail
  go_ret
  exact ⟨_, rfl, hv, ext_trans hal hb⟩
 ·
  obtain rfl : d' = d := by rcases hd with h | h; exact h; exact absurd h.1 h0
  have hl : ((dig b32 d').length : Int) ≠ 0 := fun h1 => h0 ((dig_nil_iff b32_two d').1 (List.eq_nil_of_length_eq_zero (by omega)))
  have hb : (((dig b32 d').length : Int) == 0) = false := beq_eq_false_iff_ne.2 hl
  have H := Lib.hid h
  clear h hd hd0 h0 hl
  go_enter Tryz.func59, Tryz.ntmps59
  go_wp2_with fail
  go_ret
  exact ⟨_, rfl, H.out.below hal, hal⟩

end Go.Proofs.YtofijjomfhmbjaaGreat

namespace Go.Proofs.YtofijjomfhmbjaaGreat
open Go.RowKit

theorem cmpN_one (g : Nat) (h : g ≤ 1) : decide (cmpN g 1 > 0) = false := cmpN_ngt (by omega)

set_option maxHeartbeats 2000000 in
theorem made_any (neg : Bool) (n d : Nat) (vn vd : Value) (w : World) (hn : IsNat .u32 b32 w vn n) (hd : IsNat .u32 b32 w vd d) (hd0 : 0 < d) (hla : (dig b32 n).length ≤ 68719476736) (hlb : (dig b32 d).length ≤ 68719476736) :
  Calls Tryz.prog 57 #[.bool neg, vn, vd] w (RetR (mkQ neg n d) w) := by
 have hal : Below w.heap.size w (w.alloc (.cells #[.bool false, .slice none 0 0, .slice none 0 0] 70)) := (Below.refl _ _).alloc (Nat.le_refl _) _
 have hB0 := blk_new w #[.bool false, .slice none 0 0, .slice none 0 0] 70
 by_cases hn0 : n = 0
 ·
  have Hn := Lib.hid hn0
  rw [hn0] at hn
  obtain ⟨ao, cap, rfl, _⟩ := IsRow.opened hn
  rw [dig_zero, List.length_nil]
  clear hn hn0 hla
  go_enter Tryz.func57, Tryz.ntmps57
  go_wp2_with fail
  have hal2 := hal.alloc hal.size (.cells #[] 144)
  refine (nat_any 1 _ (by unfold b64; omega)).mono ?_
  rintro e w1 ⟨v, rfl, hv, hb⟩
  have hx := hal2.trans (hb.mono hal2.size)
  have hB1 : (w1.heap[w.heap.size]? = _) := (hb.block w.heap.size (by simp; omega)).trans ((heap_alloc_old _ _ (by simp)).trans hB0)
  obtain ⟨a1, c1, rfl, _⟩ := IsRow.opened hv
  have hBl := blk_lt hB1
  have c0 := blk_cell hB1 0 (.bool false) rfl
  have c1 := blk_cell hB1 1 (.slice none 0 0) rfl
  have c2 := blk_cell hB1 2 (.slice none 0 0) rfl
  have f0 := blk_frozen hB1 0
  have f1 := blk_frozen hB1 1
  have f2 := blk_frozen hB1 2
  have HB := Lib.hid hB1
  have Hv := Lib.hid hv
  clear hB1 hv hb hal hal2 hB0
  go_wp2_with fail
  refine bodyPost_ret (v := .agg #[.bool false, .slice (some ⟨w.heap.size + 1, 0, none⟩) 0 0, .slice a1 (dig b32 1).length _]) (by simp [results, Tryz.results57, go_sem, c0, c1, c2]; first | done | exact ⟨rfl, rfl⟩ | rfl) rfl ⟨_, rfl, ?_, below_store3 hx (Nat.le_refl _)⟩
  rw [Hn.out, mkQ_zero]
  refine ⟨_, _, 1, rfl, ?_, store3 HB.out Hv.out, .inl rfl⟩
  exact .inl ⟨rfl, _, _, rfl, by unfold maxLen; omega, fun _ => rfl⟩
 ·
  have hg0 : 0 < Nat.gcd n d := Nat.gcd_pos_of_pos_right n hd0
  have Hneg := Lib.hid (mkQ_neg neg n d hd0 hn0)
  have Hnum := Lib.hid (mkQ_num neg n d hd0)
  have Hden := Lib.hid (mkQ_den neg n d hd0)
  have hl : ((dig b32 n).length : Int) ≠ 0 := fun h0 => by
   have := (dig_nil_iff b32_two n).1 (List.eq_nil_of_length_eq_zero (by omega)); omega
  have hlb0 : (((dig b32 n).length : Int) == 0) = false := beq_eq_false_iff_ne.2 hl
  have Hn := Lib.hid hn
  have Hd := Lib.hid hd
  obtain ⟨ao, cap, rfl, _⟩ := IsRow.opened hn
  have Hg0 := Lib.hid hg0
  have hlg : Hid ((dig b32 (Nat.gcd n d)).length ≤ 68719476736) := Nat.le_trans (dig_length_mono b32_two (Nat.gcd_le_right n hd0)) hlb
  generalize hq : mkQ neg n d = q at *
  clear hn hd hl hq hn0 hg0 hd0
  go_enter Tryz.func57, Tryz.ntmps57
  go_wp2_with fail
  refine (divisor_any n d _ _ _ (Hn.out.below hal) (Hd.out.below hal) hla hlb).mono ?_
  rintro e w1 ⟨vg, rfl, hvg, hb1⟩
  have hx1 := ext_trans hal hb1
  have hB1 := blk_keep hB0 hb1 (by simp)
  have Hvg := Lib.hid hvg
  clear hal hB0 hb1 hvg
  go_wp2_with fail
  refine (nat_any 1 _ (by unfold b64; omega)).mono ?_
  rintro e w2 ⟨v1, rfl, hv1, hb2⟩
  have hx2 := ext_trans hx1 hb2
  have hB2 := blk_keep hB1 hb2 (blk_lt hB1)
  have Hvg2 := Lib.hid (Hvg.out.below hb2)
  have Hv1 := Lib.hid hv1
  clear hx1 hB1 hb2 hv1
  go_wp2_with fail
  refine (order_any (Nat.gcd n d) 1 _ _ w2 Hvg2.out Hv1.out).mono ?_
  rintro e w' ⟨rfl, nq, rfl⟩
  have hx2' : Below w.heap.size w (w2.drewN nq) := below_dn hx2 nq
  have hB2' : (w2.drewN nq).heap[w.heap.size]? = some (.cells #[.bool false, .slice none 0 0, .slice none 0 0] 70 (0, 0)) := hB2
  have Hvg2' : Hid (IsNat .u32 b32 (w2.drewN nq) vg (Nat.gcd n d)) := Hvg2.out
  clear hx2 hB2
  by_cases hg1 : Nat.gcd n d = 1
  ·
   have t1 : decide (cmpN (Nat.gcd n d) 1 > 0) = false := cmpN_one _ (by omega)
   generalize cmpN (Nat.gcd n d) 1 = c at *
   have Hg1 := Lib.hid hg1
   clear hg1
   have HB := Lib.hid hB2'
   have hBl := blk_lt hB2'
   obtain ⟨ad, cd, rfl, _⟩ := IsRow.opened Hd.out
   have c0 := blk_cell hB2' 0 (.bool false) rfl
   have c1 := blk_cell hB2' 1 (.slice none 0 0) rfl
   have c2 := blk_cell hB2' 2 (.slice none 0 0) rfl
   have f0 := blk_frozen hB2' 0
   have f1 := blk_frozen hB2' 1
   have f2 := blk_frozen hB2' 2
   clear hB2'
   go_wp2_with fail
   refine bodyPost_ret (v := .agg #[.bool neg, .slice ao (dig b32 n).length cap, .slice ad (dig b32 d).length cd]) (by simp [results, Tryz.results57, go_sem, c0, c1, c2]; first | done | exact ⟨rfl, rfl⟩ | rfl) rfl ⟨_, rfl, ?_, below_store3 hx2' (Nat.le_refl _)⟩
   refine ⟨_, _, d, by rw [Hneg.out], ?_, ?_, ?_⟩
   ·
    rw [Hnum.out, Hg1.out, Nat.div_one]; exact store3 HB.out (Hn.out.below hx2')
   ·
    exact store3 HB.out (Hd.out.below hx2')
   ·
    rw [Hden.out, Hg1.out, Nat.div_one]; exact .inl rfl
  ·
   have t1 : decide (cmpN (Nat.gcd n d) 1 > 0) = true := cmpN_gt (by have := Hg0.out; omega)
   generalize cmpN (Nat.gcd n d) 1 = c at *
   clear hg1
   go_wp2_with fail
   refine (quotient_any n _ _ _ _ (Hn.out.below hx2') Hvg2'.out (by have := Hg0.out; omega) hla hlg.out).mono ?_
   rintro e w3 ⟨v3, v4, rfl, hv3, _, hb3⟩
   have hx3 := ext_trans hx2' hb3
   have hB3 := blk_keep hB2' hb3 (blk_lt hB2')
   have Hvg3 := Lib.hid (Hvg2'.out.below hb3)
   have Hv3 := Lib.hid hv3
   clear hx2' hB2' hv3 hb3
   go_wp2_with fail
   refine (quotient_any d _ _ _ _ (Hd.out.below hx3) Hvg3.out (by have := Hg0.out; omega) hlb hlg.out).mono ?_
   rintro e w4 ⟨v5, v6, rfl, hv5, _, hb4⟩
   have hx4 := ext_trans hx3 hb4
   have hB4 := blk_keep hB3 hb4 (blk_lt hB3)
   have Hv34 := Lib.hid (Hv3.out.below hb4)
   have Hv5 := Lib.hid hv5
   obtain ⟨a3, c3, rfl, _⟩ := IsRow.opened Hv34.out
   obtain ⟨a5, c5, rfl, _⟩ := IsRow.opened Hv5.out
   clear hx3 hB3 hv5 hb4
   have HB := Lib.hid hB4
   have hBl := blk_lt hB4
   have c0 := blk_cell hB4 0 (.bool false) rfl
   have c1 := blk_cell hB4 1 (.slice none 0 0) rfl
   have c2 := blk_cell hB4 2 (.slice none 0 0) rfl
   have f0 := blk_frozen hB4 0
   have f1 := blk_frozen hB4 1
   have f2 := blk_frozen hB4 2
   clear hB4
   go_wp2_with fail
   refine bodyPost_ret (v := .agg #[.bool neg, .slice a3 (dig b32 (n / Nat.gcd n d)).length c3, .slice a5 (dig b32 (d / Nat.gcd n d)).length c5]) (by simp [results, Tryz.results57, go_sem, c0, c1, c2]; first | done | exact ⟨rfl, rfl⟩ | rfl) rfl ⟨_, rfl, ?_, below_store3 hx4 (Nat.le_refl _)⟩
   refine ⟨_, _, d / Nat.gcd n d, by rw [Hneg.out], ?_, ?_, ?_⟩
   ·
    rw [Hnum.out]; exact store3 HB.out Hv34.out
   ·
    exact store3 HB.out Hv5.out
   ·
    rw [Hden.out]; exact .inl rfl

set_option maxHeartbeats 1000000 in
theorem magnitude_any (n : Int) (w : World) (h1 : -9223372036854775808 ≤ n) (h2 : n ≤ 9223372036854775807) : Calls Tryz.prog 88 #[.int .i64 n] w (RetNat .u32 b32 n.natAbs w) := by
 have hb : n.natAbs < b64 := by unfold b64; omega
 by_cases hn : n < 0
 ·
  have e1 : IntKind.u64.wrap (-(IntKind.u64.wrap n)) = ((n.natAbs : Nat) : Int) := by
   rw [IntKind.wrap_u64, IntKind.wrap_u64]; omega
  go_enter Tryz.func88, Tryz.ntmps88
  go_wp2_with fail
  refine (nat_any n.natAbs _ hb).mono ?_
  rintro e w' ⟨v, rfl, hv, hb'⟩
  go_wp2_with fail
  go_ret
  exact ⟨_, rfl, hv, hb'⟩
 ·
  have e1 : IntKind.u64.wrap n = ((n.natAbs : Nat) : Int) := by
   rw [IntKind.wrap_u64]; omega
  go_enter Tryz.func88, Tryz.ntmps88
  go_wp2_with fail
  refine (nat_any n.natAbs _ hb).mono ?_
  rintro e w' ⟨v, rfl, hv, hb'⟩
  go_wp2_with fail
  go_ret
  exact ⟨_, rfl, hv, hb'⟩

end Go.Proofs.YtofijjomfhmbjaaGreat

namespace Go.Proofs.YtofijjomfhmbjaaGreat
open Go.RowKit

theorem natAbs_short32 (n : Int) (h1 : -9223372036854775808 ≤ n) (h2 : n ≤ 9223372036854775807) : (dig b32 n.natAbs).length ≤ 2 := dig_length_le b32_two 2 _ (by unfold b32; omega)
theorem dig32_one : (dig b32 1).length ≤ 1 := dig_length_le b32_two 1 _ (by unfold b32; omega)
theorem mkQ_int (n : Int) : mkQ (decide (n < 0)) n.natAbs 1 = (n : Rat) := by
 have h := rat_eq (n : Rat)
 simp only [Rat.num_intCast, Rat.den_intCast] at h
 exact h.symm

set_option maxHeartbeats 1000000 in
theorem qint_any (n : Int) (w : World) (h1 : -9223372036854775808 ≤ n) (h2 : n ≤ 9223372036854775807) : Calls Tryz.prog 62 #[.int .i64 n] w (RetR (n : Rat) w) := by
 have hal : Below w.heap.size w (w.alloc (.cells #[.bool false, .slice none 0 0, .slice none 0 0] 70)) := (Below.refl _ _).alloc (Nat.le_refl _) _
 have hB0 := blk_new w #[.bool false, .slice none 0 0, .slice none 0 0] 70
 have Hq := Lib.hid (mkQ_int n)
 go_enter Tryz.func62, Tryz.ntmps62
 go_wp2_with fail
 refine (magnitude_any n _ h1 h2).mono ?_
 rintro e w1 ⟨v1, rfl, hv1, hb1⟩
 have hx1 := ext_trans hal hb1
 have hB1 := blk_keep hB0 hb1 (by simp)
 go_wp2_with fail
 refine (nat_any 1 _ (by unfold b64; omega)).mono ?_
 rintro e w2 ⟨v2, rfl, hv2, hb2⟩
 have hx2 := ext_trans hx1 hb2
 have hB2 := blk_keep hB1 hb2 (blk_lt hB1)
 go_wp2_with fail
 refine (made_any _ n.natAbs 1 _ _ _ (hv1.below hb2) hv2 (by omega) (by have := natAbs_short32 n h1 h2; omega) (by have := dig32_one; omega)).mono ?_
 rintro e w3 ⟨v, rfl, hv, hb⟩
 rw [Hq.out] at hv
 have hx3 := ext_trans hx2 hb
 have hB3 := blk_keep hB2 hb (blk_lt hB2)
 obtain ⟨d', a1, c1, a2, c2, rfl, hn', hd', hden⟩ := hv.opened
 generalize (n : Rat) = q at *
 clear hv1 hv2 hv hb hb1 hb2 hx1 hx2 hal hB0 hB1 hB2
 have hBl := blk_lt hB3
 have c0 := blk_cell hB3 0 (.bool false) rfl
 have c1 := blk_cell hB3 1 (.slice none 0 0) rfl
 have c2 := blk_cell hB3 2 (.slice none 0 0) rfl
 have f0 := blk_frozen hB3 0
 have f1 := blk_frozen hB3 1
 have f2 := blk_frozen hB3 2
 have HB := Lib.hid hB3
 clear hB3
 go_wp2_with fail
 refine bodyPost_ret (v := .agg #[.bool (decide (q.num < 0)), .slice a1 (dig b32 q.num.natAbs).length _, .slice a2 (dig b32 d').length _]) (by simp [results, Tryz.results62, go_sem, c0, c1, c2]; first | done | exact ⟨rfl, rfl⟩ | rfl) rfl ⟨_, rfl, ?_, below_store3 hx3 (Nat.le_refl _)⟩
 exact ⟨_, _, d', rfl, store3 HB.out hn', store3 HB.out hd', hden⟩

set_option maxHeartbeats 1000000 in
theorem qzero_any (b : Bool) (a1 : Option Addr) (n c1 : Nat) (a2 : Option Addr) (l2 c2 : Nat) (w : World) :
  Calls Tryz.prog 40 #[.agg #[.bool b, .slice a1 (dig b32 n).length c1, .slice a2 l2 c2]] w (RetBool (decide (n = 0)) w) := by
 have e : ((((dig b32 n).length : Nat) : Int) == 0) = decide (n = 0) := by
  rw [Bool.eq_iff_iff]
  simp only [beq_iff_eq, decide_eq_true_eq]
  rw [← dig_nil_iff b32_two n]
  constructor
  ·
   intro h; exact List.eq_nil_of_length_eq_zero (by omega)
  ·
   intro h; rw [h]; rfl
 rw [← e]
 clear e
 go_enter Tryz.func40, Tryz.ntmps40
 go_wp2_with fail
 go_ret
 exact ⟨rfl, (Below.refl _ _).alloc (Nat.le_refl _) _⟩

set_option maxHeartbeats 1000000 in
theorem qsign_any (b : Bool) (a1 : Option Addr) (n c1 : Nat) (a2 : Option Addr) (l2 c2 : Nat) (w : World) (hbn : b = true → n ≠ 0) :
  Calls Tryz.prog 22 #[.agg #[.bool b, .slice a1 (dig b32 n).length c1, .slice a2 l2 c2]] w (RetInt (sgnI b n) w) := by
 have hal : Below w.heap.size w (w.alloc (.cells #[.bool b, .slice a1 (dig b32 n).length c1, .slice a2 l2 c2] 70)) := (Below.refl _ _).alloc (Nat.le_refl _) _
 by_cases hn : n = 0
 ·
  obtain rfl : b = false := by cases b; rfl; exact absurd hn (hbn rfl)
  have t : decide (n = 0) = true := by simp [hn]
  have Hs : Hid (sgnI false n = 0) := by show sgnI false n = 0; simp [sgnI, hn]
  clear hn hbn
  go_enter Tryz.func22, Tryz.ntmps22
  go_wp2_with fail
  refine (qzero_any _ _ n _ _ _ _ _).mono ?_
  rw [t]
  rintro e w' ⟨rfl, hb⟩
  go_wp2_with fail
  go_ret
  exact ⟨by rw [Hs.out]; rfl, ext_trans hal hb⟩
 ·
  have t : decide (n = 0) = false := by simp [hn]
  have Hs : Hid (sgnI b n = if b then -1 else 1) := by show sgnI b n = if b then -1 else 1; cases b <;> simp [sgnI, hn]
  have hB0 := blk_new w #[.bool b, .slice a1 (dig b32 n).length c1, .slice a2 l2 c2] 70
  clear hn hbn
  go_enter Tryz.func22, Tryz.ntmps22
  go_wp2_with fail
  refine (qzero_any _ _ n _ _ _ _ _).mono ?_
  rw [t]
  rintro e w' ⟨rfl, hb⟩
  have hx := ext_trans hal hb
  have hB1 := blk_keep hB0 hb (by simp)
  have c0 := blk_cell hB1 0 (.bool b) rfl
  clear hB0 hB1 hal hb
  cases b with
  | true =>
   go_wp2_with fail
   go_ret
   exact ⟨by rw [Hs.out]; rfl, hx⟩
  | false =>
   go_wp2_with fail
   go_ret
   exact ⟨by rw [Hs.out]; rfl, hx⟩

end Go.Proofs.YtofijjomfhmbjaaGreat
