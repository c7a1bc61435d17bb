/- Part b of the lemmas and walks. -/
import Derived.Test.YtofijjomfhmbjaaGreatAa

namespace Go.Proofs.YtofijjomfhmbjaaGreat
open Go.RowKit

theorem mid_row {w : World} {g : Nat} {e : TypeId} {pre u post : List Nat} (h : Own w g .u64 e (pre ++ u ++ post)) (cap : Nat) (h1 : u.length ≤ cap) (h2 : cap ≤ maxLen) (h0 : 0 < u.length) :
  IsRow .u64 w (.slice (some ⟨g, pre.length, none⟩) u.length cap) u := by
 refine .inr ⟨h0, g, pre.length, cap, rfl, h1, h2, h.lt, fun j hj => ?_⟩
 rw [h.cell (pre.length + j) (by simp; omega)]
 congr 2
 have : (pre ++ u ++ post).getD (pre.length + j) 0 = u.getD j 0 := by
  simp [List.getElem?_append_right, List.getElem?_append_left, hj]
 rw [this]

def tkOk (a b : Nat) : Bool := decide (a ≤ b)
def tkVal (a b : Nat) : Nat := if a ≤ b then b - a else b

set_option maxRecDepth 100000 in
set_option maxHeartbeats 2000000 in
theorem take_any (pre u post dv : List Nat) (bu capu bv offv capv q : Nat) (w : World) (hown : Own w bu .u64 103 (pre ++ u ++ post))
  (hlen : u.length = dv.length + 1) (hu : Dgs b64 u) (hv : Dgs b64 dv) (hq : q < b64) (hcap : u.length ≤ capu) (hcap2 : capu ≤ maxLen) (hne : bv ≠ bu) (hbv : bv < w.heap.size)
  (hcv : ∀ j, j < dv.length → w.cell? ⟨bv, offv + j, none⟩ = some (.int .u64 (dv.getD j 0 : Nat))) (hsz : dv.length ≤ 1099511627776) (hsz2 : pre.length ≤ 1099511627776) :
  Calls Tryz.prog 115 #[.slice (some ⟨bu, pre.length, none⟩) (dv.length + 1) capu, .slice (some ⟨bv, offv, none⟩) dv.length capv, .int .u64 q] w
   (RetMid w bu 103 pre (tkVal (lv b64 dv * q) (lv b64 u)) (dv.length + 1) post (.bool (tkOk (lv b64 dv * q) (lv b64 u)))) := by
 have Hcap := Lib.hid hcap
 have Hcap2 := Lib.hid hcap2
 have Hq := Lib.hid hq
 have Hown := Lib.hid hown
 have hbul := hown.lt
 clear hcap hcap2 hq hown
 obtain ⟨i0, hi, hz0, hz1, hz2⟩ := info_parts info_u64
 have Hlen := Lib.hid hlen
 clear hlen
 go_enter Tryz.func115, Tryz.ntmps115
 go_wp2_with (at_make; refine wpList_make_full _ rfl _ _ 52 rfl w.heap.size 103 i0 (.int .u64 0) 1 Tryz.underlying52 hi hz0 hz1 _ _ _ _ (dv.length + 1) rfl rfl (by omega) (by omega) (by rw [hz2]; omega) (by unfold maxLen; omega) (by omega) ?_)
 intro w1 hwn hgrow
 have ho := Own.of_made hwn
 have hbel := (Below.refl w.heap.size w).grown hgrow (Nat.le_refl _) (by simp)
 clear hwn hgrow hi hz0 hz1 hz2
 go_wp2_with fail
 go_loopw [8, 22] (fun cv kv wr => ∃ (k : Nat) (o : List Nat) (c : Nat), k ≤ dv.length ∧ kv = .int .i64 k ∧ cv = .int .u64 c ∧ Own wr w.heap.size .u64 103 o ∧ Hid (ScIn dv q k o c) ∧ Below w.heap.size w wr)
  (fun _ kv _ => dv.length - (intOf kv).toNat)
 case atStart => exact ⟨0, _, 0, Nat.zero_le _, rfl, rfl, ho, ScIn.start dv q, hbel⟩
 case round =>
  clear ho hbel
  obtain ⟨k, o, c, hkl, rfl, rfl, ho, hM, hbel⟩ := hrel
  by_cases hlt : k < dv.length
  ·
   have hca : wr.cell? ⟨bv, offv + k, none⟩ = some (.int .u64 (dv.getD k 0 : Nat)) := (hbel.cell (p := ⟨bv, offv + k, none⟩) hbv).trans (hcv k hlt)
   have hco := ho.cell k (by rw [hM.out.len]; omega)
   have hfo := ho.frozen k
   have Hstep := Lib.hid (hM.out.step hv Hq.out hlt)
   have hss := sc_step (dv.getD k 0) q c (hv.getD b64_pos k) Hq.out hM.out.car
   have Hx : Hid (dv.getD k 0 < b64) := hv.getD b64_pos k
   obtain ⟨x, hx⟩ : ∃ x, x = dv.getD k 0 := ⟨_, rfl⟩
   rw [← hx] at hca Hx hss
   have HX := Lib.hid hx
   clear hx
   have hb1 := hss.2
   unfold b64 at hb1
   clear hss
   have hadd := run_Add64_0
   go_wp2_with fail
   refine (mul64_any x q _ Hx.out Hq.out).mono ?_
   rintro e w' ⟨rfl, rfl⟩
   go_wp2_with fail
   refine ⟨⟨k + 1, _, mulHi x q + addHi (mulLo x q) c 0, by omega, by go_num, by go_num, ho.store _ _, ?_, hbel.setCell (p := ⟨w.heap.size, k, none⟩) (Nat.le_refl _) _⟩, meas_up hlt⟩
   rw [HX.out]
   exact Hstep.out
  ·
   obtain rfl : k = dv.length := by omega
   clear hlt hkl
   have hco := ho.cell dv.length (by rw [hM.out.len]; omega)
   have hfo := ho.frozen dv.length
   have hdn := hM.out.done
   have hol : (o.set dv.length c).length = dv.length + 1 := by simp [hM.out.len]
   have ho2 := ho.store dv.length c
   have hbel2 := hbel.setCell (p := ⟨w.heap.size, dv.length, none⟩) (Nat.le_refl _) (.int .u64 c)
   have Ho2 := Lib.hid ho2
   have Hbel2 := Lib.hid hbel2
   have Hdn := Lib.hid hdn
   have Hol := Lib.hid hol
   clear ho2 hbel2 hdn hol ho hbel hM
   go_wp2_with fail
   generalize wr.setCell ⟨w.heap.size, dv.length, none⟩ (.int .u64 (c : Nat)) = W at *
   have hB := Hbel2.out
   have hoU : Own W bu .u64 103 (pre ++ u ++ post) := Hown.out.below hB hbul
   have hoP := Ho2.out
   generalize o.set dv.length c = p at *
   have hrU := mid_row hoU capu Hcap.out Hcap2.out (by rw [Hlen.out]; omega)
   rw [Hlen.out] at hrU
   have hrP := hoP.isRow (by unfold maxLen; rw [Hol.out]; omega)
   rw [Hol.out] at hrP
   clear hco hfo Ho2 Hbel2
   refine (cut_any u _ _ hrU hu).mono ?_
   rintro e w' ⟨vU, rfl, hvU, rfl⟩
   go_wp2_with fail
   refine (cut_any p _ _ hrP Hdn.out.2).mono ?_
   rintro e w' ⟨vP, rfl, hvP, rfl⟩
   go_wp2_with fail
   refine (cmp_any _ _ _ _ _ hvU hvP).mono ?_
   rintro e w' ⟨rfl, nq, rfl⟩
   rw [Hdn.out.1]
   by_cases hle : lv b64 dv * q ≤ lv b64 u
   ·
    have Hle := Lib.hid hle
    have hcm : ¬ cmpN (lv b64 u) (lv b64 dv * q) < 0 := by unfold cmpN; split <;> (try split) <;> omega
    have hok : tkOk (lv b64 dv * q) (lv b64 u) = true := by simp [tkOk, hle]
    have hval : tkVal (lv b64 dv * q) (lv b64 u) = lv b64 u - lv b64 dv * q := by simp [tkVal, hle]
    have Hok := Lib.hid hok
    have Hval := Lib.hid hval
    generalize cmpN (lv b64 u) (lv b64 dv * q) = cm at *
    clear hle hok hval hvU hvP hrU hrP
    have HB := Lib.hid hB
    clear hB
    go_wp2_with fail
    go_loopw [14, 59] (fun bv' kv wr => ∃ (k : Nat) (x : List Nat) (b : Nat), k ≤ dv.length + 1 ∧ kv = .int .i64 k ∧ bv' = .int .u64 b ∧ Own wr bu .u64 103 (pre ++ (x ++ u.drop k) ++ post) ∧
      Own wr w.heap.size .u64 103 p ∧ Hid (DfIn u p k x b) ∧ w.grownBy wr (some bu))
     (fun _ kv _ => dv.length + 1 - (intOf kv).toNat)
    case atStart => exact ⟨0, [], 0, Nat.zero_le _, rfl, rfl, by simpa using hoU.drewN nq, hoP.drewN nq, DfIn.start u p, grownBy_dn (grownBy_below HB.out _) _⟩
    case round =>
     clear hoU hoP HB
     obtain ⟨k, x, b, hkl, rfl, rfl, hoU, hoP, hD, hgr⟩ := hrel
     by_cases hlt : k < dv.length + 1
     ·
      have hku : k < u.length := by rw [Hlen.out]; exact hlt
      have hlen1 : pre.length + k < (pre ++ (x ++ u.drop k) ++ post).length := by simp [hD.out.len]; omega
      have hcu := hoU.cell (pre.length + k) hlen1
      rw [getD_mid pre x u k post hD.out.len hku] at hcu
      have hfu := hoU.frozen (pre.length + k)
      have hcp := hoP.cell k (by rw [Hol.out]; exact hlt)
      have Hstep := Lib.hid (hD.out.step hu Hdn.out.2 (by rw [Hlen.out, Hol.out]) hku)
      have hbor := hD.out.bor
      obtain ⟨y, hy⟩ : ∃ y, y = u.getD k 0 := ⟨_, rfl⟩
      obtain ⟨z, hz⟩ : ∃ z, z = p.getD k 0 := ⟨_, rfl⟩
      rw [← hy] at hcu
      rw [← hz] at hcp
      have HY := Lib.hid hy
      have HZ := Lib.hid hz
      clear hy hz hlen1 hku
      have hsub := fun (W : World) => run_Sub64 y z b hbor W
      go_wp2_with fail
      go_region
      go_wp2_with fail
      refine ⟨⟨k + 1, x ++ [subLo y z b], subHi y z b, by omega, by go_num, by go_num, ?_, ?_, ?_, grownBy_dr (grownBy_set hgr _ _)⟩, meas_up hlt⟩
      ·
       have := (hoU.store (pre.length + k) (subLo y z b)).drew
       rw [set_mid pre x u k post hD.out.len (by rw [Hlen.out]; exact hlt)] at this
       exact this
      ·
       exact (hoP.other (a := ⟨bu, pre.length + k, none⟩) (by show bu ≠ w.heap.size; omega) _).drew
      ·
       rw [HY.out, HZ.out]; exact Hstep.out
     ·
      obtain rfl : k = dv.length + 1 := by omega
      go_wp2_with fail
      go_ret
      have hd := hD.out
      rw [← Hlen.out] at hd
      have hfin := hd.done (by rw [Hlen.out, Hol.out]) (by rw [Hdn.out.1]; exact Hle.out)
      rw [Hdn.out.1] at hfin
      refine ⟨x, by rw [Hok.out]; rfl, by rw [hd.len, Hlen.out], hd.dgs, by rw [Hval.out]; exact hfin, ?_, hgr⟩
      rw [List.drop_of_length_le (by rw [Hlen.out]; exact Nat.le_refl _), List.append_nil] at hoU
      exact hoU
   ·
    have hcm : cmpN (lv b64 u) (lv b64 dv * q) < 0 := by
     have : lv b64 u < lv b64 dv * q := by omega
     unfold cmpN; rw [if_pos this]; omega
    have hok : tkOk (lv b64 dv * q) (lv b64 u) = false := by simp [tkOk]; omega
    have hval : tkVal (lv b64 dv * q) (lv b64 u) = lv b64 u := by simp [tkVal, hle]
    have Hok := Lib.hid hok
    have Hval := Lib.hid hval
    generalize cmpN (lv b64 u) (lv b64 dv * q) = cm at *
    clear hle hok hval hvU hvP hrU hrP
    have HB := Lib.hid hB
    clear hB
    go_wp2_with fail
    go_ret
    exact ⟨u, by rw [Hok.out]; rfl, Hlen.out, hu, by rw [Hval.out], hoU.drewN nq, grownBy_dn (grownBy_below HB.out _) _⟩

end Go.Proofs.YtofijjomfhmbjaaGreat

namespace Go.Proofs.YtofijjomfhmbjaaGreat
open Go.RowKit

structure DigNums (u v : List Nat) (un u1 u2 v1 v2 : Nat) : Prop where
 lo : ∃ c, lv b64 u = ((un * b64 + u1) * b64 + u2) * b64 ^ (v.length - 2) + c ∧ c < b64 ^ (v.length - 2)
 hi : ∃ d, lv b64 v = (v1 * b64 + v2) * b64 ^ (v.length - 2) + d

theorem lv_top (ds : List Nat) (k : Nat) (hk : k < ds.length) : lv b64 (ds.take (k + 1)) = ds.getD k 0 * b64 ^ k + lv b64 (ds.take k) := by
 rw [lv_take_succ b64 ds k hk, Nat.mul_comm (b64 ^ k), Nat.add_comm]

theorem digNums (u v : List Nat) (hv2 : 2 ≤ v.length) (hlen : u.length = v.length + 1) (hu : Dgs b64 u) :
  DigNums u v (u.getD v.length 0) (u.getD (v.length - 1) 0) (u.getD (v.length - 2) 0) (v.getD (v.length - 1) 0) (v.getD (v.length - 2) 0) := by
 obtain ⟨n, hn⟩ : ∃ n, v.length = n + 2 := ⟨v.length - 2, by omega⟩
 have e1 : v.length - 1 = n + 1 := by omega
 have e2 : v.length - 2 = n := by omega
 constructor
 ·
  refine ⟨lv b64 (u.take n), ?_, ?_⟩
  ·
   have hful : lv b64 u = lv b64 (u.take (n + 2 + 1)) := by rw [List.take_of_length_le (by omega)]
   rw [e1, e2, hn, hful, lv_top u (n + 2) (by omega), lv_top u (n + 1) (by omega), lv_top u n (by omega)]
   rw [Nat.add_mul, Nat.add_mul, Nat.add_mul, Nat.pow_succ, Nat.pow_succ]
   have f1 : u.getD (n + 2) 0 * (b64 ^ n * b64 * b64) = u.getD (n + 2) 0 * b64 * b64 * b64 ^ n := by ac_rfl
   have f2 : u.getD (n + 1) 0 * (b64 ^ n * b64) = u.getD (n + 1) 0 * b64 * b64 ^ n := by ac_rfl
   rw [f1, f2]
   omega
  ·
   have := lv_lt (hu.take n)
   have e : (u.take n).length = n := by simp; omega
   rw [e] at this
   rw [e2]; exact this
 ·
  refine ⟨lv b64 (v.take n), ?_⟩
  have hful : lv b64 v = lv b64 (v.take (n + 1 + 1)) := by rw [List.take_of_length_le (by omega)]
  rw [e1, e2, hful, lv_top v (n + 1) (by omega), lv_top v n (by omega)]
  rw [Nat.add_mul, Nat.pow_succ]
  have f2 : v.getD (n + 1) 0 * (b64 ^ n * b64) = v.getD (n + 1) 0 * b64 * b64 ^ n := by ac_rfl
  rw [f2]
  omega

theorem quo_top {U V a b P c d Q : Nat} (hU : U = a * P + c) (hc : c < P) (hV : V = b * P + d) (hQ : Q * V ≤ U) : Q * b ≤ a := by
 have h1 : Q * b * P ≤ Q * V := by rw [hV, Nat.mul_add, Nat.mul_assoc]; omega
 have h2 : Q * b * P < (a + 1) * P := by rw [Nat.add_mul, Nat.one_mul]; omega
 have := Nat.lt_of_mul_lt_mul_right h2
 omega

theorem DigNums.three {u v : List Nat} {un u1 u2 v1 v2 Q : Nat} (h : DigNums u v un u1 u2 v1 v2) (hQ : Q * lv b64 v ≤ lv b64 u) : Q * (v1 * b64 + v2) ≤ (un * b64 + u1) * b64 + u2 := by
 obtain ⟨c, e1, hc⟩ := h.lo
 obtain ⟨d, e2⟩ := h.hi
 exact quo_top e1 hc e2 hQ

theorem DigNums.two {u v : List Nat} {un u1 u2 v1 v2 Q : Nat} (h : DigNums u v un u1 u2 v1 v2) (hu2 : u2 < b64) (hQ : Q * lv b64 v ≤ lv b64 u) : Q * v1 ≤ un * b64 + u1 :=
 quo_top (U := (un * b64 + u1) * b64 + u2) (V := v1 * b64 + v2) rfl hu2 rfl (h.three hQ)

structure Gs (un u1 v1 Q x r : Nat) : Prop where
 eq : x * v1 + r = un * b64 + u1
 le : Q ≤ x
 lt : x < b64

theorem Gs.first {un u1 v1 Q : Nat} (hv : un < v1) (hu1 : u1 < b64) (hQ : Q * v1 ≤ un * b64 + u1) : Gs un u1 v1 Q (divQ un u1 v1) (divR un u1 v1) := by
 have hp : 0 < v1 := by omega
 refine ⟨by unfold divQ divR; rw [Nat.mul_comm]; exact Nat.div_add_mod _ _, ?_, divQ_lt _ _ _ hp hu1 hv⟩
 unfold divQ
 rw [Nat.le_div_iff_mul_le hp]
 exact hQ

theorem Gs.less {un u1 u2 v1 v2 Q x r : Nat} (h : Gs un u1 v1 Q x r) (hQ : Q * (v1 * b64 + v2) ≤ (un * b64 + u1) * b64 + u2) (ht : r * b64 + u2 < x * v2) : 1 ≤ x ∧ Gs un u1 v1 Q (x - 1) (r + v1) := by
 have hlt : Q < x := by
  rcases Nat.lt_or_ge Q x with h' | h'
  ·
   exact h'
  ·
   have h1 : x * (v1 * b64 + v2) ≤ Q * (v1 * b64 + v2) := Nat.mul_le_mul_right _ h'
   have h2 : x * (v1 * b64 + v2) = x * v1 * b64 + x * v2 := by rw [Nat.mul_add, Nat.mul_assoc]
   have h3 : (un * b64 + u1) * b64 = x * v1 * b64 + r * b64 := by rw [← h.eq, Nat.add_mul]
   omega
 have h1 : 1 ≤ x := by omega
 refine ⟨h1, ?_, by omega, by have := h.lt; omega⟩
 obtain ⟨y, rfl⟩ : ∃ y, x = y + 1 := ⟨x - 1, by omega⟩
 have := h.eq
 rw [Nat.add_mul, Nat.one_mul] at this
 simp only [Nat.add_sub_cancel]
 omega

theorem mul_gt {x y hi lo r u2 : Nat} (hhi : hi = mulHi x y) (hlo : lo = mulLo x y) (h : r < hi ∨ hi = r ∧ u2 < lo) (hu2 : u2 < b64) : r * b64 + u2 < x * y := by
 have e := mul_eq x y
 rw [← hhi, ← hlo] at e
 rcases h with h | ⟨h1, h2⟩
 ·
  have : (r + 1) * b64 ≤ hi * b64 := Nat.mul_le_mul_right _ h
  rw [Nat.add_mul, Nat.one_mul, Nat.mul_comm hi] at this
  omega
 ·
  subst h1
  have : b64 * hi = hi * b64 := Nat.mul_comm _ _
  omega

set_option maxRecDepth 100000 in
set_option maxHeartbeats 4000000 in
theorem digit_any (pre u post dv : List Nat) (bu capu bv offv capv : Nat) (w : World) (hown : Own w bu .u64 103 (pre ++ u ++ post))
  (hlen : u.length = dv.length + 1) (hu : Dgs b64 u) (hv : Dgs b64 dv) (h2 : 2 ≤ dv.length) (hpos : 0 < lv b64 dv) (hQ : lv b64 u / lv b64 dv < b64) (hcap : u.length ≤ capu) (hcap2 : capu ≤ maxLen) (hne : bv ≠ bu) (hbv : bv < w.heap.size)
  (hcv : ∀ j, j < dv.length → w.cell? ⟨bv, offv + j, none⟩ = some (.int .u64 (dv.getD j 0 : Nat))) (hsz : dv.length ≤ 1099511627776) (hsz2 : pre.length ≤ 1099511627776) :
  Calls Tryz.prog 111 #[.slice (some ⟨bu, pre.length, none⟩) (dv.length + 1) capu, .slice (some ⟨bv, offv, none⟩) dv.length capv] w
   (RetMid w bu 103 pre (lv b64 u % lv b64 dv) (dv.length + 1) post (.int .u64 (lv b64 u / lv b64 dv : Nat))) := by
 have hbul := hown.lt
 have hrd : ∀ j, j < u.length → w.cell? ⟨bu, pre.length + j, none⟩ = some (.int .u64 (u.getD j 0 : Nat)) := fun j hj => by
  rw [hown.cell (pre.length + j) (by simp; omega)]
  congr 2
  have : (pre ++ u ++ post).getD (pre.length + j) 0 = u.getD j 0 := by
   simp [List.getElem?_append_right, List.getElem?_append_left, hj]
  rw [this]
 have hn := digNums u dv h2 hlen hu
 have c0 := hrd dv.length (by omega)
 have c1 := hrd (dv.length - 1) (by omega)
 have c2 := hrd (dv.length - 2) (by omega)
 have d1 := hcv (dv.length - 1) (by omega)
 have d2 := hcv (dv.length - 2) (by omega)
 have l0 := hu.getD b64_pos dv.length
 have l1 := hu.getD b64_pos (dv.length - 1)
 have l2 := hu.getD b64_pos (dv.length - 2)
 have k1 := hv.getD b64_pos (dv.length - 1)
 have k2 := hv.getD b64_pos (dv.length - 2)
 generalize u.getD dv.length 0 = un at *
 generalize u.getD (dv.length - 1) 0 = u1 at *
 generalize u.getD (dv.length - 2) 0 = u2 at *
 generalize dv.getD (dv.length - 1) 0 = v1 at *
 generalize dv.getD (dv.length - 2) 0 = v2 at *
 have hQm : lv b64 u / lv b64 dv * lv b64 dv ≤ lv b64 u := Nat.div_mul_le_self _ _
 obtain ⟨Q, hQe⟩ : ∃ Q, Q = lv b64 u / lv b64 dv := ⟨_, rfl⟩
 rw [← hQe] at hQ hQm
 have H3 := Lib.hid (hn.three hQm)
 have H2 := Lib.hid (hn.two l2 hQm)
 have HQe := Lib.hid hQe
 have HQ := Lib.hid hQ
 have Hcap := Lib.hid hcap
 have Hcap2 := Lib.hid hcap2
 have Hown := Lib.hid hown
 have Hlen := Lib.hid hlen
 have L0 := Lib.hid l0
 have L1 := Lib.hid l1
 have L2 := Lib.hid l2
 have K1 := Lib.hid k1
 have K2 := Lib.hid k2
 have Hcv := Lib.hid hcv
 clear hcap hcap2 hown hrd hn hQm hQe hQ l0 l1 l2 k1 k2 hcv hlen
 rw [← HQe.out]
 have i1 : (dv.length : Int) - 1 < dv.length := by omega
 have i2 : (0 : Int) ≤ (dv.length : Int) - 2 := by omega
 go_enter Tryz.func111, Tryz.ntmps111
 go_upto_region 3 with (fail)
 go_quiet (fail)
 go_upto_if 22 with (fail)
 go_cut [6] (fun g wx => ∃ x : Nat, g = .int .u64 x ∧ Hid (Q ≤ x) ∧ Hid (x < b64) ∧ Quiet w wx)
 case first =>
  by_cases t : un < v1
  ·
   have t' : decide (un < v1) = true := by simpa using t
   have T := Lib.hid t
   clear t
   rw [t']
   clear t'
   go_upto_region 5 with (fail)
   go_quiet ((go_at_call 74; exact quiet_at (div64_named un u1 v1 _ K1.out L1.out T.out)))
   go_upto_block 0 with (fail)
   go_wp2_with fail
   go_loopw [6, 7] (fun xv rv wr => ∃ x r : Nat, xv = .int .u64 x ∧ rv = .int .u64 r ∧ Hid (r < b64) ∧ Hid (Gs un u1 v1 Q x r) ∧ Quiet w wr) (fun xv _ _ => (intOf xv).toNat)
   case atStart => exact ⟨_, _, rfl, rfl, by show divR un u1 v1 < b64; exact Nat.lt_trans (Nat.mod_lt _ (by have := T.out; omega)) K1.out, Gs.first T.out L1.out H2.out, Quiet.step ⟨_, rfl⟩ _⟩
   case round =>
    obtain ⟨x, r, rfl, rfl, hr, hG, nw, rfl⟩ := hrel
    have hadd := run_Add64_0
    go_wp2_with fail
    refine (mul64_any x v2 _ hG.out.lt K2.out).mono ?_
    rintro e w' ⟨rfl, rfl⟩
    by_cases q1 : mulHi x v2 < r
    ·
     have q1' : decide (mulHi x v2 < r) = true := by simpa using q1
     go_wp2_with fail
     go_meet
     case rel => exact ⟨x, rfl, hG.out.le, hG.out.lt, _, rfl⟩
    ·
     have q1' : decide (mulHi x v2 < r) = false := by simpa using q1
     by_cases q2 : mulHi x v2 = r ∧ mulLo x v2 ≤ u2
     ·
      obtain ⟨q2, q3⟩ := q2
      have q2' : ((mulHi x v2 : Nat) : Int) = (r : Int) := by omega
      have q3' : decide (mulLo x v2 ≤ u2) = true := by simpa using q3
      have Q2 := Lib.hid q2
      have q4 : (((mulHi x v2 : Nat) : Int) == (r : Int)) = true := by simp [q2]
      clear q2 q2'
      go_wp2_with fail
      go_meet
      case rel => exact ⟨x, rfl, hG.out.le, hG.out.lt, _, rfl⟩
     ·
      have hgt : r * b64 + u2 < x * v2 := mul_gt rfl rfl (by omega) L2.out
      have hl := hG.out.less H3.out hgt
      have hl1 := hl.1
      have HL := Lib.hid hl.2
      clear hgt hl
      have hxb : (x : Int) ≤ 18446744073709551615 := by have := hG.out.lt; unfold b64 at this; omega
      by_cases e : mulHi x v2 = r
      ·
       have q4 : (((mulHi x v2 : Nat) : Int) == (r : Int)) = true := by simp [e]
       have q3' : decide (mulLo x v2 ≤ u2) = false := by simp; omega
       clear e q1 q2
       by_cases ho : 0 < addHi r v1 0
       ·
        have ho' : decide (0 < addHi r v1 0) = true := by simpa using ho
        clear ho
        go_wp2_with fail
        go_meet
        case rel => exact ⟨x - 1, by go_num, HL.out.le, HL.out.lt, _, rfl⟩
       ·
        have ho' : decide (0 < addHi r v1 0) = false := by simpa using ho
        have Hsum : Hid (addLo r v1 0 = r + v1) := by
         have := add_eq r v1 0
         have h0 : addHi r v1 0 = 0 := by omega
         rw [h0] at this
         show addLo r v1 0 = r + v1
         omega
        clear ho
        go_wp2_with fail
        refine ⟨⟨x - 1, addLo r v1 0, by go_num, rfl, addLo_lt _ _ _, ?_, _, rfl⟩, by simp [intOf]; omega⟩
        rw [Hsum.out]; exact HL.out
      ·
       have q4 : (((mulHi x v2 : Nat) : Int) == (r : Int)) = false := by simp; omega
       clear e q1 q2
       by_cases ho : 0 < addHi r v1 0
       ·
        have ho' : decide (0 < addHi r v1 0) = true := by simpa using ho
        clear ho
        go_wp2_with fail
        go_meet
        case rel => exact ⟨x - 1, by go_num, HL.out.le, HL.out.lt, _, rfl⟩
       ·
        have ho' : decide (0 < addHi r v1 0) = false := by simpa using ho
        have Hsum : Hid (addLo r v1 0 = r + v1) := by
         have := add_eq r v1 0
         have h0 : addHi r v1 0 = 0 := by omega
         rw [h0] at this
         show addLo r v1 0 = r + v1
         omega
        clear ho
        go_wp2_with fail
        refine ⟨⟨x - 1, addLo r v1 0, by go_num, rfl, addLo_lt _ _ _, ?_, _, rfl⟩, by simp [intOf]; omega⟩
        rw [Hsum.out]; exact HL.out
  ·
   have t' : decide (un < v1) = false := by simpa using t
   go_wp2_with fail
   go_meet
   case rel => exact ⟨18446744073709551615, rfl, by have := HQ.out; show _ ≤ _; unfold b64 at this; omega, by show _ < _; unfold b64; omega, _, rfl⟩
 case rest =>
  obtain ⟨x, rfl, hx1, hx2, nw, rfl⟩ := hcut
  go_wp2_with fail
  go_loopw [6] (fun xv wr => ∃ (x : Nat) (u' : List Nat), xv = .int .u64 x ∧ Hid (Q ≤ x) ∧ Hid (x < b64) ∧ Hid (u'.length = dv.length + 1) ∧ Dgs b64 u' ∧ Hid (lv b64 u' = lv b64 u) ∧ Own wr bu .u64 103 (pre ++ u' ++ post) ∧ w.grownBy wr (some bu)) (fun xv _ => (intOf xv).toNat)
  case atStart => exact ⟨x, u, rfl, hx1, hx2, Hlen.out, hu, rfl, Hown.out.drewN nw, grownBy_dn (World.grownBy.refl _ _) nw⟩
  case round =>
   clear hx1 hx2
   obtain ⟨x, u', rfl, hx1, hx2, hlu, hdu, hvu, hoU, hgr⟩ := hrel
   have hcvw : ∀ j, j < dv.length → wr.cell? ⟨bv, offv + j, none⟩ = some (.int .u64 (dv.getD j 0 : Nat)) := fun j hj => hgr.cell (Hcv.out j hj) (by simpa using hne)
   have hbvw : bv < wr.heap.size := Nat.lt_of_lt_of_le hbv hgr.size
   have ht := take_any pre u' post dv bu capu bv offv capv x wr hoU hlu.out hdu hv hx2.out (by rw [hlu.out, ← Hlen.out]; exact Hcap.out) Hcap2.out hne hbvw hcvw hsz hsz2
   have Ht := Lib.hid ht
   clear ht hcvw hbvw
   have hdiv := Nat.div_add_mod (lv b64 u) (lv b64 dv)
   rw [← HQe.out] at hdiv
   have Hdiv := Lib.hid hdiv
   clear hdiv
   by_cases hle : lv b64 dv * x ≤ lv b64 u'
   ·
    have hok : tkOk (lv b64 dv * x) (lv b64 u') = true := by simp [tkOk, hle]
    have hval : tkVal (lv b64 dv * x) (lv b64 u') = lv b64 u' - lv b64 dv * x := by simp [tkVal, hle]
    rw [hok, hval] at Ht
    have Hxq : Hid (x = Q) := by
     show x = Q
     refine Nat.le_antisymm ?_ hx1.out
     rw [HQe.out, Nat.le_div_iff_mul_le hpos, Nat.mul_comm, ← hvu.out]
     exact hle
    clear hle hok hval
    go_wp2_with fail
    refine Ht.out.mono ?_
    rintro e w' ⟨u2', rfl, hl2, hd2, hv2', ho2, hg2⟩
    go_wp2_with fail
    go_ret
    refine ⟨u2', by rw [Hxq.out]; rfl, hl2, hd2, ?_, ho2, grownBy_trans hgr hg2⟩
    rw [hv2', hvu.out, Hxq.out]
    have := Hdiv.out
    omega
   ·
    have hok : tkOk (lv b64 dv * x) (lv b64 u') = false := by simp [tkOk]; omega
    have hval : tkVal (lv b64 dv * x) (lv b64 u') = lv b64 u' := by simp [tkVal, hle]
    rw [hok, hval] at Ht
    have hxq : Q + 1 ≤ x := by
     rcases Nat.lt_or_ge Q x with h | h
     ·
      exact h
     ·
      have : lv b64 dv * x ≤ lv b64 dv * Q := Nat.mul_le_mul_left _ h
      have h2 := Hdiv.out
      rw [← hvu.out] at h2
      omega
    have hx0 : 1 ≤ x := by omega
    have Hxq := Lib.hid hxq
    clear hle hok hval hxq
    have hxb : (x : Int) ≤ 18446744073709551615 := by have := hx2.out; unfold b64 at this; omega
    go_wp2_with fail
    refine Ht.out.mono ?_
    rintro e w' ⟨u2', rfl, hl2, hd2, hv2', ho2, hg2⟩
    have Hl2 := Lib.hid hl2
    have Hv2 := Lib.hid hv2'
    clear hl2 hv2'
    go_wp2_with fail
    refine ⟨⟨x - 1, u2', by go_num, by show Q ≤ x - 1; have := Hxq.out; omega, by show x - 1 < b64; have := hx2.out; omega, Hl2.out, hd2, by show lv b64 u2' = lv b64 u; rw [Hv2.out, hvu.out], ho2, grownBy_trans hgr hg2⟩, by simp [intOf]; omega⟩

end Go.Proofs.YtofijjomfhmbjaaGreat

namespace Go.Proofs.YtofijjomfhmbjaaGreat
open Go.RowKit

def shlLo (x s : Nat) : Nat := x * 2 ^ s % b64
def shlHi (x s : Nat) : Nat := x / 2 ^ (64 - s)

theorem b64_split (s : Nat) (hs : s ≤ 64) : b64 = 2 ^ s * 2 ^ (64 - s) := by rw [b64_pow, ← Nat.pow_add]; congr 1; omega

theorem shl_eq (x s : Nat) (hs : s ≤ 64) : shlLo x s + b64 * shlHi x s = x * 2 ^ s := by
 have e := b64_split s hs
 have h := Nat.mod_add_div (x * 2 ^ s) b64
 have : x * 2 ^ s / b64 = shlHi x s := by
  unfold shlHi
  rw [e, Nat.mul_comm x, Nat.mul_div_mul_left _ _ (Nat.two_pow_pos s)]
 rw [this] at h
 exact h
theorem shlHi_lt (x s : Nat) (hs : s ≤ 64) (hx : x < b64) : shlHi x s < 2 ^ s := by
 unfold shlHi
 rw [Nat.div_lt_iff_lt_mul (Nat.two_pow_pos _), ← b64_split s hs]; exact hx
theorem shlLo_lt (x s : Nat) : shlLo x s < b64 := Nat.mod_lt _ b64_pos
theorem shlLo_or (z x s : Nat) (hs : s ≤ 64) (hz : z < 2 ^ s) : z ||| shlLo x s = z + shlLo x s ∧ z + shlLo x s < b64 := by
 have e := b64_split s hs
 have h1 : shlLo x s = (x % 2 ^ (64 - s)) * 2 ^ s := by
  unfold shlLo
  rw [e, Nat.mul_comm (2 ^ s), Nat.mul_mod_mul_right]
 have h2 : x % 2 ^ (64 - s) < 2 ^ (64 - s) := Nat.mod_lt _ (Nat.two_pow_pos _)
 have h3 : (x % 2 ^ (64 - s) + 1) * 2 ^ s ≤ 2 ^ (64 - s) * 2 ^ s := Nat.mul_le_mul_right _ h2
 rw [Nat.add_mul, Nat.one_mul] at h3
 have h4 : shlLo x s + 2 ^ s ≤ b64 := by rw [h1, e, Nat.mul_comm (2 ^ s) (2 ^ (64 - s))]; omega
 have h5 : z ||| shlLo x s = z + shlLo x s := by rw [h1, Nat.or_comm, or_disjoint _ _ _ hz, Nat.add_comm]
 exact ⟨h5, by omega⟩

structure ShlIn (a : List Nat) (q s i : Nat) (o : List Nat) : Prop where
 len : o.length = a.length + q + 1
 dgs : Dgs b64 o
 val : lv b64 o = lv b64 (a.take i) * 2 ^ s * b64 ^ q
 nxt : o.getD (i + q) 0 < 2 ^ s
 top : ∀ j, i + q < j → o.getD j 0 = 0

theorem ShlIn.start (a : List Nat) (q s : Nat) : ShlIn a q s 0 (List.replicate (a.length + q + 1) 0) :=
 ⟨by simp, Dgs.replicate b64_pos _, by simp [lv_replicate, lv], by simp [List.getElem?_replicate]; split <;> simp [Nat.two_pow_pos], fun j _ => by simp [List.getElem?_replicate]; split <;> rfl⟩

theorem ShlIn.step {a : List Nat} {q s i : Nat} {o : List Nat} (h : ShlIn a q s i o) (ha : Dgs b64 a) (hs : s ≤ 63) (hi : i < a.length) :
  ShlIn a q s (i + 1) ((o.set (i + q) (o.getD (i + q) 0 + shlLo (a.getD i 0) s)).set (i + q + 1) (shlHi (a.getD i 0) s)) := by
 have hx := ha.getD b64_pos i
 have h1 := shlLo_or (o.getD (i + q) 0) (a.getD i 0) s (by omega) h.nxt
 have h2 := shl_eq (a.getD i 0) s (by omega)
 have h3 := shlHi_lt (a.getD i 0) s (by omega) hx
 have hp : 2 ^ s < b64 := by rw [b64_pow]; exact Nat.pow_lt_pow_right (by omega) (by omega)
 have hl1 : i + q < o.length := by rw [h.len]; omega
 have hl2 : i + q + 1 < (o.set (i + q) (o.getD (i + q) 0 + shlLo (a.getD i 0) s)).length := by simp [h.len]; omega
 refine ⟨by simpa using h.len, (h.dgs.set _ _ h1.2).set _ _ (by omega), ?_, ?_, fun j hj => ?_⟩
 ·
  have e1 := lv_set b64 o (i + q) (o.getD (i + q) 0 + shlLo (a.getD i 0) s) hl1
  have e2 := lv_set b64 (o.set (i + q) (o.getD (i + q) 0 + shlLo (a.getD i 0) s)) (i + q + 1) (shlHi (a.getD i 0) s) hl2
  have e3 : (o.set (i + q) (o.getD (i + q) 0 + shlLo (a.getD i 0) s)).getD (i + q + 1) 0 = 0 := by
   have := h.top (i + q + 1) (by omega)
   rw [List.getD_eq_getElem?_getD] at *
   rw [List.getElem?_set_ne (by omega)]
   exact this
  rw [e3, Nat.mul_zero, Nat.add_zero] at e2
  rw [e2, lv_take_succ b64 a i hi, Nat.add_mul, Nat.add_mul, ← h.val]
  have e4 : b64 ^ (i + q + 1) * shlHi (a.getD i 0) s = b64 ^ (i + q) * (b64 * shlHi (a.getD i 0) s) := by rw [Nat.pow_succ]; ac_rfl
  have e5 : b64 ^ i * a.getD i 0 * 2 ^ s * b64 ^ q = b64 ^ (i + q) * (a.getD i 0 * 2 ^ s) := by rw [Nat.pow_add]; ac_rfl
  have e6 : b64 ^ (i + q) * (shlLo (a.getD i 0) s + b64 * shlHi (a.getD i 0) s) = b64 ^ (i + q) * (a.getD i 0 * 2 ^ s) := by rw [h2]
  rw [e4, e5]
  simp only [Nat.mul_add] at e1 e6
  omega
 ·
  have e : i + 1 + q = i + q + 1 := by omega
  rw [e, List.getD_eq_getElem?_getD, List.getElem?_set_self hl2]
  exact h3
 ·
  have := h.top j (by omega)
  rw [List.getD_eq_getElem?_getD] at *
  rw [List.getElem?_set_ne (by omega), List.getElem?_set_ne (by omega)]
  exact this

theorem ShlIn.done {a : List Nat} {q s : Nat} {o : List Nat} (h : ShlIn a q s a.length o) (k : Nat) (hq : k = 64 * q + s) : lv b64 o = lv b64 a * 2 ^ k := by
 rw [h.val, List.take_length, hq, Nat.pow_add, Nat.pow_mul, ← b64_pow, Nat.mul_assoc, Nat.mul_comm (2 ^ s)]

set_option maxRecDepth 100000 in
set_option maxHeartbeats 1000000 in
theorem left_any (m k : Nat) (va : Value) (w : World) (ha : IsNat .u64 b64 w va m) (hsz : (dig b64 m).length ≤ 549755813888) (hk : k ≤ 549755813888) :
  Calls Tryz.prog 110 #[va, .int .i64 k] w (RetNat .u64 b64 (m * 2 ^ k) w) := by
 by_cases hz : (dig b64 m).length = 0 ∨ k = 0
 ·
  have Hr : Hid (m * 2 ^ k = m) := by
   show m * 2 ^ k = m
   rcases hz with h | h
   ·
    have := (dig_nil_iff b64_two m).1 (List.eq_nil_of_length_eq_zero h)
    rw [this]; simp
   ·
    rw [h]; simp
  obtain ⟨aa, ca, rfl, _⟩ := IsRow.opened ha
  generalize dig b64 m = da at *
  by_cases h0 : da.length = 0
  ·
   have c1 : ((da.length : Int) == 0) = true := by simp [h0]
   clear h0 hz
   go_enter Tryz.func110, Tryz.ntmps110
   go_wp2_with fail
   go_ret
   exact ⟨_, rfl, by rw [Hr.out]; exact ha, Below.refl _ _⟩
  ·
   have c1 : ((da.length : Int) == 0) = false := by simp; intro h; simp [h] at h0
   have c2 : ((k : Int) == 0) = true := by simp; omega
   clear h0 hz
   go_enter Tryz.func110, Tryz.ntmps110
   go_wp2_with fail
   go_ret
   exact ⟨_, rfl, by rw [Hr.out]; exact ha, Below.refl _ _⟩
 ·
  obtain ⟨aa, ca, rfl, hA⟩ := IsRow.opened ha
  have hda := dgs_dig b64_two m
  have Hva := Lib.hid (lv_dig b64_two m)
  clear ha
  generalize dig b64 m = da at *
  have c1 : ((da.length : Int) == 0) = false := by simp; intro h; simp [h] at hz
  have c2 : ((k : Int) == 0) = false := by simp; omega
  clear hz
  obtain ⟨i0, hi, hz0, hz1, hz2⟩ := info_parts info_u64
  go_enter Tryz.func110, Tryz.ntmps110
  go_wp2_with (at_make; refine wpList_make_full _ rfl _ _ 52 rfl w.heap.size 103 i0 (.int .u64 0) 1 Tryz.underlying52 hi hz0 hz1 _ _ _ _ (da.length + k / 64 + 1) rfl rfl (by omega) (by omega) (by rw [hz2]; omega) (by unfold maxLen; omega) (by omega) ?_)
  intro w1 hown hgrow
  have ho := Own.of_made hown
  have hbel := (Below.refl w.heap.size w).grown hgrow (Nat.le_refl _) (by simp)
  clear hown hgrow hi hz0 hz1 hz2
  go_wp2_with fail
  go_loopw [25] (fun c wr => ∃ (i : Nat) (o : List Nat), i ≤ da.length ∧ c = .int .i64 i ∧ Own wr w.heap.size .u64 103 o ∧ Hid (ShlIn da (k / 64) (k % 64) i o) ∧ Below w.heap.size w wr)
   (fun c _ => da.length - (intOf c).toNat)
  case atStart => exact ⟨0, _, Nat.zero_le _, rfl, ho, ShlIn.start da _ _, hbel⟩
  case round =>
   clear ho hbel
   obtain ⟨i, o, hile, rfl, ho, hM, hbel⟩ := hrel
   by_cases hlt : i < da.length
   ·
    obtain ⟨b, off, rfl, hbA, hcA⟩ := hA (by omega)
    have hca : wr.cell? ⟨b, off + i, none⟩ = some (.int .u64 (da.getD i 0 : Nat)) := (hbel.cell (p := ⟨b, off + i, none⟩) hbA).trans (hcA i hlt)
    have hstep := hM.out.step hda (by omega) hlt
    have Hlen := Lib.hid hM.out.len
    have hco := ho.cell (i + k / 64) (by rw [hM.out.len]; omega)
    have hfo := ho.frozen (i + k / 64)
    have hco2 := ho.cell (i + k / 64 + 1) (by rw [hM.out.len]; omega)
    have hfo2 := ho.frozen (i + k / 64 + 1)
    have hxl := hda.getD b64_pos i
    have hor := shlLo_or (o.getD (i + k / 64) 0) (da.getD i 0) (k % 64) (by omega) hM.out.nxt
    have hzl := hM.out.dgs.getD b64_pos (i + k / 64)
    have Hstep := Lib.hid hstep
    clear hstep
    obtain ⟨x, hx⟩ : ∃ x, x = da.getD i 0 := ⟨_, rfl⟩
    obtain ⟨z, hz⟩ : ∃ z, z = o.getD (i + k / 64) 0 := ⟨_, rfl⟩
    rw [← hx] at hca hxl hor
    rw [← hz] at hco hzl hor
    have HX := Lib.hid hx
    have HZ := Lib.hid hz
    have e1 : IntKind.u64.wrap ((x : Int) * 2 ^ (k % 64)) = (shlLo x (k % 64) : Nat) := by
     rw [IntKind.wrap_u64]; unfold shlLo b64; simp
    have e2 : bits .or .u64 (z : Int) (shlLo x (k % 64) : Nat) = ((z + shlLo x (k % 64) : Nat) : Int) := by
     rw [bits_or_nat _ _ hzl (shlLo_lt _ _), hor.1]
    have e3 : (x : Int) / 2 ^ (64 - k % 64) = (shlHi x (k % 64) : Nat) := by unfold shlHi; simp
    clear hx hz hxl hzl hor
    obtain ⟨y, hy⟩ : ∃ y, y = z + shlLo x (k % 64) := ⟨_, rfl⟩
    rw [← hy] at e2
    have HY := Lib.hid hy
    clear hy
    go_wp2_with fail
    go_region
    go_wp2_with fail
    refine ⟨⟨i + 1, _, by omega, by go_num, ((ho.store _ _).store _ _).drew, ?_, ((hbel.setCell (p := ⟨w.heap.size, i + k / 64, none⟩) (Nat.le_refl _) _).setCell (p := ⟨w.heap.size, i + k / 64 + 1, none⟩) (Nat.le_refl _) _).drew⟩, by simp [intOf]; omega⟩
    rw [HY.out, HX.out, HZ.out]
    exact Hstep.out
   ·
    obtain rfl : i = da.length := by omega
    have hlen := Lib.hid hM.out.len
    go_wp2_with fail
    have hrow := ho.isRow (by unfold maxLen; rw [hlen.out]; omega)
    rw [hlen.out] at hrow
    refine (cut_any o _ _ hrow hM.out.dgs).mono ?_
    rintro e w' ⟨v, rfl, hv, rfl⟩
    go_wp2_with fail
    go_ret
    refine ⟨v, rfl, ?_, hbel⟩
    have := hM.out.done k (by omega)
    rw [Hva.out] at this
    rw [← this]
    exact hv


def shrL (s : Nat) : List Nat → List Nat
 | [] => []
 | x :: t => (x / 2 ^ s + (t.headD 0 % 2 ^ s) * 2 ^ (64 - s)) :: shrL s t

theorem shrL_length (s : Nat) (a : List Nat) : (shrL s a).length = a.length := by
 induction a with
 | nil => rfl
 | cons x t ih => simp [shrL, ih]

theorem shrL_getD (s : Nat) (a : List Nat) (i : Nat) (hi : i < a.length) : (shrL s a).getD i 0 = a.getD i 0 / 2 ^ s + (a.getD (i + 1) 0 % 2 ^ s) * 2 ^ (64 - s) := by
 induction a generalizing i with
 | nil => simp at hi
 | cons x t ih =>
  cases i with
  | zero => cases t <;> simp [shrL]
  | succ i => simpa [shrL] using ih i (by simpa using hi)

theorem shrL_dgs (s : Nat) (hs : s ≤ 63) (a : List Nat) (ha : Dgs b64 a) : Dgs b64 (shrL s a) := by
 have e := b64_split s (by omega)
 induction a with
 | nil => exact Dgs.nil _
 | cons x t ih =>
  refine Dgs.cons ?_ (ih ha.tail)
  have hx := ha.head
  have h1 : x / 2 ^ s < 2 ^ (64 - s) := by
   rw [Nat.div_lt_iff_lt_mul (Nat.two_pow_pos _), Nat.mul_comm, ← e]; exact hx
  have h2 : t.headD 0 % 2 ^ s < 2 ^ s := Nat.mod_lt _ (Nat.two_pow_pos _)
  have h3 : (t.headD 0 % 2 ^ s + 1) * 2 ^ (64 - s) ≤ 2 ^ s * 2 ^ (64 - s) := Nat.mul_le_mul_right _ h2
  rw [Nat.add_mul, Nat.one_mul, ← e] at h3
  omega

theorem lv_mod_head (s : Nat) (hs : s ≤ 64) (t : List Nat) : lv b64 t % 2 ^ s = t.headD 0 % 2 ^ s := by
 cases t with
 | nil => rfl
 | cons y u =>
  rw [lv_cons, b64_split s hs, Nat.mul_assoc, Nat.add_mul_mod_self_left]
  rfl

theorem lv_shrL (s : Nat) (hs : s ≤ 63) (a : List Nat) : lv b64 (shrL s a) = lv b64 a / 2 ^ s := by
 induction a with
 | nil => simp [shrL, lv]
 | cons x t ih =>
  have hp : 0 < 2 ^ s := Nat.two_pow_pos s
  have e := b64_split s (by omega)
  rw [shrL, lv_cons, lv_cons, ih, ← lv_mod_head s (by omega) t]
  have h1 := Nat.div_add_mod (lv b64 t) (2 ^ s)
  generalize lv b64 t = T at *
  have h2 : x + b64 * T = x + 2 ^ s * (2 ^ (64 - s) * T) := by rw [e, Nat.mul_assoc]
  rw [h2, Nat.add_mul_div_left _ _ hp]
  have h3 : 2 ^ (64 - s) * T = 2 ^ (64 - s) * (2 ^ s * (T / 2 ^ s) + T % 2 ^ s) := by rw [h1]
  rw [h3, Nat.mul_add, ← Nat.mul_assoc, Nat.mul_comm (2 ^ (64 - s)) (2 ^ s), ← e, Nat.mul_comm (T % 2 ^ s)]
  omega

theorem shr_or (x y s : Nat) (hs : s ≤ 63) (hx : x < b64) : x / 2 ^ s ||| (y * 2 ^ (64 - s) % b64) = x / 2 ^ s + (y % 2 ^ s) * 2 ^ (64 - s) := by
 have e := b64_split s (by omega)
 have h1 : x / 2 ^ s < 2 ^ (64 - s) := by
  rw [Nat.div_lt_iff_lt_mul (Nat.two_pow_pos _), Nat.mul_comm, ← e]; exact hx
 have h2 : y * 2 ^ (64 - s) % b64 = (y % 2 ^ s) * 2 ^ (64 - s) := by rw [e, Nat.mul_mod_mul_right]
 rw [h2, Nat.or_comm, or_disjoint _ _ _ h1, Nat.add_comm]

theorem lv_drop (a : List Nat) (ha : Dgs b64 a) (q : Nat) (hq : q ≤ a.length) : lv b64 (a.drop q) = lv b64 a / 2 ^ (64 * q) := by
 have h := lv_take_drop b64 a q hq
 have h2 := lv_lt (ha.take q)
 have e : (a.take q).length = q := by simp; omega
 rw [e] at h2
 rw [Nat.pow_mul, ← b64_pow, h, Nat.add_mul_div_left _ _ (Nat.pow_pos b64_pos), Nat.div_eq_of_lt h2, Nat.zero_add]

structure ShrIn (a : List Nat) (q s i : Nat) (o : List Nat) : Prop where
 len : o.length = a.length - q
 dgs : Dgs b64 o
 val : ∀ j, j < i → o.getD j 0 = (shrL s (a.drop q)).getD j 0

theorem ShrIn.done {a : List Nat} {q s k : Nat} {o : List Nat} (h : ShrIn a q s (a.length - q) o) (ha : Dgs b64 a) (hq : q ≤ a.length) (hs : s ≤ 63) (hk : k = 64 * q + s) : lv b64 o = lv b64 a / 2 ^ k := by
 have e : o = shrL s (a.drop q) := by
  apply List.ext_getElem
  ·
   rw [h.len, shrL_length, List.length_drop]
  ·
   intro j h1 h2
   have := h.val j (by rw [h.len] at h1; exact h1)
   simpa [h1, h2] using this
 rw [e, lv_shrL s hs, lv_drop a ha q hq, Nat.div_div_eq_div_mul, ← Nat.pow_add, hk]

theorem ShrIn.step {a : List Nat} {q s i : Nat} {o : List Nat} (h : ShrIn a q s i o) (ha : Dgs b64 a) (hs : s ≤ 63) (hi : i < a.length - q) (x : Nat)
  (hx : x = a.getD (i + q) 0 / 2 ^ s + (a.getD (i + q + 1) 0 % 2 ^ s) * 2 ^ (64 - s)) : ShrIn a q s (i + 1) (o.set i x) := by
 have e : x = (shrL s (a.drop q)).getD i 0 := by
  rw [shrL_getD s _ i (by simp; omega), hx]
  simp [List.getElem?_drop, Nat.add_comm, Nat.add_left_comm]
  rw [Nat.add_assoc]
 refine ⟨by simpa using h.len, h.dgs.set _ _ ?_, fun j hj => ?_⟩
 ·
  rw [e]; exact (shrL_dgs s hs _ (ha.drop q)).getD b64_pos i
 ·
  by_cases hji : j = i
  ·
   subst hji
   rw [List.getD_eq_getElem?_getD, List.getElem?_set_self (by rw [h.len]; exact hi)]
   exact e
  ·
   have := h.val j (by omega)
   rw [← this, List.getD_eq_getElem?_getD, List.getElem?_set_ne (by omega), List.getD_eq_getElem?_getD]

end Go.Proofs.YtofijjomfhmbjaaGreat

namespace Go.Proofs.YtofijjomfhmbjaaGreat
open Go.RowKit

set_option maxRecDepth 100000 in
set_option maxHeartbeats 1000000 in
theorem right_any (m k : Nat) (va : Value) (w : World) (ha : IsNat .u64 b64 w va m) (hsz : (dig b64 m).length ≤ 549755813888) (hk : k ≤ 549755813888) :
  Calls Tryz.prog 112 #[va, .int .i64 k] w (RetNat .u64 b64 (m / 2 ^ k) w) := by
 obtain ⟨aa, ca, rfl, hA⟩ := IsRow.opened ha
 have hda := dgs_dig b64_two m
 have Hva := Lib.hid (lv_dig b64_two m)
 have Hlt := Lib.hid (lt_pow_dig_length b64_two m)
 clear ha
 generalize dig b64 m = da at *
 by_cases hz : da.length ≤ k / 64
 ·
  have Hr : Hid (m / 2 ^ k = 0) := by
   show m / 2 ^ k = 0
   apply Nat.div_eq_of_lt
   refine Nat.lt_of_lt_of_le Hlt.out ?_
   rw [b64_pow, ← Nat.pow_mul]
   exact Nat.pow_le_pow_right (by omega) (by omega)
  go_enter Tryz.func112, Tryz.ntmps112
  go_wp2_with fail
  go_ret
  exact ⟨_, rfl, by rw [Hr.out]; exact IsNat.zero _ _ _, Below.refl _ _⟩
 ·
  obtain ⟨i0, hi, hz0, hz1, hz2⟩ := info_parts info_u64
  have hq : k / 64 < da.length := by omega
  clear hz
  go_enter Tryz.func112, Tryz.ntmps112
  go_wp2_with (at_make; refine wpList_make_full _ rfl _ _ 52 rfl w.heap.size 103 i0 (.int .u64 0) 1 Tryz.underlying52 hi hz0 hz1 _ _ _ _ (da.length - k / 64) rfl rfl (by omega) (by omega) (by rw [hz2]; omega) (by unfold maxLen; omega) (by omega) ?_)
  intro w1 hown hgrow
  have ho := Own.of_made hown
  have hbel := (Below.refl w.heap.size w).grown hgrow (Nat.le_refl _) (by simp)
  clear hown hgrow hi hz0 hz1 hz2
  go_wp2_with fail
  go_loopw [20] (fun c wr => ∃ (i : Nat) (o : List Nat), i ≤ da.length - k / 64 ∧ c = .int .i64 i ∧ Own wr w.heap.size .u64 103 o ∧ Hid (ShrIn da (k / 64) (k % 64) i o) ∧ Below w.heap.size w wr)
   (fun c _ => da.length - k / 64 - (intOf c).toNat)
  case atStart => exact ⟨0, _, Nat.zero_le _, rfl, ho, ⟨by simp, Dgs.replicate b64_pos _, fun j hj => absurd hj (by omega)⟩, hbel⟩
  case round =>
   clear ho hbel
   obtain ⟨i, o, hile, rfl, ho, hM, hbel⟩ := hrel
   obtain ⟨b, off, rfl, hbA, hcA⟩ := hA (by omega)
   by_cases hlt : i < da.length - k / 64
   ·
    have hca : wr.cell? ⟨b, off + (i + k / 64), none⟩ = some (.int .u64 (da.getD (i + k / 64) 0 : Nat)) := (hbel.cell (p := ⟨b, off + (i + k / 64), none⟩) hbA).trans (hcA _ (by omega))
    have Hlen := Lib.hid hM.out.len
    have hco := ho.cell i (by rw [hM.out.len]; omega)
    have hfo := ho.frozen i
    have hxl := hda.getD b64_pos (i + k / 64)
    obtain ⟨x, hx⟩ : ∃ x, x = da.getD (i + k / 64) 0 := ⟨_, rfl⟩
    rw [← hx] at hca hxl
    have HX := Lib.hid hx
    have HXL := Lib.hid hxl
    have e1 : (x : Int) / 2 ^ (k % 64) = ((x / 2 ^ (k % 64) : Nat) : Int) := by simp
    obtain ⟨h, hh⟩ : ∃ h, h = x / 2 ^ (k % 64) := ⟨_, rfl⟩
    rw [← hh] at e1
    have HH := Lib.hid hh
    clear hx hxl hh
    by_cases hn : i + k / 64 + 1 < da.length
    ·
     have hcb : wr.cell? ⟨b, off + (i + k / 64 + 1), none⟩ = some (.int .u64 (da.getD (i + k / 64 + 1) 0 : Nat)) := (hbel.cell (p := ⟨b, off + (i + k / 64 + 1), none⟩) hbA).trans (hcA _ (by omega))
     obtain ⟨y, hy⟩ : ∃ y, y = da.getD (i + k / 64 + 1) 0 := ⟨_, rfl⟩
     rw [← hy] at hcb
     have HY := Lib.hid hy
     clear hy
     have e2 : IntKind.u64.wrap ((y : Int) * 2 ^ (64 - k % 64)) = ((y * 2 ^ (64 - k % 64) % b64 : Nat) : Int) := by
      rw [IntKind.wrap_u64]; unfold b64; simp
     obtain ⟨g, hg⟩ : ∃ g, g = y * 2 ^ (64 - k % 64) % b64 := ⟨_, rfl⟩
     rw [← hg] at e2
     have HG := Lib.hid hg
     have e3 : bits .or .u64 (h : Int) (g : Int) = ((h ||| g : Nat) : Int) :=
      bits_or_nat _ _ (by rw [HH.out]; exact Nat.lt_of_le_of_lt (Nat.div_le_self _ _) HXL.out) (by rw [hg]; exact Nat.mod_lt _ b64_pos)
     obtain ⟨f, hf⟩ : ∃ f, f = h ||| g := ⟨_, rfl⟩
     rw [← hf] at e3
     have HF := Lib.hid hf
     clear hg hf
     go_wp2_with fail
     go_region
     go_wp2_with fail
     refine ⟨⟨i + 1, _, by omega, by go_num, ((ho.store _ _).store _ _).drew, ?_, ((hbel.setCell (p := ⟨w.heap.size, i, none⟩) (Nat.le_refl _) _).setCell (p := ⟨w.heap.size, i, none⟩) (Nat.le_refl _) _).drew⟩, meas_up hlt⟩
     rw [List.set_set]
     refine hM.out.step hda (by omega) hlt _ ?_
     rw [HF.out, HG.out, HH.out, shr_or _ _ _ (by omega) HXL.out, HX.out, HY.out]
    ·
     go_wp2_with fail
     refine ⟨⟨i + 1, _, by omega, by go_num, ho.store _ _, ?_, hbel.setCell (p := ⟨w.heap.size, i, none⟩) (Nat.le_refl _) _⟩, meas_up hlt⟩
     refine hM.out.step hda (by omega) hlt _ ?_
     rw [HH.out, HX.out]
     have : da.getD (i + k / 64 + 1) 0 = 0 := by simp [List.getElem?_eq_none (Nat.le_of_not_lt hn)]
     rw [this]; simp
   ·
    obtain rfl : i = da.length - k / 64 := by omega
    have hlen := Lib.hid hM.out.len
    go_wp2_with fail
    have hrow := ho.isRow (by unfold maxLen; rw [hlen.out]; omega)
    rw [hlen.out] at hrow
    refine (cut_any o _ _ hrow hM.out.dgs).mono ?_
    rintro e w' ⟨v, rfl, hv, rfl⟩
    go_wp2_with fail
    go_ret
    refine ⟨v, rfl, ?_, hbel⟩
    have := hM.out.done hda (by omega) (by omega) (show k = 64 * (k / 64) + k % 64 by omega)
    rw [Hva.out] at this
    rw [← this]
    exact hv

end Go.Proofs.YtofijjomfhmbjaaGreat

namespace Go.Proofs.YtofijjomfhmbjaaGreat
open Go.RowKit

def RetTwo (q r : Nat) (w : World) (e : Ending) (w' : World) : Prop :=
 ∃ v1 v2, e = .returned (.tuple #[v1, v2]) ∧ IsNat .u64 b64 w' v1 q ∧ IsNat .u64 b64 w' v2 r ∧ Below w.heap.size w w'

theorem dig_length_one {B : Nat} (hB : 2 ≤ B) (n : Nat) (h : (dig B n).length = 1) : dig B n = [n] ∧ 0 < n ∧ n < B := by
 match hd : dig B n, h with
 | [d], _ =>
  have h1 := lv_dig hB n
  rw [hd] at h1
  have h2 : d = n := by simpa [lv] using h1
  subst h2
  have h3 := (dgs_dig hB d)
  rw [hd] at h3
  have h4 : d ≠ 0 := fun h0 => by
   have := (dig_nil_iff hB d).2 h0
   rw [hd] at this
   cases this
  exact ⟨rfl, by omega, h3.head⟩

set_option maxRecDepth 100000 in
set_option maxHeartbeats 1000000 in
theorem divide_less (m n : Nat) (va vb : Value) (w : World) (ha : IsNat .u64 b64 w va m) (hb : IsNat .u64 b64 w vb n) (h : m < n) :
  Calls Tryz.prog 95 #[va, vb] w (RetTwo (m / n) (m % n) w) := by
 have hq : m / n = 0 := Nat.div_eq_of_lt h
 have hr : m % n = m := Nat.mod_eq_of_lt h
 rw [hq, hr]
 have hc : cmpN m n < 0 := by unfold cmpN; rw [if_pos h]; omega
 clear hq hr h
 go_enter Tryz.func95, Tryz.ntmps95
 go_wp2_with fail
 refine (cmp_any _ _ _ _ _ ha hb).mono ?_
 rintro e w' ⟨rfl, nq, rfl⟩
 generalize cmpN m n = c at *
 go_wp2_with fail
 go_ret2
 exact ⟨_, _, rfl, IsNat.zero _ _ _, ha, (Quiet.below ⟨nq, rfl⟩)⟩

set_option maxRecDepth 100000 in
set_option maxHeartbeats 1000000 in
theorem divide_word (m n : Nat) (va vb : Value) (w : World) (ha : IsNat .u64 b64 w va m) (hb : IsNat .u64 b64 w vb n) (h : ¬ m < n) (h1 : (dig b64 n).length = 1) (hsz : (dig b64 m).length ≤ 1099511627776) :
  Calls Tryz.prog 95 #[va, vb] w (RetTwo (m / n) (m % n) w) := by
 obtain ⟨hd, hn0, hnb⟩ := dig_length_one b64_two n h1
 have hc : ¬ cmpN m n < 0 := by unfold cmpN; rw [if_neg h]; split <;> omega
 have Ha := Lib.hid ha
 have Hb := Lib.hid hb
 obtain ⟨ab, cb, rfl, hB⟩ := IsRow.opened hb
 rw [h1]
 rw [h1] at hB Hb
 obtain ⟨b, off, rfl, hbB, hcB⟩ := hB (by omega)
 have hcb := hcB 0 (by omega)
 rw [hd] at hcb
 simp only [List.getD_cons_zero, Nat.add_zero] at hcb
 clear hcB hd h h1 ha hb hB
 go_enter Tryz.func95, Tryz.ntmps95
 go_wp2_with fail
 refine (cmp_any _ _ _ _ _ Ha.out Hb.out).mono ?_
 rintro e w' ⟨rfl, nq, rfl⟩
 generalize cmpN m n = c at *
 go_wp2_with fail
 refine (byWord_any m n _ _ (IsNat.below Ha.out (Quiet.below ⟨nq, rfl⟩)) hsz hn0 hnb).mono ?_
 rintro e w1 ⟨v, rfl, hv, hb1⟩
 go_wp2_with fail
 refine (word_any (m % n) _ (Nat.lt_trans (Nat.mod_lt _ hn0) hnb)).mono ?_
 rintro e w2 ⟨v2, rfl, hv2, hb2⟩
 go_wp2_with fail
 go_ret2
 exact ⟨_, _, rfl, hv.below hb2, hv2, ((Quiet.below (w := w) ⟨nq, rfl⟩).trans (hb1.mono (by simp))).trans (hb2.mono (by have := hb1.size; simpa using this))⟩


structure DvIn (U V nv L j : Nat) (uu qq : List Nat) : Prop where
 lu : uu.length = L + nv
 lq : qq.length = L
 du : Dgs b64 uu
 dq : Dgs b64 qq
 val : U = lv b64 qq * V + lv b64 uu
 rem : lv b64 (uu.drop j) < V
 low : ∀ i, i < j → qq.getD i 0 = 0

theorem lv_pos_of_ge {ds : List Nat} {n : Nat} (h : lv b64 ds < b64 ^ n) : lv b64 (ds.drop n) = 0 := by
 by_cases hn : n ≤ ds.length
 ·
  have := lv_take_drop b64 ds n hn
  rcases Nat.eq_zero_or_pos (lv b64 (ds.drop n)) with h0 | h0
  ·
   exact h0
  ·
   have : b64 ^ n ≤ b64 ^ n * lv b64 (ds.drop n) := Nat.le_mul_of_pos_right _ h0
   omega
 ·
  rw [List.drop_of_length_le (by omega)]; rfl

structure Win (V nv j : Nat) (uu u : List Nat) : Prop where
 len : u.length = nv + 1
 dgs : Dgs b64 u
 split : uu = uu.take j ++ u ++ uu.drop (j + nv + 1)
 val : lv b64 u = lv b64 (uu.drop j)
 zero : lv b64 (uu.drop (j + nv + 1)) = 0
 lt : lv b64 u / V < b64

theorem DvIn.win {U V nv L j : Nat} {uu qq : List Nat} (h : DvIn U V nv L (j + 1) uu qq) (hj : j + 1 ≤ L) (hV : V < b64 ^ nv) (hV0 : 0 < V) : Win V nv j uu ((uu.drop j).take (nv + 1)) := by
 have hl := h.lu
 have hz : lv b64 (uu.drop (j + nv + 1)) = 0 := by
  have := lv_pos_of_ge (ds := uu.drop (j + 1)) (n := nv) (Nat.lt_trans h.rem hV)
  rw [List.drop_drop] at this
  have e : j + 1 + nv = j + nv + 1 := by omega
  rw [e] at this
  exact this
 have hval : lv b64 ((uu.drop j).take (nv + 1)) = lv b64 (uu.drop j) := by
  have h1 := lv_take_drop b64 (uu.drop j) (nv + 1) (by simp; omega)
  rw [List.drop_drop] at h1
  have e : j + (nv + 1) = j + nv + 1 := by omega
  rw [e, hz, Nat.mul_zero, Nat.add_zero] at h1
  exact h1.symm
 refine ⟨by simp; omega, (h.du.drop j).take _, ?_, hval, hz, ?_⟩
 ·
  have h2 : (uu.drop j).drop (nv + 1) = uu.drop (j + nv + 1) := by rw [List.drop_drop]; congr 1
  rw [List.append_assoc, ← h2, List.take_append_drop, List.take_append_drop]
 ·
  rw [hval, List.drop_eq_getElem_cons (by omega), lv_cons, Nat.div_lt_iff_lt_mul hV0]
  have h3 : uu[j] < b64 := h.du _ (List.getElem_mem _)
  have h4 : b64 * (lv b64 (uu.drop (j + 1)) + 1) ≤ b64 * V := Nat.mul_le_mul_left _ h.rem
  rw [Nat.mul_add] at h4
  omega

theorem DvIn.step {U V nv L j : Nat} {uu qq u u' : List Nat} (h : DvIn U V nv L (j + 1) uu qq) (hj : j + 1 ≤ L) (hW : Win V nv j uu u) (hV0 : 0 < V)
  (hl : u'.length = nv + 1) (hd : Dgs b64 u') (hv : lv b64 u' = lv b64 u % V) :
  DvIn U V nv L j (uu.take j ++ u' ++ uu.drop (j + nv + 1)) (qq.set j (lv b64 u / V)) := by
 have hlu := h.lu
 have ht : (uu.take j).length = j := by simp; omega
 have e1 : lv b64 (uu.take j ++ u' ++ uu.drop (j + nv + 1)) = lv b64 (uu.take j) + b64 ^ j * lv b64 u' := by
  rw [lv_append, lv_append, hW.zero, ht]; simp
 have e2 : lv b64 uu = lv b64 (uu.take j) + b64 ^ j * lv b64 u := by
  have := lv_take_drop b64 uu j (by omega)
  rw [← hW.val] at this
  exact this
 refine ⟨by simp [hl, ht]; omega, by simpa using h.lq, ((h.du.take j).append hd).append (h.du.drop _), h.dq.set _ _ hW.lt, ?_, ?_, fun i hi => ?_⟩
 ·
  have e3 := lv_set b64 qq j (lv b64 u / V) (by rw [h.lq]; omega)
  rw [h.low j (by omega), Nat.mul_zero, Nat.add_zero] at e3
  rw [e1, e3, hv, h.val, e2, Nat.add_mul]
  have e4 := Nat.div_add_mod (lv b64 u) V
  have e5 : b64 ^ j * lv b64 u = b64 ^ j * (V * (lv b64 u / V) + lv b64 u % V) := by rw [e4]
  have e6 : b64 ^ j * (lv b64 u / V) * V = b64 ^ j * (V * (lv b64 u / V)) := by ac_rfl
  rw [Nat.mul_add (b64 ^ j)] at e5
  omega
 ·
  have e7 : (uu.take j ++ u' ++ uu.drop (j + nv + 1)).drop j = u' ++ uu.drop (j + nv + 1) := by
   rw [List.append_assoc, List.drop_append_of_le_length (by omega), List.drop_of_length_le (by omega), List.nil_append]
  rw [e7, lv_append, hW.zero, Nat.mul_zero, Nat.add_zero, hv]
  exact Nat.mod_lt _ hV0
 ·
  have := h.low i (by omega)
  rw [List.getD_eq_getElem?_getD] at *
  rw [List.getElem?_set_ne (by omega)]
  exact this

theorem DvIn.start (U V nv L : Nat) (hU : (dig b64 U).length + 1 = L + nv) (hV : (dig b64 V).length = nv) (hV0 : 0 < V) (hnv : 1 ≤ nv) : DvIn U V nv L L (dig b64 U ++ [0]) (List.replicate L 0) := by
 have hd := dgs_dig b64_two U
 refine ⟨by simp [hU], by simp, hd.append (Dgs.cons b64_pos (Dgs.nil _)), Dgs.replicate b64_pos _, by rw [lv_replicate, dig_lv_snoc_zero, lv_dig b64_two]; omega, ?_, fun i _ => by simp [List.getElem?_replicate]; split <;> rfl⟩
 have h1 : L ≤ (dig b64 U).length := by omega
 have h2 : (dig b64 U ++ [0]).drop L = (dig b64 U).drop L ++ [0] := List.drop_append_of_le_length h1
 rw [h2, dig_lv_snoc_zero]
 have h3 := lv_lt (hd.drop L)
 have h4 : ((dig b64 U).drop L).length = nv - 1 := by simp; omega
 rw [h4] at h3
 exact Nat.lt_of_lt_of_le h3 (pow_le_of_dig_length b64_two V (nv - 1) (by omega))

theorem DvIn.done {U V nv L : Nat} {uu qq : List Nat} (h : DvIn U V nv L 0 uu qq) : lv b64 qq = U / V ∧ lv b64 uu = U % V := by
 have hr := h.rem
 simp only [List.drop_zero] at hr
 have hV : 0 < V := by omega
 rw [h.val]
 exact ⟨by rw [Nat.add_comm, Nat.add_mul_div_right _ _ hV, Nat.div_eq_of_lt hr, Nat.zero_add], by rw [Nat.add_comm, Nat.add_mul_mod_self_right, Nat.mod_eq_of_lt hr]⟩

theorem dig_length_shift (m s : Nat) (hs : s ≤ 64) : (dig b64 (m * 2 ^ s)).length ≤ (dig b64 m).length + 1 := by
 refine dig_length_le b64_two _ _ ?_
 have h1 := lt_pow_dig_length b64_two m
 have h2 : 2 ^ s ≤ b64 := by rw [b64_pow]; exact Nat.pow_le_pow_right (by omega) hs
 rw [Nat.pow_succ]
 exact Nat.mul_lt_mul_of_lt_of_le h1 h2 b64_pos

set_option maxRecDepth 100000 in
set_option maxHeartbeats 4000000 in
theorem divide_long (m n : Nat) (va vb : Value) (w : World) (ha : IsNat .u64 b64 w va m) (hb : IsNat .u64 b64 w vb n) (h : ¬ m < n) (hn0 : 0 < n) (h1 : (dig b64 n).length ≠ 1) (hsz : (dig b64 m).length ≤ 274877906944) :
  Calls Tryz.prog 95 #[va, vb] w (RetTwo (m / n) (m % n) w) := by
 have hc : ¬ cmpN m n < 0 := by unfold cmpN; rw [if_neg h]; split <;> omega
 have hnm := dig_length_mono b64_two (show n ≤ m by omega)
 have hn2 : 2 ≤ (dig b64 n).length := by
  have : (dig b64 n).length ≠ 0 := fun h0 => by
   have := (dig_nil_iff b64_two n).1 (List.eq_nil_of_length_eq_zero h0); omega
  omega
 have hl1 : (((dig b64 n).length : Int) == 1) = false := by simp; omega
 have Ha := Lib.hid ha
 have Hb := Lib.hid hb
 obtain ⟨ab, cb, rfl, hB⟩ := IsRow.opened hb
 obtain ⟨b, off, rfl, hbB, hcB⟩ := hB (by omega)
 have hcb := hcB ((dig b64 n).length - 1) (by omega)
 have hx := (dgs_dig b64_two n).getD b64_pos ((dig b64 n).length - 1)
 have hx0 : (dig b64 n).getD ((dig b64 n).length - 1) 0 ≠ 0 := by
  have hne : dig b64 n ≠ [] := by intro h0; rw [h0] at hn2; simp at hn2
  have := dig_last b64_two n hne
  rw [List.getLast_eq_getElem] at this
  simpa [show (dig b64 n).length - 1 < (dig b64 n).length by omega] using this
 generalize (dig b64 n).getD ((dig b64 n).length - 1) 0 = x at *
 obtain ⟨k1, k2, k3⟩ := bitLen_spec64 x hx
 obtain ⟨k4, _⟩ := k2 hx0
 obtain ⟨s, hs⟩ : ∃ s, s + Lib.bitLen x = 64 := ⟨64 - Lib.bitLen x, by omega⟩
 have hs63 : s ≤ 63 := by omega
 have hlV1 := dig_length_shift n s (by omega)
 have hlU1 := dig_length_shift m s (by omega)
 have hlV0 : (dig b64 n).length ≤ (dig b64 (n * 2 ^ s)).length := dig_length_mono b64_two (Nat.le_mul_of_pos_right _ (Nat.two_pow_pos s))
 have hlUV : (dig b64 (n * 2 ^ s)).length ≤ (dig b64 (m * 2 ^ s)).length := dig_length_mono b64_two (Nat.mul_le_mul_right _ (by omega))
 have hV0 : 0 < n * 2 ^ s := Nat.mul_pos hn0 (Nat.two_pow_pos s)
 have HS := Lib.hid hs
 have Hx := Lib.hid hx
 have hln : (dig b64 n).length ≤ 274877906944 := by omega
 clear hcB h h1 ha hb hB hx hx0 k1 k2 k3 k4 hs
 obtain ⟨i0, hi, hz0, hz1, hz2⟩ := info_parts info_u64
 go_enter Tryz.func95, Tryz.ntmps95
 go_wp2_with fail
 refine (cmp_any _ _ _ _ _ Ha.out Hb.out).mono ?_
 rintro e w' ⟨rfl, nq, rfl⟩
 generalize cmpN m n = c at *
 have hcb2 : (w.drewN nq).cell? ⟨b, off + ((dig b64 n).length - 1), none⟩ = some (.int .u64 x) := hcb
 go_wp2_with fail
 refine (lz64_any x _ Hx.out s HS.out).mono ?_
 rintro e w' ⟨rfl, rfl⟩
 go_wp2_with fail
 have hq0 : Below w.heap.size w (w.drewN nq) := Quiet.below ⟨nq, rfl⟩
 refine (left_any n s _ _ (IsNat.below Hb.out hq0) (by omega) (by omega)).mono ?_
 rintro e w1 ⟨vV, rfl, hvV, hb1⟩
 have hx1 := ext_trans hq0 hb1
 clear hcb hcb2 hbB
 obtain ⟨av, cv, rfl, hV⟩ := IsRow.opened hvV
 obtain ⟨bV, offV, rfl, hbV, hcV⟩ := hV (by omega)
 have HcV := Lib.hid hcV
 clear hV hb1 hcV
 go_wp2_with fail
 have hx1a : Below w.heap.size w (w1.alloc (.cells #[] 103)) := hx1.alloc hx1.size _
 refine (left_any m s _ _ (IsNat.below Ha.out hx1a) (by omega) (by omega)).mono ?_
 rintro e w2 ⟨vU, rfl, hvU, hb2⟩
 have hy2 : Below w1.heap.size w1 w2 := ((Below.refl _ _).alloc (Nat.le_refl _) _).trans (hb2.mono (by simp))
 have hem := ownsRow_empty (w := w1) (e := 103) (by simpa using hb2)
 have hsz2 := hb2.size
 simp at hsz2
 obtain ⟨au, cu, rfl, hU⟩ := IsRow.opened hvU
 obtain ⟨bu, offu, rfl, hbU, hcU⟩ := hU (by omega)
 clear hvU hvV hU hb2 hq0 hx1a
 have hdU := dgs_dig b64_two (m * 2 ^ s)
 have HstartU := Lib.hid (DvIn.start (m * 2 ^ s) (n * 2 ^ s) (dig b64 (n * 2 ^ s)).length ((dig b64 (m * 2 ^ s)).length + 1 - (dig b64 (n * 2 ^ s)).length) (by omega) rfl hV0 (by omega))
 have HVlt := Lib.hid (lt_pow_dig_length b64_two (n * 2 ^ s))
 have HVv := Lib.hid (lv_dig b64_two (n * 2 ^ s))
 have HdV := Lib.hid (dgs_dig b64_two (n * 2 ^ s))
 generalize dig b64 (m * 2 ^ s) = dU at *
 generalize dig b64 (n * 2 ^ s) = dV at *
 go_wp2_with (at_builtin; refine wpList_append_own _ rfl (.tmp 45) (.tmp 48) 52 rfl w1.heap.size 103 i0 (.int .u64 0) 1 8 Tryz.underlying52 hi hz0 hz1 hz2 rfl (by decide) _ _ _ rfl hem ⟨bu, offu, none⟩ dU.length cu (dU.map (fun d : Nat => Value.int .u64 (d : Int))) rfl (by simp) (row_cells hcU) (row_one _) (by unfold maxLen; omega) (by omega) (by omega) ?_)
 intro v3 w3 hown3 hgr3 _
 try simp only [Nat.zero_add, List.nil_append] at hown3
 have hsz3 := hgr3.size
 have hy3 : Below w1.heap.size w1 w3 := hy2.grown hgr3 hy2.size (by intro k hk; simp [Value.ownBlock] at hk; omega)
 go_wp2_with (at_builtin; refine wpList_append_own _ rfl (.tmp 49) (.tmp 50) 52 rfl w1.heap.size 103 i0 (.int .u64 0) 1 8 Tryz.underlying52 hi hz0 hz1 hz2 rfl (by decide) _ _ _ rfl (hown3.alloc _) ⟨w3.heap.size, 0, none⟩ 1 1 [.int .u64 0] rfl rfl (cell_one_new _ _ _) (by simp [Value.oneCell']) (by unfold maxLen; omega) (by omega) (by simp; omega) ?_)
 intro v4 w4 hown4 hgr4 _
 have hy4 : Below w1.heap.size w1 w4 := (hy3.alloc hy3.size _).grown hgr4 (by simp; omega) (fun k hk => (hown3.lt k hk).1)
 have e0 : dU.map (fun d : Nat => Value.int .u64 (d : Int)) ++ [Value.int .u64 0] = (dU ++ [0]).map (fun d : Nat => Value.int .u64 (d : Int)) := by simp
 rw [e0] at hown4
 obtain ⟨g, cap, rfl⟩ := ownsRow_some hown4 (by omega)
 obtain ⟨hoU, hcap1, hcap2, hg1⟩ := Own.of_ownsRow (by simp) hown4
 have hgl := hoU.lt
 have Hcap2 := Lib.hid hcap2
 clear hown3 hown4 hgr3 hgr4 hem e0 hsz2 hsz3 hcU hbU hdU hy2 hy3 hcap2
 go_wp2_with (at_make; refine wpList_make_full _ rfl _ _ 52 rfl w4.heap.size 103 i0 (.int .u64 0) 1 Tryz.underlying52 hi hz0 hz1 _ _ _ _ (dU.length + 1 - dV.length) rfl rfl (by omega) (by omega) (by rw [hz2]; omega) (by unfold maxLen; omega) (by omega) ?_)
 intro w5 hown5 hgr5
 have hoQ := Own.of_made hown5
 have hy5 : Below w1.heap.size w1 w5 := hy4.grown hgr5 hy4.size (by simp)
 have hoU5 := hoU.grown hgr5 (by simp)
 clear hown5 hgr5 hy4 hoU hi hz0 hz1 hz2
 go_wp2_with fail
 go_loopw [13] (fun c wr => ∃ (j : Nat) (uu qq : List Nat), j ≤ dU.length + 1 - dV.length ∧ c = .int .i64 ((j : Int) - 1) ∧ Own wr g .u64 103 uu ∧ Own wr w4.heap.size .u64 103 qq ∧
   Hid (DvIn (m * 2 ^ s) (n * 2 ^ s) dV.length (dU.length + 1 - dV.length) j uu qq) ∧ Below w1.heap.size w1 wr) (fun c _ => ((intOf c) + 1).toNat)
 case atStart => exact ⟨_, _, _, Nat.le_refl _, by go_num, hoU5, hoQ, HstartU.out, hy5⟩
 case round =>
  clear hoU5 hoQ hy5
  obtain ⟨j, uu, qq, hj, rfl, hoU, hoQ, hD, hy⟩ := hrel
  have hsz1 := hx1.size
  rcases Nat.eq_zero_or_pos j with rfl | hjp
  ·
   have hdn := hD.out.done
   have hlq := hD.out.lq
   have hlu := hD.out.lu
   have hlu' : uu.length = dU.length + 1 := by omega
   have hrQ := hoQ.isRow (by unfold maxLen; omega)
   rw [hlq] at hrQ
   have hrU := hoU.isRowCap cap (by omega) Hcap2.out
   rw [hlu'] at hrU
   have hdQ := hD.out.dq
   have hdU := hD.out.du
   clear hlq hlu hlu'
   have e1 : n * 2 ^ s ≠ 0 := by omega
   have hp : 0 < 2 ^ s := Nat.two_pow_pos s
   have Hdiv : Hid (lv b64 qq = m / n) := by show lv b64 qq = m / n; rw [hdn.1, Nat.mul_div_mul_right _ _ hp]
   have Hmod : Hid (lv b64 uu = m % n * 2 ^ s) := by show lv b64 uu = m % n * 2 ^ s; rw [hdn.2, Nat.mul_mod_mul_right]
   clear hdn e1 hp
   go_wp2_with fail
   refine (cut_any qq _ _ hrQ hdQ).mono ?_
   rintro e w' ⟨vq, rfl, hvq, rfl⟩
   go_wp2_with fail
   refine (cut_any uu _ _ hrU hdU).mono ?_
   rintro e w' ⟨vr, rfl, hvr, rfl⟩
   rw [Hdiv.out] at hvq
   rw [Hmod.out] at hvr
   go_wp2_with fail
   have hlr : (dig b64 (m % n * 2 ^ s)).length ≤ 549755813888 := by
    have h1 := dig_length_shift (m % n) s (by omega)
    have h2 := dig_length_mono b64_two (show m % n ≤ n from Nat.le_of_lt (Nat.mod_lt _ hn0))
    omega
   refine (right_any (m % n * 2 ^ s) s _ _ hvr hlr (by omega)).mono ?_
   rintro e w6 ⟨vr2, rfl, hvr2, hb6⟩
   rw [Nat.mul_div_cancel _ (Nat.two_pow_pos s)] at hvr2
   go_wp2_with fail
   go_ret2
   exact ⟨_, _, rfl, hvq.below hb6, hvr2, ext_trans (hx1.trans (hy.mono hsz1)) hb6⟩
  ·
   obtain ⟨i, rfl⟩ : ∃ i, j = i + 1 := ⟨j - 1, by omega⟩
   have hW := hD.out.win hj HVlt.out hV0
   have hlu := hD.out.lu
   generalize (uu.drop i).take (dV.length + 1) = u at *
   have hpl : (uu.take i).length = i := by simp; omega
   have hoU' := hoU
   rw [hW.split] at hoU'
   have hdg := digit_any (uu.take i) u (uu.drop (i + dV.length + 1)) dV g (cap - i) bV offV cv wr hoU' hW.len hW.dgs HdV.out (by omega) (by rw [HVv.out]; exact hV0) (by rw [HVv.out]; exact hW.lt) (by rw [hW.len]; omega) (by have := Hcap2.out; omega) (by omega) (Nat.lt_of_lt_of_le hbV hy.size)
    (fun q hq => (hy.cell (p := ⟨bV, offV + q, none⟩) hbV).trans (HcV.out q hq)) (by omega) (by rw [hpl]; omega)
   rw [hpl, HVv.out] at hdg
   have HD := Lib.hid hdg
   have HW := Lib.hid hW
   have hcq := hoQ.cell i (by rw [hD.out.lq]; omega)
   have hfq := hoQ.frozen i
   have e1 : ((i + 1 : Nat) : Int) - 1 = (i : Int) := by omega
   rw [e1]
   have hne : ¬ cap = i := by omega
   have hle1 : (i : Int) + dV.length + 1 ≤ cap := by omega
   clear hdg hW hoU' hlu
   go_wp2_with fail
   rw [show i + dV.length + 1 - i = dV.length + 1 from by omega]
   refine HD.out.mono ?_
   rintro e w6 ⟨u', rfl, hl', hd', hv', hoU6, hgr6⟩
   have hoQ6 := hoQ.grown hgr6 (by simp; omega)
   have hcq6 := hoQ6.cell i (by rw [hD.out.lq]; omega)
   have hfq6 := hoQ6.frozen i
   have hstep := Lib.hid (hD.out.step hj HW.out hV0 hl' hd' hv')
   have Hl' := Lib.hid hl'
   have Hv' := Lib.hid hv'
   have hy6 : Below w1.heap.size w1 w6 := hy.grown hgr6 hy.size (by simp; omega)
   clear hl' hv' hcq hfq
   generalize lv b64 u / (n * 2 ^ s) = dgt at *
   go_wp2_with fail
   exact ⟨⟨i, _, _, by omega, rfl, hoU6.other (by show w4.heap.size ≠ g; omega) _, hoQ6.store _ _, hstep.out, hy6.setCell (p := ⟨w4.heap.size, i, none⟩) (by show w1.heap.size ≤ w4.heap.size; omega) _⟩, by simp [intOf]⟩


theorem divide_any (m n : Nat) (va vb : Value) (w : World) (ha : IsNat .u64 b64 w va m) (hb : IsNat .u64 b64 w vb n) (hn0 : 0 < n) (hsz : (dig b64 m).length ≤ 274877906944) :
  Calls Tryz.prog 95 #[va, vb] w (RetTwo (m / n) (m % n) w) := by
 by_cases h : m < n
 ·
  exact divide_less m n va vb w ha hb h
 ·
  by_cases h1 : (dig b64 n).length = 1
  ·
   exact divide_word m n va vb w ha hb h h1 (by omega)
  ·
   exact divide_long m n va vb w ha hb h hn0 h1 hsz

end Go.Proofs.YtofijjomfhmbjaaGreat

namespace Go.Proofs.YtofijjomfhmbjaaGreat
open Go.RowKit

theorem row_short {k : IntKind} {w : World} {m : Nat} {v : Value} (h : IsNat k b64 w v m) (hl : (dig b64 m).length ≤ 1) : (m = 0 ∧ ∃ ao cap, v = .slice ao 0 cap) ∨ (m ≠ 0 ∧ m < b64 ∧ ∃ b off cap, v = .slice (some ⟨b, off, none⟩) 1 cap ∧ w.cell? ⟨b, off, none⟩ = some (.int k m)) := by
 rcases h with ⟨h0, ao, cap, rfl, _⟩ | ⟨h0, b, off, cap, rfl, _, _, _, hc⟩
 ·
  exact .inl ⟨(dig_nil_iff b64_two m).1 h0, _, _, rfl⟩
 ·
  obtain ⟨hd, hm0, hmb⟩ := dig_length_one b64_two m (by omega)
  have := hc 0 (by omega)
  rw [hd] at this
  rw [hd]
  exact .inr ⟨by omega, hmb, b, off, cap, rfl, by simpa using this⟩

set_option maxHeartbeats 1000000 in
theorem small_any (m n : Nat) (va vb : Value) (w : World) (ha : IsNat .u64 b64 w va m) (hb : IsNat .u64 b64 w vb n) (hla : (dig b64 m).length ≤ 1) (hlb : (dig b64 n).length ≤ 1) (hn : 0 < n) :
  Calls Tryz.prog 109 #[va, vb] w (fun e w' => e = .returned (.int .u64 (Nat.gcd m n : Nat)) ∧ Quiet w w') := by
 rcases row_short hb hlb with ⟨h0, _⟩ | ⟨_, hnb, b, off, cap, rfl, hc⟩
 ·
  omega
 have hmb : m < b64 := by
  rcases row_short ha hla with ⟨h0, _⟩ | ⟨_, hmb, _⟩
  ·
   rw [h0]; exact b64_pos
  ·
   exact hmb
 clear hlb hla
 rcases row_short ha (by exact (show (dig b64 m).length ≤ 1 from dig_length_le b64_two 1 m (by simpa using hmb))) with ⟨h0, ao, cap', rfl⟩ | ⟨_, _, b', off', cap', rfl, hc'⟩
 all_goals
  clear ha hb
  go_enter Tryz.func109, Tryz.ntmps109
  go_wp2_with fail
  go_loopw [5, 6] (fun xv yv wr => ∃ x y : Nat, xv = .int .u64 x ∧ yv = .int .u64 y ∧ Hid (x < b64) ∧ Hid (y < b64) ∧ Hid (Nat.gcd x y = Nat.gcd m n) ∧ Quiet w wr) (fun _ yv _ => (intOf yv).toNat)
  case atStart => first | exact ⟨m, n, rfl, rfl, hmb, hnb, rfl, .refl _⟩ | exact ⟨0, n, rfl, rfl, b64_pos, hnb, by rw [h0]; rfl, .refl _⟩
  case round =>
   obtain ⟨x, y, rfl, rfl, hx, hy, hg, nq, rfl⟩ := hrel
   rcases Nat.eq_zero_or_pos y with rfl | hp
   ·
    go_wp2_with fail
    go_ret
    have := hg.out
    rw [Nat.gcd_zero_right] at this
    exact ⟨by rw [← this]; rfl, _, rfl⟩
   ·
    have c1 : (0 : Int) < y := by omega
    have c2 : ¬ y = 0 := by omega
    obtain ⟨z, hz⟩ : ∃ z, z = x % y := ⟨_, rfl⟩
    have HZ := Lib.hid hz
    have e1 : (x : Int).tmod y = (z : Int) := by rw [hz]; rfl
    have e2 : (x : Int) % y = (z : Int) := by rw [hz]; rfl
    clear hz
    go_wp2_with fail
    go_quiet (fail)
    go_wp2_with fail
    refine ⟨⟨y, z, rfl, by first | rfl | rw [e2] | rw [e1], hy, by show z < b64; rw [HZ.out]; exact Nat.lt_trans (Nat.mod_lt _ hp) hy.out, by show Nat.gcd y z = Nat.gcd m n; rw [HZ.out, ← hg.out, Nat.gcd_comm y, ← Nat.gcd_rec, Nat.gcd_comm], Quiet.step ⟨_, rfl⟩ _⟩, ?_⟩
    have := Nat.mod_lt x hp
    rw [← HZ.out] at this
    simp only [intOf, Int.toNat_natCast]
    first | omega | (rw [e2]; omega)


set_option maxHeartbeats 1000000 in
theorem gcd_any (m n : Nat) (va vb : Value) (w : World) (ha : IsNat .u64 b64 w va m) (hb : IsNat .u64 b64 w vb n) (hla : (dig b64 m).length ≤ 274877906944) (hlb : (dig b64 n).length ≤ 274877906944) :
  Calls Tryz.prog 94 #[va, vb] w (RetNat .u64 b64 (Nat.gcd m n) w) := by
 go_enter Tryz.func94, Tryz.ntmps94
 go_wp2_with fail
 go_loopg [0, 1] n (fun k av bv wr => ∃ x : Nat, IsNat .u64 b64 wr av x ∧ IsNat .u64 b64 wr bv k ∧ Hid (Nat.gcd x k = Nat.gcd m n) ∧ (dig b64 x).length ≤ 274877906944 ∧ (dig b64 k).length ≤ 274877906944 ∧ Below w.heap.size w wr)
 case atStart => exact ⟨m, ha, hb, rfl, hla, hlb, Below.refl _ _⟩
 case round =>
  clear ha hb hla hlb
  obtain ⟨x, ha, hb, hg, hla, hlb, hbel⟩ := hrel
  rcases Nat.eq_zero_or_pos gk with h0 | hp
  ·
   subst h0
   have hg' := hg.out
   rw [Nat.gcd_zero_right] at hg'
   rw [hg'] at ha
   have Ha := Lib.hid ha
   obtain ⟨ab, cb, rfl, _⟩ := IsRow.opened hb
   rw [dig_zero, List.length_nil]
   clear ha hb hg' 
   go_wp2_with fail
   go_ret
   exact ⟨_, rfl, Ha.out, hbel⟩
  ·
   have hk0 : 0 < (dig b64 gk).length := by
    rcases Nat.eq_zero_or_pos (dig b64 gk).length with h0 | h0
    ·
     have := (dig_nil_iff b64_two gk).1 (List.eq_nil_of_length_eq_zero h0); omega
    ·
     exact h0
   have Ha := Lib.hid ha
   have Hb := Lib.hid hb
   obtain ⟨aa, ca, rfl, _⟩ := IsRow.opened ha
   obtain ⟨ab, cb, rfl, _⟩ := IsRow.opened hb
   clear ha hb
   by_cases hs : (dig b64 x).length ≤ 1 ∧ (dig b64 gk).length ≤ 1
   ·
    obtain ⟨s1, s2⟩ := hs
    have t1 : decide (((dig b64 x).length : Int) ≤ 1) = true := by simp; omega
    have t2 : decide (((dig b64 gk).length : Int) ≤ 1) = true := by simp; omega
    have hgb : Nat.gcd x gk < b64 := by
     refine Nat.lt_of_le_of_lt (Nat.le_of_dvd hp (Nat.gcd_dvd_right x gk)) ?_
     have h1 := lt_pow_dig_length b64_two gk
     exact Nat.lt_of_lt_of_le h1 (by have := Nat.pow_le_pow_right b64_pos s2; simpa using this)
    go_wp2_with fail
    refine (small_any x gk _ _ _ Ha.out Hb.out s1 s2 hp).mono ?_
    rintro e w' ⟨rfl, nq, rfl⟩
    go_wp2_with fail
    refine (word_any (Nat.gcd x gk) _ hgb).mono ?_
    rintro e w2 ⟨v2, rfl, hv2, hb2⟩
    go_wp2_with fail
    go_ret
    rw [hg.out] at hv2
    exact ⟨_, rfl, hv2, ext_trans (below_dn hbel nq) hb2⟩
   ·
    by_cases s1 : (dig b64 x).length ≤ 1
    ·
     have t1 : decide (((dig b64 x).length : Int) ≤ 1) = true := by simp; omega
     have t2 : decide (((dig b64 gk).length : Int) ≤ 1) = false := by simp; omega
     clear hs
     go_wp2_with fail
     refine (divide_any x gk _ _ _ Ha.out Hb.out hp hla).mono ?_
     rintro e w2 ⟨v1, v2, rfl, _, hv2, hb2⟩
     have hb0 := Hb.out.below hb2
     go_wp2_with fail
     go_roundg (x % gk)
     case measure => exact Nat.mod_lt _ hp
     case rel => exact ⟨gk, hb0, hv2, by show Nat.gcd gk (x % gk) = Nat.gcd m n; rw [← hg.out, Nat.gcd_comm gk, ← Nat.gcd_rec, Nat.gcd_comm], hlb, Nat.le_trans (dig_length_mono b64_two (Nat.mod_le _ _)) hla, ext_trans hbel hb2⟩
    ·
     have t1 : decide (((dig b64 x).length : Int) ≤ 1) = false := by simp; omega
     clear hs
     go_wp2_with fail
     refine (divide_any x gk _ _ _ Ha.out Hb.out hp hla).mono ?_
     rintro e w2 ⟨v1, v2, rfl, _, hv2, hb2⟩
     have hb0 := Hb.out.below hb2
     go_wp2_with fail
     go_roundg (x % gk)
     case measure => exact Nat.mod_lt _ hp
     case rel => exact ⟨gk, hb0, hv2, by show Nat.gcd gk (x % gk) = Nat.gcd m n; rw [← hg.out, Nat.gcd_comm gk, ← Nat.gcd_rec, Nat.gcd_comm], hlb, Nat.le_trans (dig_length_mono b64_two (Nat.mod_le _ _)) hla, ext_trans hbel hb2⟩

end Go.Proofs.YtofijjomfhmbjaaGreat

namespace Go.Proofs.YtofijjomfhmbjaaGreat
open Go.RowKit

set_option maxHeartbeats 1000000 in
theorem under_any (d : Nat) (v : Value) (w : World) (h : IsNat .u64 b64 w v (dn d)) (hd : 0 < d) : Calls Tryz.prog 65 #[v] w (RetNat .u64 b64 d w) := by
 by_cases h1 : d = 1
 ·
  have hz : dn d = 0 := by simp [dn, h1]
  rw [hz] at h
  obtain ⟨ao, cap, rfl, _⟩ := IsRow.opened h
  rw [dig_zero, List.length_nil]
  have H1 := Lib.hid h1
  clear h hz h1
  go_enter Tryz.func65, Tryz.ntmps65
  go_wp2_with fail
  have hw := word_any 1 w (by unfold b64; omega)
  refine hw.mono ?_
  rintro e w' ⟨v, rfl, hv, hb⟩
  go_wp2_with fail
  go_ret
  rw [H1.out]
  exact ⟨_, rfl, hv, hb⟩
 ·
  have hz : dn d = d := by simp [dn, h1]
  rw [hz] at h
  have H := Lib.hid h
  obtain ⟨ao, cap, rfl, _⟩ := IsRow.opened h
  have hl : ((dig b64 d).length : Int) ≠ 0 := fun h0 => by
   have := (dig_nil_iff b64_two d).1 (List.eq_nil_of_length_eq_zero (by omega)); omega
  have hb : (((dig b64 d).length : Int) == 0) = false := beq_eq_false_iff_ne.2 hl
  clear h hl
  go_enter Tryz.func65, Tryz.ntmps65
  go_wp2_with fail
  go_ret
  exact ⟨_, rfl, H.out, Below.refl _ _⟩

set_option maxHeartbeats 2000000 in
theorem reduced_any (neg : Bool) (n d : Nat) (vn vd : Value) (w : World) (hn : IsNat .u64 b64 w vn n) (hd : IsNat .u64 b64 w vd d) (hd0 : 0 < d) (hla : (dig b64 n).length ≤ 274877906944) (hlb : (dig b64 d).length ≤ 274877906944) :
  Calls Tryz.prog 67 #[.bool neg, vn, vd] w (RetRat (mkQ neg n d) w) := by
 by_cases hn0 : n = 0
 ·
  have Hn := Lib.hid hn0
  rw [hn0] at hn
  obtain ⟨ao, cap, rfl, _⟩ := IsRow.opened hn
  rw [dig_zero, List.length_nil]
  clear hn hn0 hla
  go_enter Tryz.func67, Tryz.ntmps67
  go_wp2_with fail
  refine bodyPost_ret (v := .agg #[.bool false, .slice none 0 0, .slice none 0 0]) (by simp [results, Tryz.results67, go_sem]) rfl ⟨_, rfl, ?_, (Below.refl _ _).alloc (Nat.le_refl _) _⟩
  rw [Hn.out, mkQ_zero]
  exact IsRat.zero _
 ·
  have hg0 : 0 < Nat.gcd n d := Nat.gcd_pos_of_pos_right n hd0
  have Hneg := Lib.hid (mkQ_neg neg n d hd0 hn0)
  have Hnum := Lib.hid (mkQ_num neg n d hd0)
  have Hden := Lib.hid (mkQ_den neg n d hd0)
  have hl : ((dig b64 n).length : Int) ≠ 0 := fun h0 => by
   have := (dig_nil_iff b64_two n).1 (List.eq_nil_of_length_eq_zero (by omega)); omega
  have hlb0 : (((dig b64 n).length : Int) == 0) = false := beq_eq_false_iff_ne.2 hl
  have Hn := Lib.hid hn
  have Hd := Lib.hid hd
  obtain ⟨ao, cap, rfl, _⟩ := IsRow.opened hn
  obtain ⟨dd, hdd⟩ : ∃ dd, dd = d / Nat.gcd n d := ⟨_, rfl⟩
  obtain ⟨nn, hnn⟩ : ∃ nn, nn = n / Nat.gcd n d := ⟨_, rfl⟩
  have hdd0 : 0 < dd := by rw [hdd]; exact Nat.div_pos (Nat.le_of_dvd hd0 (Nat.gcd_dvd_right n d)) hg0
  rw [← hnn] at Hnum
  rw [← hdd] at Hden
  have Hdd := Lib.hid hdd
  have Hnn := Lib.hid hnn
  generalize hq : mkQ neg n d = q at *
  clear hn hd hl hdd hnn hq hn0
  by_cases hg1 : Nat.gcd n d = 1
  ·
   have t1 : decide (Nat.gcd n d = 1) = true := by simp [hg1]
   have hnn' : nn = n := by rw [Hnn.out, hg1, Nat.div_one]
   have hdd' : dd = d := by rw [Hdd.out, hg1, Nat.div_one]
   subst hnn' hdd'
   clear hg1
   have hal : Below w.heap.size w (w.alloc (.cells #[.bool false, .slice none 0 0, .slice none 0 0] 54)) := (Below.refl _ _).alloc (Nat.le_refl _) _
   have hB0 := blk_new w #[.bool false, .slice none 0 0, .slice none 0 0] 54
   obtain ⟨ad, cd, rfl, _⟩ := IsRow.opened Hd.out
   go_enter Tryz.func67, Tryz.ntmps67
   go_wp2_with fail
   refine (gcd_any nn dd _ _ _ (Hn.out.below hal) (Hd.out.below hal) hla hlb).mono ?_
   rintro e w3 ⟨vg, rfl, hvg, hb1⟩
   have hx3 := ext_trans hal hb1
   have hB3 := blk_keep hB0 hb1 (by simp)
   have hv13 := Hn.out.below hx3
   have hv3 := Hd.out.below hx3
   clear hal hB0 hb1
   have hBl := blk_lt hB3
   have c0 := blk_cell hB3 0 (.bool false) rfl
   have c1 := blk_cell hB3 1 (.slice none 0 0) rfl
   have c2 := blk_cell hB3 2 (.slice none 0 0) rfl
   have f0 := blk_frozen hB3 0
   have f1 := blk_frozen hB3 1
   have f2 := blk_frozen hB3 2
   go_wp2_with fail
   refine (isOne_any _ _ _ hvg).mono ?_
   rw [t1]
   rintro e w' ⟨rfl, rfl⟩
   go_wp2_with fail
   refine (isOne_any _ _ _ hv3).mono ?_
   have Hv13 := Lib.hid hv13
   have Hv3 := Lib.hid hv3
   have HB3 := Lib.hid hB3
   clear hv13 hv3 hB3
   by_cases hd1 : dd = 1
   ·
    have t2 : decide (dd = 1) = true := by simp [hd1]
    have Hd1 := Lib.hid hd1
    clear hd1
    rw [t2]
    rintro e w' ⟨rfl, rfl⟩
    clear t1 t2
    go_wp2_with fail
    refine bodyPost_ret (v := .agg #[.bool neg, .slice ao (dig b64 nn).length cap, .slice none 0 0]) (by simp [results, Tryz.results67, go_sem, c0, c1, c2]) rfl ⟨_, rfl, ?_, below_store3 hx3 (Nat.le_refl _)⟩
    refine ⟨_, _, by rw [Hneg.out], ?_, ?_⟩
    ·
     rw [Hnum.out]; exact store3 HB3.out Hv13.out
    ·
     rw [Hden.out, Hd1.out]; exact IsNat.zero _ _ _
   ·
    have t2 : decide (dd = 1) = false := by simp [hd1]
    have Hd1 : Hid (dn dd = dd) := by show dn dd = dd; simp [dn, hd1]
    clear hd1
    rw [t2]
    rintro e w' ⟨rfl, rfl⟩
    clear t1 t2
    go_wp2_with fail
    refine bodyPost_ret (v := .agg #[.bool neg, .slice ao (dig b64 nn).length cap, .slice ad (dig b64 dd).length cd]) (by simp [results, Tryz.results67, go_sem, c0, c1, c2]) rfl ⟨_, rfl, ?_, below_store3 hx3 (Nat.le_refl _)⟩
    refine ⟨_, _, by rw [Hneg.out], ?_, ?_⟩
    ·
     rw [Hnum.out]; exact store3 HB3.out Hv13.out
    ·
     rw [Hden.out, Hd1.out]; exact store3 HB3.out Hv3.out
  ·
   have t1 : decide (Nat.gcd n d = 1) = false := by simp [hg1]
   clear hg1
   have hal : Below w.heap.size w (w.alloc (.cells #[.bool false, .slice none 0 0, .slice none 0 0] 54)) := (Below.refl _ _).alloc (Nat.le_refl _) _
   have hB0 := blk_new w #[.bool false, .slice none 0 0, .slice none 0 0] 54
   go_enter Tryz.func67, Tryz.ntmps67
   go_wp2_with fail
   refine (gcd_any n d _ _ _ (Hn.out.below hal) (Hd.out.below hal) hla hlb).mono ?_
   rintro e w1 ⟨vg, rfl, hvg, hb1⟩
   have hx1 := ext_trans hal hb1
   have hB1 := blk_keep hB0 hb1 (by simp)
   clear hal hB0
   go_wp2_with fail
   refine (isOne_any _ _ _ hvg).mono ?_
   rw [t1]
   rintro e w' ⟨rfl, rfl⟩
   go_wp2_with fail
   refine (divide_any n _ _ _ _ (Hn.out.below hx1) hvg hg0 hla).mono ?_
   rintro e w2 ⟨v1, v2, rfl, hv1, _, hb2⟩
   have hx2 := ext_trans hx1 hb2
   have hB2 := blk_keep hB1 hb2 (blk_lt hB1)
   have hvg2 := hvg.below hb2
   clear hB1 hvg
   go_wp2_with fail
   refine (divide_any d _ _ _ _ (Hd.out.below hx2) hvg2 hg0 hlb).mono ?_
   rintro e w3 ⟨v3, v4, rfl, hv3, _, hb3⟩
   have hx3 := ext_trans hx2 hb3
   have hB3 := blk_keep hB2 hb3 (blk_lt hB2)
   have hv13 := hv1.below hb3
   rw [← Hnn.out] at hv13
   rw [← Hdd.out] at hv3
   clear hB2 hvg2 hx1 hx2 hb1 hb2 hb3 hv1
   have Hv13' := Lib.hid hv13
   have Hv3' := Lib.hid hv3
   obtain ⟨a1, c1', rfl, _⟩ := IsRow.opened hv13
   obtain ⟨a3, c3', rfl, _⟩ := IsRow.opened hv3
   clear hv13 hv3
   have hv13 := Hv13'.out
   have hv3 := Hv3'.out
   clear Hv13' Hv3'
   have hBl := blk_lt hB3
   have c0 := blk_cell hB3 0 (.bool false) rfl
   have c1 := blk_cell hB3 1 (.slice none 0 0) rfl
   have c2 := blk_cell hB3 2 (.slice none 0 0) rfl
   have f0 := blk_frozen hB3 0
   have f1 := blk_frozen hB3 1
   have f2 := blk_frozen hB3 2
   go_wp2_with fail
   refine (isOne_any _ _ _ hv3).mono ?_
   have Hv13 := Lib.hid hv13
   have Hv3 := Lib.hid hv3
   have HB3 := Lib.hid hB3
   clear hv13 hv3 hB3
   by_cases hd1 : dd = 1
   ·
    have t2 : decide (dd = 1) = true := by simp [hd1]
    have Hd1 := Lib.hid hd1
    clear hd1
    rw [t2]
    rintro e w' ⟨rfl, rfl⟩
    clear t1 t2
    go_wp2_with fail
    refine bodyPost_ret (v := .agg #[.bool neg, .slice a1 (dig b64 nn).length c1', .slice none 0 0]) (by simp [results, Tryz.results67, go_sem, c0, c1, c2]) rfl ⟨_, rfl, ?_, below_store3 hx3 (Nat.le_refl _)⟩
    refine ⟨_, _, by rw [Hneg.out], ?_, ?_⟩
    ·
     rw [Hnum.out]; exact store3 HB3.out Hv13.out
    ·
     rw [Hden.out, Hd1.out]; exact IsNat.zero _ _ _
   ·
    have t2 : decide (dd = 1) = false := by simp [hd1]
    have Hd1 : Hid (dn dd = dd) := by show dn dd = dd; simp [dn, hd1]
    clear hd1
    rw [t2]
    rintro e w' ⟨rfl, rfl⟩
    clear t1 t2
    go_wp2_with fail
    refine bodyPost_ret (v := .agg #[.bool neg, .slice a1 (dig b64 nn).length c1', .slice a3 (dig b64 dd).length c3']) (by simp [results, Tryz.results67, go_sem, c0, c1, c2]) rfl ⟨_, rfl, ?_, below_store3 hx3 (Nat.le_refl _)⟩
    refine ⟨_, _, by rw [Hneg.out], ?_, ?_⟩
    ·
     rw [Hnum.out]; exact store3 HB3.out Hv13.out
    ·
     rw [Hden.out, Hd1.out]; exact store3 HB3.out Hv3.out

end Go.Proofs.YtofijjomfhmbjaaGreat

namespace Go.Proofs.YtofijjomfhmbjaaGreat
open Go.RowKit

set_option maxHeartbeats 1000000 in
theorem size_any (n : Int) (w : World) (h1 : -9223372036854775808 ≤ n) (h2 : n ≤ 9223372036854775807) : Calls Tryz.prog 98 #[.int .i64 n] w (RetNat .u64 b64 n.natAbs w) := by
 have hb : n.natAbs < b64 := by unfold b64; omega
 by_cases hn : n < 0
 ·
  have e1 : IntKind.u64.wrap (-(IntKind.u64.wrap n)) = ((n.natAbs : Nat) : Int) := by
   rw [IntKind.wrap_u64, IntKind.wrap_u64]; omega
  go_enter Tryz.func98, Tryz.ntmps98
  go_wp2_with fail
  refine (word_any n.natAbs _ hb).mono ?_
  rintro e w' ⟨v, rfl, hv, hb'⟩
  go_wp2_with fail
  go_ret
  exact ⟨_, rfl, hv, hb'⟩
 ·
  have e1 : IntKind.u64.wrap n = ((n.natAbs : Nat) : Int) := by
   rw [IntKind.wrap_u64]; omega
  go_enter Tryz.func98, Tryz.ntmps98
  go_wp2_with fail
  refine (word_any n.natAbs _ hb).mono ?_
  rintro e w' ⟨v, rfl, hv, hb'⟩
  go_wp2_with fail
  go_ret
  exact ⟨_, rfl, hv, hb'⟩

set_option maxHeartbeats 1000000 in
theorem zero_any (b : Bool) (a1 : Option Addr) (n c1 : Nat) (a2 : Option Addr) (l2 c2 : Nat) (w : World) :
  Calls Tryz.prog 56 #[.agg #[.bool b, .slice a1 (dig b64 n).length c1, .slice a2 l2 c2]] w (RetBool (decide (n = 0)) w) := by
 have e : ((((dig b64 n).length : Nat) : Int) == 0) = decide (n = 0) := by
  rw [Bool.eq_iff_iff]
  simp only [beq_iff_eq, decide_eq_true_eq]
  rw [← dig_nil_iff b64_two n]
  constructor
  ·
   intro h; exact List.eq_nil_of_length_eq_zero (by omega)
  ·
   intro h; rw [h]; rfl
 rw [← e]
 clear e
 go_enter Tryz.func56, Tryz.ntmps56
 go_wp2_with fail
 go_ret
 exact ⟨rfl, (Below.refl _ _).alloc (Nat.le_refl _) _⟩

def sgnI (b : Bool) (n : Nat) : Int := if b then -1 else if n = 0 then 0 else 1

set_option maxHeartbeats 1000000 in
theorem sign_any (b : Bool) (a1 : Option Addr) (n c1 : Nat) (a2 : Option Addr) (l2 c2 : Nat) (w : World) :
  Calls Tryz.prog 38 #[.agg #[.bool b, .slice a1 (dig b64 n).length c1, .slice a2 l2 c2]] w (RetInt (sgnI b n) w) := by
 have hal : Below w.heap.size w (w.alloc (.cells #[.bool b, .slice a1 (dig b64 n).length c1, .slice a2 l2 c2] 54)) := (Below.refl _ _).alloc (Nat.le_refl _) _
 cases b with
 | true =>
  have Hs : Hid (sgnI true n = -1) := rfl
  go_enter Tryz.func38, Tryz.ntmps38
  go_wp2_with fail
  go_ret
  exact ⟨by rw [Hs.out]; rfl, hal⟩
 | false =>
  by_cases hn : n = 0
  ·
   have t : decide (n = 0) = true := by simp [hn]
   have Hs : Hid (sgnI false n = 0) := by show sgnI false n = 0; simp [sgnI, hn]
   clear hn
   go_enter Tryz.func38, Tryz.ntmps38
   go_wp2_with fail
   refine (zero_any _ _ n _ _ _ _ _).mono ?_
   rw [t]
   rintro e w' ⟨rfl, hb⟩
   go_wp2_with fail
   go_ret
   exact ⟨by rw [Hs.out]; rfl, ext_trans hal hb⟩
  ·
   have t : decide (n = 0) = false := by simp [hn]
   have Hs : Hid (sgnI false n = 1) := by show sgnI false n = 1; simp [sgnI, hn]
   clear hn
   go_enter Tryz.func38, Tryz.ntmps38
   go_wp2_with fail
   refine (zero_any _ _ n _ _ _ _ _).mono ?_
   rw [t]
   rintro e w' ⟨rfl, hb⟩
   go_wp2_with fail
   go_ret
   exact ⟨by rw [Hs.out]; rfl, ext_trans hal hb⟩


set_option maxHeartbeats 1000000 in
theorem int_any (n : Int) (w : World) (h1 : -9223372036854775808 ≤ n) (h2 : n ≤ 9223372036854775807) : Calls Tryz.prog 73 #[.int .i64 n] w (RetRat (n : Rat) w) := by
 have hal : Below w.heap.size w (w.alloc (.cells #[.bool false, .slice none 0 0, .slice none 0 0] 54)) := (Below.refl _ _).alloc (Nat.le_refl _) _
 have hB0 := blk_new w #[.bool false, .slice none 0 0, .slice none 0 0] 54
 go_enter Tryz.func73, Tryz.ntmps73
 go_wp2_with fail
 refine (size_any n _ h1 h2).mono ?_
 rintro e w3 ⟨v, rfl, hv, hb⟩
 have hx3 := ext_trans hal hb
 have hB3 := blk_keep hB0 hb (by simp)
 have Hv := Lib.hid hv
 obtain ⟨a1, c1, rfl, _⟩ := IsRow.opened hv
 clear hv hal hB0 hb
 have hBl := blk_lt hB3
 have c0 := blk_cell hB3 0 (.bool false) rfl
 have c1 := blk_cell hB3 1 (.slice none 0 0) rfl
 have c2 := blk_cell hB3 2 (.slice none 0 0) rfl
 have f0 := blk_frozen hB3 0
 have f1 := blk_frozen hB3 1
 have f2 := blk_frozen hB3 2
 have HB3 := Lib.hid hB3
 clear hB3
 go_wp2_with fail
 refine bodyPost_ret (v := .agg #[.bool (decide (n < 0)), .slice a1 (dig b64 n.natAbs).length _, .slice none 0 0]) (by simp [results, Tryz.results73, go_sem, c0, c1, c2]; first | done | exact ⟨rfl, rfl⟩ | rfl) rfl ⟨_, rfl, ?_, below_store3 hx3 (Nat.le_refl _)⟩
 refine ⟨_, _, rfl, ?_, ?_⟩
 ·
  exact store3 HB3.out Hv.out
 ·
  exact IsNat.zero _ _ _

end Go.Proofs.YtofijjomfhmbjaaGreat

namespace Go.Proofs.YtofijjomfhmbjaaGreat
open Go.RowKit

def RetRatE (q : Rat) (err : Int) (w : World) (e : Ending) (w' : World) : Prop :=
 ∃ v, e = .returned (.tuple #[v, .int .i64 err]) ∧ IsRat w' v q ∧ Below w.heap.size w w'

theorem new_plain (n d : Int) (hd : d ≠ 0) : mkQ (decide (n < 0) != decide (d < 0)) n.natAbs d.natAbs = (n : Rat) / (d : Rat) := by
 have hd' : (d : Rat) ≠ 0 := by simpa using hd
 have h1 : mkQ (decide (n < 0) != decide (d < 0)) n.natAbs d.natAbs = (sg (decide (n < 0) != decide (d < 0)) n.natAbs : Rat) / ((d.natAbs : Nat) : Rat) := by
  unfold mkQ; exact Rat.mkRat_eq_div _ _
 rw [h1]
 rcases Int.lt_or_le d 0 with hdn | hdn
 ·
  have e1 : ((d.natAbs : Nat) : Rat) = -(d : Rat) := by
   have : ((d.natAbs : Nat) : Int) = -d := by omega
   rw [← Rat.intCast_natCast, this, Rat.intCast_neg]
  rcases Int.lt_or_le n 0 with hnn | hnn
  ·
   have e2 : sg (decide (n < 0) != decide (d < 0)) n.natAbs = -n := by
    unfold sg; simp [hdn, hnn]; omega
   rw [e1, e2, Rat.intCast_neg]
   grind
  ·
   have e2 : sg (decide (n < 0) != decide (d < 0)) n.natAbs = -n := by
    have : ¬ n < 0 := by omega
    unfold sg; simp [hdn, this]; omega
   rw [e1, e2, Rat.intCast_neg]
   grind
 ·
  have e1 : ((d.natAbs : Nat) : Rat) = (d : Rat) := by
   have : ((d.natAbs : Nat) : Int) = d := by omega
   rw [← Rat.intCast_natCast, this]
  have hd2 : ¬ d < 0 := by omega
  rcases Int.lt_or_le n 0 with hnn | hnn
  ·
   have e2 : sg (decide (n < 0) != decide (d < 0)) n.natAbs = n := by
    unfold sg; simp [hd2, hnn]; omega
   rw [e1, e2]
  ·
   have e2 : sg (decide (n < 0) != decide (d < 0)) n.natAbs = n := by
    have : ¬ n < 0 := by omega
    unfold sg; simp [hd2, this]; omega
   rw [e1, e2]

end Go.Proofs.YtofijjomfhmbjaaGreat

namespace Go.Proofs.YtofijjomfhmbjaaGreat
open Go.RowKit

set_option maxHeartbeats 1000000 in
theorem divisor_any (m n : Nat) (va vb : Value) (w : World) (ha : IsNat .u32 b32 w va m) (hb : IsNat .u32 b32 w vb n) (hla : (dig b32 m).length ≤ 68719476736) (hlb : (dig b32 n).length ≤ 68719476736) :
  Calls Tryz.prog 82 #[va, vb] w (RetNat .u32 b32 (Nat.gcd m n) w) := by
 go_enter Tryz.func82, Tryz.ntmps82
 go_wp2_with fail
 go_loopg [0, 1] n (fun k av bv wr => ∃ x : Nat, IsNat .u32 b32 wr av x ∧ IsNat .u32 b32 wr bv k ∧ Hid (Nat.gcd x k = Nat.gcd m n) ∧ (dig b32 x).length ≤ 68719476736 ∧ (dig b32 k).length ≤ 68719476736 ∧ Below w.heap.size w wr)
 case atStart => exact ⟨m, ha, hb, rfl, hla, hlb, Below.refl _ _⟩
 case round =>
  clear ha hb hla hlb
  obtain ⟨x, ha, hb, hg, hla, hlb, hbel⟩ := hrel
  rcases Nat.eq_zero_or_pos gk with h0 | hp
  ·
   subst h0
   have hg' := hg.out
   rw [Nat.gcd_zero_right] at hg'
   rw [hg'] at ha
   have Ha := Lib.hid ha
   obtain ⟨ab, cb, rfl, _⟩ := IsRow.opened hb
   rw [dig_zero, List.length_nil]
   clear ha hb hg'
   go_wp2_with fail
   go_ret
   exact ⟨_, rfl, Ha.out, hbel⟩
  ·
   have hk0 : 0 < (dig b32 gk).length := by
    rcases Nat.eq_zero_or_pos (dig b32 gk).length with h0 | h0
    ·
     have := (dig_nil_iff b32_two gk).1 (List.eq_nil_of_length_eq_zero h0); omega
    ·
     exact h0
   have Ha := Lib.hid ha
   have Hb := Lib.hid hb
   obtain ⟨ab, cb, rfl, _⟩ := IsRow.opened hb
   have t1 : decide (((dig b32 gk).length : Int) > 0) = true := by simp; omega
   have Hp := Lib.hid hp
   clear ha hb hp
   go_wp2_with fail
   refine (quotient_any x gk _ _ _ Ha.out Hb.out (by have := Hp.out; omega) hla hlb).mono ?_
   rintro e w2 ⟨v1, v2, rfl, _, hv2, hb2⟩
   have hb0 := Hb.out.below hb2
   go_wp2_with fail
   go_roundg (x % gk)
   case measure => exact Nat.mod_lt _ Hp.out
   case rel => exact ⟨gk, hb0, hv2, by show Nat.gcd gk (x % gk) = Nat.gcd m n; rw [← hg.out, Nat.gcd_comm gk, ← Nat.gcd_rec, Nat.gcd_comm], hlb, Nat.le_trans (dig_length_mono b32_two (Nat.le_of_lt (Nat.mod_lt _ Hp.out))) hlb, ext_trans hbel hb2⟩

def IsDen (d' d : Nat) : Prop := d' = d ∨ (d' = 0 ∧ d = 1)

def IsR (w : World) (v : Value) (q : Rat) : Prop :=
 ∃ vn vd d', v = .agg #[.bool (decide (q.num < 0)), vn, vd] ∧ IsNat .u32 b32 w vn q.num.natAbs ∧ IsNat .u32 b32 w vd d' ∧ IsDen d' q.den
theorem IsR.below {w w' : World} {v : Value} {q : Rat} (h : IsR w v q) (hb : Below w.heap.size w w') : IsR w' v q := by
 obtain ⟨vn, vd, d', rfl, h1, h2, h3⟩ := h
 exact ⟨vn, vd, d', rfl, h1.below hb, h2.below hb, h3⟩
def RetR (q : Rat) (w : World) (e : Ending) (w' : World) : Prop := ∃ v, e = .returned v ∧ IsR w' v q ∧ Below w.heap.size w w'
theorem IsR.zero (w : World) : IsR w (.agg #[.bool false, .slice none 0 0, .slice none 0 0]) 0 :=
 ⟨_, _, 0, rfl, IsNat.zero _ _ _, IsNat.zero _ _ _, .inr ⟨rfl, rfl⟩⟩
theorem IsR.opened {w : World} {v : Value} {q : Rat} (h : IsR w v q) : ∃ d' a1 c1 a2 c2, v = .agg #[.bool (decide (q.num < 0)), .slice a1 (dig b32 q.num.natAbs).length c1, .slice a2 (dig b32 d').length c2] ∧
  IsNat .u32 b32 w (.slice a1 (dig b32 q.num.natAbs).length c1) q.num.natAbs ∧ IsNat .u32 b32 w (.slice a2 (dig b32 d').length c2) d' ∧ IsDen d' q.den := by
 obtain ⟨vn, vd, d', rfl, h1, h2, h3⟩ := h
 have h1' := h1
 have h2' := h2
 obtain ⟨a1, c1, rfl, _⟩ := IsRow.opened h1
 obtain ⟨a2, c2, rfl, _⟩ := IsRow.opened h2
 exact ⟨d', a1, c1, a2, c2, rfl, h1', h2', h3⟩

set_option maxHeartbeats 1000000 in
theorem qunder_any (d' d : Nat) (b : Bool) (a1 : Option Addr) (l1 c1 : Nat) (a2 : Option Addr) (c2 : Nat) (w : World) (h : IsNat .u32 b32 w (.slice a2 (dig b32 d').length c2) d') (hd : IsDen d' d) (hd0 : d ≠ 0) :
  Calls Tryz.prog 59 #[.agg #[.bool b, .slice a1 l1 c1, .slice a2 (dig b32 d').length c2]] w (RetNat .u32 b32 d w) := by
 have hal : Below w.heap.size w (w.alloc (.cells #[.bool b, .slice a1 l1 c1, .slice a2 (dig b32 d').length c2] 70)) := (Below.refl _ _).alloc (Nat.le_refl _) _
 by_cases h0 : d' = 0
 ·
  obtain rfl : d = 1 := by rcases hd with h | h; exact absurd (h.symm.trans h0) hd0; exact h.2
  subst h0
  clear h hd hd0
  go_enter Tryz.func59, Tryz.ntmps59
  go_wp2_with fail
  refine (nat_any 1 _ (by unfold b64; omega)).mono ?_
  rintro e w' ⟨v, rfl, hv, hb⟩
  go_wp2_with fail
  go_ret
  exact ⟨_, rfl, hv, ext_trans hal hb⟩
 ·
  obtain rfl : d' = d := by rcases hd with h | h; exact h; exact absurd h.1 h0
  have hl : ((dig b32 d').length : Int) ≠ 0 := fun h1 => h0 ((dig_nil_iff b32_two d').1 (List.eq_nil_of_length_eq_zero (by omega)))
  have hb : (((dig b32 d').length : Int) == 0) = false := beq_eq_false_iff_ne.2 hl
  have H := Lib.hid h
  clear h hd hd0 h0 hl
  go_enter Tryz.func59, Tryz.ntmps59
  go_wp2_with fail
  go_ret
  exact ⟨_, rfl, H.out.below hal, hal⟩

end Go.Proofs.YtofijjomfhmbjaaGreat

namespace Go.Proofs.YtofijjomfhmbjaaGreat
open Go.RowKit

theorem cmpN_one (g : Nat) (h : g ≤ 1) : decide (cmpN g 1 > 0) = false := cmpN_ngt (by omega)

set_option maxHeartbeats 2000000 in
theorem made_any (neg : Bool) (n d : Nat) (vn vd : Value) (w : World) (hn : IsNat .u32 b32 w vn n) (hd : IsNat .u32 b32 w vd d) (hd0 : 0 < d) (hla : (dig b32 n).length ≤ 68719476736) (hlb : (dig b32 d).length ≤ 68719476736) :
  Calls Tryz.prog 57 #[.bool neg, vn, vd] w (RetR (mkQ neg n d) w) := by
 have hal : Below w.heap.size w (w.alloc (.cells #[.bool false, .slice none 0 0, .slice none 0 0] 70)) := (Below.refl _ _).alloc (Nat.le_refl _) _
 have hB0 := blk_new w #[.bool false, .slice none 0 0, .slice none 0 0] 70
 by_cases hn0 : n = 0
 ·
  have Hn := Lib.hid hn0
  rw [hn0] at hn
  obtain ⟨ao, cap, rfl, _⟩ := IsRow.opened hn
  rw [dig_zero, List.length_nil]
  clear hn hn0 hla
  go_enter Tryz.func57, Tryz.ntmps57
  go_wp2_with fail
  have hal2 := hal.alloc hal.size (.cells #[] 144)
  refine (nat_any 1 _ (by unfold b64; omega)).mono ?_
  rintro e w1 ⟨v, rfl, hv, hb⟩
  have hx := hal2.trans (hb.mono hal2.size)
  have hB1 : (w1.heap[w.heap.size]? = _) := (hb.block w.heap.size (by simp; omega)).trans ((heap_alloc_old _ _ (by simp)).trans hB0)
  obtain ⟨a1, c1, rfl, _⟩ := IsRow.opened hv
  have hBl := blk_lt hB1
  have c0 := blk_cell hB1 0 (.bool false) rfl
  have c1 := blk_cell hB1 1 (.slice none 0 0) rfl
  have c2 := blk_cell hB1 2 (.slice none 0 0) rfl
  have f0 := blk_frozen hB1 0
  have f1 := blk_frozen hB1 1
  have f2 := blk_frozen hB1 2
  have HB := Lib.hid hB1
  have Hv := Lib.hid hv
  clear hB1 hv hb hal hal2 hB0
  go_wp2_with fail
  refine bodyPost_ret (v := .agg #[.bool false, .slice (some ⟨w.heap.size + 1, 0, none⟩) 0 0, .slice a1 (dig b32 1).length _]) (by simp [results, Tryz.results57, go_sem, c0, c1, c2]; first | done | exact ⟨rfl, rfl⟩ | rfl) rfl ⟨_, rfl, ?_, below_store3 hx (Nat.le_refl _)⟩
  rw [Hn.out, mkQ_zero]
  refine ⟨_, _, 1, rfl, ?_, store3 HB.out Hv.out, .inl rfl⟩
  exact .inl ⟨rfl, _, _, rfl, by unfold maxLen; omega, fun _ => rfl⟩
 ·
  have hg0 : 0 < Nat.gcd n d := Nat.gcd_pos_of_pos_right n hd0
  have Hneg := Lib.hid (mkQ_neg neg n d hd0 hn0)
  have Hnum := Lib.hid (mkQ_num neg n d hd0)
  have Hden := Lib.hid (mkQ_den neg n d hd0)
  have hl : ((dig b32 n).length : Int) ≠ 0 := fun h0 => by
   have := (dig_nil_iff b32_two n).1 (List.eq_nil_of_length_eq_zero (by omega)); omega
  have hlb0 : (((dig b32 n).length : Int) == 0) = false := beq_eq_false_iff_ne.2 hl
  have Hn := Lib.hid hn
  have Hd := Lib.hid hd
  obtain ⟨ao, cap, rfl, _⟩ := IsRow.opened hn
  have Hg0 := Lib.hid hg0
  have hlg : Hid ((dig b32 (Nat.gcd n d)).length ≤ 68719476736) := Nat.le_trans (dig_length_mono b32_two (Nat.gcd_le_right n hd0)) hlb
  generalize hq : mkQ neg n d = q at *
  clear hn hd hl hq hn0 hg0 hd0
  go_enter Tryz.func57, Tryz.ntmps57
  go_wp2_with fail
  refine (divisor_any n d _ _ _ (Hn.out.below hal) (Hd.out.below hal) hla hlb).mono ?_
  rintro e w1 ⟨vg, rfl, hvg, hb1⟩
  have hx1 := ext_trans hal hb1
  have hB1 := blk_keep hB0 hb1 (by simp)
  have Hvg := Lib.hid hvg
  clear hal hB0 hb1 hvg
  go_wp2_with fail
  refine (nat_any 1 _ (by unfold b64; omega)).mono ?_
  rintro e w2 ⟨v1, rfl, hv1, hb2⟩
  have hx2 := ext_trans hx1 hb2
  have hB2 := blk_keep hB1 hb2 (blk_lt hB1)
  have Hvg2 := Lib.hid (Hvg.out.below hb2)
  have Hv1 := Lib.hid hv1
  clear hx1 hB1 hb2 hv1
  go_wp2_with fail
  refine (order_any (Nat.gcd n d) 1 _ _ w2 Hvg2.out Hv1.out).mono ?_
  rintro e w' ⟨rfl, nq, rfl⟩
  have hx2' : Below w.heap.size w (w2.drewN nq) := below_dn hx2 nq
  have hB2' : (w2.drewN nq).heap[w.heap.size]? = some (.cells #[.bool false, .slice none 0 0, .slice none 0 0] 70 (0, 0)) := hB2
  have Hvg2' : Hid (IsNat .u32 b32 (w2.drewN nq) vg (Nat.gcd n d)) := Hvg2.out
  clear hx2 hB2
  by_cases hg1 : Nat.gcd n d = 1
  ·
   have t1 : decide (cmpN (Nat.gcd n d) 1 > 0) = false := cmpN_one _ (by omega)
   generalize cmpN (Nat.gcd n d) 1 = c at *
   have Hg1 := Lib.hid hg1
   clear hg1
   have HB := Lib.hid hB2'
   have hBl := blk_lt hB2'
   obtain ⟨ad, cd, rfl, _⟩ := IsRow.opened Hd.out
   have c0 := blk_cell hB2' 0 (.bool false) rfl
   have c1 := blk_cell hB2' 1 (.slice none 0 0) rfl
   have c2 := blk_cell hB2' 2 (.slice none 0 0) rfl
   have f0 := blk_frozen hB2' 0
   have f1 := blk_frozen hB2' 1
   have f2 := blk_frozen hB2' 2
   clear hB2'
   go_wp2_with fail
   refine bodyPost_ret (v := .agg #[.bool neg, .slice ao (dig b32 n).length cap, .slice ad (dig b32 d).length cd]) (by simp [results, Tryz.results57, go_sem, c0, c1, c2]; first | done | exact ⟨rfl, rfl⟩ | rfl) rfl ⟨_, rfl, ?_, below_store3 hx2' (Nat.le_refl _)⟩
   refine ⟨_, _, d, by rw [Hneg.out], ?_, ?_, ?_⟩
   ·
    rw [Hnum.out, Hg1.out, Nat.div_one]; exact store3 HB.out (Hn.out.below hx2')
   ·
    exact store3 HB.out (Hd.out.below hx2')
   ·
    rw [Hden.out, Hg1.out, Nat.div_one]; exact .inl rfl
  ·
   have t1 : decide (cmpN (Nat.gcd n d) 1 > 0) = true := cmpN_gt (by have := Hg0.out; omega)
   generalize cmpN (Nat.gcd n d) 1 = c at *
   clear hg1
   go_wp2_with fail
   refine (quotient_any n _ _ _ _ (Hn.out.below hx2') Hvg2'.out (by have := Hg0.out; omega) hla hlg.out).mono ?_
   rintro e w3 ⟨v3, v4, rfl, hv3, _, hb3⟩
   have hx3 := ext_trans hx2' hb3
   have hB3 := blk_keep hB2' hb3 (blk_lt hB2')
   have Hvg3 := Lib.hid (Hvg2'.out.below hb3)
   have Hv3 := Lib.hid hv3
   clear hx2' hB2' hv3 hb3
   go_wp2_with fail
   refine (quotient_any d _ _ _ _ (Hd.out.below hx3) Hvg3.out (by have := Hg0.out; omega) hlb hlg.out).mono ?_
   rintro e w4 ⟨v5, v6, rfl, hv5, _, hb4⟩
   have hx4 := ext_trans hx3 hb4
   have hB4 := blk_keep hB3 hb4 (blk_lt hB3)
   have Hv34 := Lib.hid (Hv3.out.below hb4)
   have Hv5 := Lib.hid hv5
   obtain ⟨a3, c3, rfl, _⟩ := IsRow.opened Hv34.out
   obtain ⟨a5, c5, rfl, _⟩ := IsRow.opened Hv5.out
   clear hx3 hB3 hv5 hb4
   have HB := Lib.hid hB4
   have hBl := blk_lt hB4
   have c0 := blk_cell hB4 0 (.bool false) rfl
   have c1 := blk_cell hB4 1 (.slice none 0 0) rfl
   have c2 := blk_cell hB4 2 (.slice none 0 0) rfl
   have f0 := blk_frozen hB4 0
   have f1 := blk_frozen hB4 1
   have f2 := blk_frozen hB4 2
   clear hB4
   go_wp2_with fail
   refine bodyPost_ret (v := .agg #[.bool neg, .slice a3 (dig b32 (n / Nat.gcd n d)).length c3, .slice a5 (dig b32 (d / Nat.gcd n d)).length c5]) (by simp [results, Tryz.results57, go_sem, c0, c1, c2]; first | done | exact ⟨rfl, rfl⟩ | rfl) rfl ⟨_, rfl, ?_, below_store3 hx4 (Nat.le_refl _)⟩
   refine ⟨_, _, d / Nat.gcd n d, by rw [Hneg.out], ?_, ?_, ?_⟩
   ·
    rw [Hnum.out]; exact store3 HB.out Hv34.out
   ·
    exact store3 HB.out Hv5.out
   ·
    rw [Hden.out]; exact .inl rfl

set_option maxHeartbeats 1000000 in
theorem magnitude_any (n : Int) (w : World) (h1 : -9223372036854775808 ≤ n) (h2 : n ≤ 9223372036854775807) : Calls Tryz.prog 88 #[.int .i64 n] w (RetNat .u32 b32 n.natAbs w) := by
 have hb : n.natAbs < b64 := by unfold b64; omega
 by_cases hn : n < 0
 ·
  have e1 : IntKind.u64.wrap (-(IntKind.u64.wrap n)) = ((n.natAbs : Nat) : Int) := by
   rw [IntKind.wrap_u64, IntKind.wrap_u64]; omega
  go_enter Tryz.func88, Tryz.ntmps88
  go_wp2_with fail
  refine (nat_any n.natAbs _ hb).mono ?_
  rintro e w' ⟨v, rfl, hv, hb'⟩
  go_wp2_with fail
  go_ret
  exact ⟨_, rfl, hv, hb'⟩
 ·
  have e1 : IntKind.u64.wrap n = ((n.natAbs : Nat) : Int) := by
   rw [IntKind.wrap_u64]; omega
  go_enter Tryz.func88, Tryz.ntmps88
  go_wp2_with fail
  refine (nat_any n.natAbs _ hb).mono ?_
  rintro e w' ⟨v, rfl, hv, hb'⟩
  go_wp2_with fail
  go_ret
  exact ⟨_, rfl, hv, hb'⟩

end Go.Proofs.YtofijjomfhmbjaaGreat

namespace Go.Proofs.YtofijjomfhmbjaaGreat
open Go.RowKit

theorem natAbs_short32 (n : Int) (h1 : -9223372036854775808 ≤ n) (h2 : n ≤ 9223372036854775807) : (dig b32 n.natAbs).length ≤ 2 := dig_length_le b32_two 2 _ (by unfold b32; omega)
theorem dig32_one : (dig b32 1).length ≤ 1 := dig_length_le b32_two 1 _ (by unfold b32; omega)
theorem mkQ_int (n : Int) : mkQ (decide (n < 0)) n.natAbs 1 = (n : Rat) := by
 have h := rat_eq (n : Rat)
 simp only [Rat.num_intCast, Rat.den_intCast] at h
 exact h.symm

set_option maxHeartbeats 1000000 in
theorem qint_any (n : Int) (w : World) (h1 : -9223372036854775808 ≤ n) (h2 : n ≤ 9223372036854775807) : Calls Tryz.prog 62 #[.int .i64 n] w (RetR (n : Rat) w) := by
 have hal : Below w.heap.size w (w.alloc (.cells #[.bool false, .slice none 0 0, .slice none 0 0] 70)) := (Below.refl _ _).alloc (Nat.le_refl _) _
 have hB0 := blk_new w #[.bool false, .slice none 0 0, .slice none 0 0] 70
 have Hq := Lib.hid (mkQ_int n)
 go_enter Tryz.func62, Tryz.ntmps62
 go_wp2_with fail
 refine (magnitude_any n _ h1 h2).mono ?_
 rintro e w1 ⟨v1, rfl, hv1, hb1⟩
 have hx1 := ext_trans hal hb1
 have hB1 := blk_keep hB0 hb1 (by simp)
 go_wp2_with fail
 refine (nat_any 1 _ (by unfold b64; omega)).mono ?_
 rintro e w2 ⟨v2, rfl, hv2, hb2⟩
 have hx2 := ext_trans hx1 hb2
 have hB2 := blk_keep hB1 hb2 (blk_lt hB1)
 go_wp2_with fail
 refine (made_any _ n.natAbs 1 _ _ _ (hv1.below hb2) hv2 (by omega) (by have := natAbs_short32 n h1 h2; omega) (by have := dig32_one; omega)).mono ?_
 rintro e w3 ⟨v, rfl, hv, hb⟩
 rw [Hq.out] at hv
 have hx3 := ext_trans hx2 hb
 have hB3 := blk_keep hB2 hb (blk_lt hB2)
 obtain ⟨d', a1, c1, a2, c2, rfl, hn', hd', hden⟩ := hv.opened
 generalize (n : Rat) = q at *
 clear hv1 hv2 hv hb hb1 hb2 hx1 hx2 hal hB0 hB1 hB2
 have hBl := blk_lt hB3
 have c0 := blk_cell hB3 0 (.bool false) rfl
 have c1 := blk_cell hB3 1 (.slice none 0 0) rfl
 have c2 := blk_cell hB3 2 (.slice none 0 0) rfl
 have f0 := blk_frozen hB3 0
 have f1 := blk_frozen hB3 1
 have f2 := blk_frozen hB3 2
 have HB := Lib.hid hB3
 clear hB3
 go_wp2_with fail
 refine bodyPost_ret (v := .agg #[.bool (decide (q.num < 0)), .slice a1 (dig b32 q.num.natAbs).length _, .slice a2 (dig b32 d').length _]) (by simp [results, Tryz.results62, go_sem, c0, c1, c2]; first | done | exact ⟨rfl, rfl⟩ | rfl) rfl ⟨_, rfl, ?_, below_store3 hx3 (Nat.le_refl _)⟩
 exact ⟨_, _, d', rfl, store3 HB.out hn', store3 HB.out hd', hden⟩

set_option maxHeartbeats 1000000 in
theorem qzero_any (b : Bool) (a1 : Option Addr) (n c1 : Nat) (a2 : Option Addr) (l2 c2 : Nat) (w : World) :
  Calls Tryz.prog 40 #[.agg #[.bool b, .slice a1 (dig b32 n).length c1, .slice a2 l2 c2]] w (RetBool (decide (n = 0)) w) := by
 have e : ((((dig b32 n).length : Nat) : Int) == 0) = decide (n = 0) := by
  rw [Bool.eq_iff_iff]
  simp only [beq_iff_eq, decide_eq_true_eq]
  rw [← dig_nil_iff b32_two n]
  constructor
  ·
   intro h; exact List.eq_nil_of_length_eq_zero (by omega)
  ·
   intro h; rw [h]; rfl
 rw [← e]
 clear e
 go_enter Tryz.func40, Tryz.ntmps40
 go_wp2_with fail
 go_ret
 exact ⟨rfl, (Below.refl _ _).alloc (Nat.le_refl _) _⟩

set_option maxHeartbeats 1000000 in
theorem qsign_any (b : Bool) (a1 : Option Addr) (n c1 : Nat) (a2 : Option Addr) (l2 c2 : Nat) (w : World) (hbn : b = true → n ≠ 0) :
  Calls Tryz.prog 22 #[.agg #[.bool b, .slice a1 (dig b32 n).length c1, .slice a2 l2 c2]] w (RetInt (sgnI b n) w) := by
 have hal : Below w.heap.size w (w.alloc (.cells #[.bool b, .slice a1 (dig b32 n).length c1, .slice a2 l2 c2] 70)) := (Below.refl _ _).alloc (Nat.le_refl _) _
 by_cases hn : n = 0
 ·
  obtain rfl : b = false := by cases b; rfl; exact absurd hn (hbn rfl)
  have t : decide (n = 0) = true := by simp [hn]
  have Hs : Hid (sgnI false n = 0) := by show sgnI false n = 0; simp [sgnI, hn]
  clear hn hbn
  go_enter Tryz.func22, Tryz.ntmps22
  go_wp2_with fail
  refine (qzero_any _ _ n _ _ _ _ _).mono ?_
  rw [t]
  rintro e w' ⟨rfl, hb⟩
  go_wp2_with fail
  go_ret
  exact ⟨by rw [Hs.out]; rfl, ext_trans hal hb⟩
 ·
  have t : decide (n = 0) = false := by simp [hn]
  have Hs : Hid (sgnI b n = if b then -1 else 1) := by show sgnI b n = if b then -1 else 1; cases b <;> simp [sgnI, hn]
  have hB0 := blk_new w #[.bool b, .slice a1 (dig b32 n).length c1, .slice a2 l2 c2] 70
  clear hn hbn
  go_enter Tryz.func22, Tryz.ntmps22
  go_wp2_with fail
  refine (qzero_any _ _ n _ _ _ _ _).mono ?_
  rw [t]
  rintro e w' ⟨rfl, hb⟩
  have hx := ext_trans hal hb
  have hB1 := blk_keep hB0 hb (by simp)
  have c0 := blk_cell hB1 0 (.bool b) rfl
  clear hB0 hB1 hal hb
  cases b with
  | true =>
   go_wp2_with fail
   go_ret
   exact ⟨by rw [Hs.out]; rfl, hx⟩
  | false =>
   go_wp2_with fail
   go_ret
   exact ⟨by rw [Hs.out]; rfl, hx⟩

end Go.Proofs.YtofijjomfhmbjaaGreat

namespace Go.Proofs.YtofijjomfhmbjaaGreat
open Go.RowKit

theorem neg_lt_num (q : Rat) : decide ((-q).num < 0) = (!decide (q.num < 0) && !decide (q.num.natAbs = 0)) := by
 have e : (-q).num = -q.num := rfl
 rw [e]
 by_cases h : q.num < 0
 ·
  have : ¬ 0 < q.num := by omega
  simp [h, this]
 ·
  by_cases h0 : q.num = 0
  ·
   simp [h0]
  ·
   have : 0 < q.num := by omega
   simp [h, h0, this]

def cellOf (w : World) (a : Addr) : Value := (w.cell? a).getD undef
def RB (w : World) (B : Nat) : Prop := ∃ b x i j y k l T, w.heap[B]? = some (.cells #[.bool b, .slice x i j, .slice y k l] T (0, 0))
theorem RB.lt {w : World} {B : Nat} (h : RB w B) : B < w.heap.size := by
 obtain ⟨b, x, i, j, y, k, l, T, h⟩ := h; exact blk_lt h
theorem RB.keep {a b : World} {B n : Nat} (h : RB a B) (hb : Below n a b) (hB : B < n) : RB b B := by
 obtain ⟨b, x, i, j, y, k, l, T, h⟩ := h
 exact ⟨b, x, i, j, y, k, l, T, blk_keep h hb hB⟩
theorem RB.store {w : World} {B : Nat} (h : RB w B) (neg : Bool) (x1 y1 : Option Addr) (i1 j1 k1 l1 : Nat) :
  RB (((w.setCell ⟨B, 0, none⟩ (.bool neg)).setCell ⟨B, 1, none⟩ (.slice x1 i1 j1)).setCell ⟨B, 2, none⟩ (.slice y1 k1 l1)) B := by
 obtain ⟨b, x, i, j, y, k, l, T, h⟩ := h
 exact ⟨neg, x1, i1, j1, y1, k1, l1, T, by exact blk_set (blk_set (blk_set h 0 (.bool neg)) 1 (.slice x1 i1 j1)) 2 (.slice y1 k1 l1)⟩
theorem RB.cell {w : World} {B : Nat} (h : RB w B) : w.cell? ⟨B, 0, none⟩ = some (cellOf w ⟨B, 0, none⟩) ∧ w.cell? ⟨B, 1, none⟩ = some (cellOf w ⟨B, 1, none⟩) ∧ w.cell? ⟨B, 2, none⟩ = some (cellOf w ⟨B, 2, none⟩) ∧
  w.frozen? ⟨B, 0, none⟩ = false ∧ w.frozen? ⟨B, 1, none⟩ = false ∧ w.frozen? ⟨B, 2, none⟩ = false := by
 obtain ⟨b, x, i, j, y, k, l, T, h⟩ := h
 have e : ∀ a v, w.cell? a = some v → w.cell? a = some (cellOf w a) := fun a v h => by unfold cellOf; rw [h]; rfl
 exact ⟨e _ _ (blk_cell h 0 (.bool b) rfl), e _ _ (blk_cell h 1 (.slice x i j) rfl), e _ _ (blk_cell h 2 (.slice y k l) rfl), blk_frozen h 0, blk_frozen h 1, blk_frozen h 2⟩

theorem hold3 {n : Nat} {w0 a : World} {B1 B : Nat} {v0 v1 v2 : Value} (h0 : Below n w0 a) (h1 : a.cell? ⟨B1, 0, none⟩ = some v0) (h2 : a.cell? ⟨B1, 1, none⟩ = some v1) (h3 : a.cell? ⟨B1, 2, none⟩ = some v2) (hB : RB a B) :
  Below n w0 a ∧ RB a B ∧ a.cell? ⟨B1, 0, none⟩ = some v0 ∧ a.cell? ⟨B1, 1, none⟩ = some v1 ∧ a.cell? ⟨B1, 2, none⟩ = some v2 ∧
   a.cell? ⟨B, 0, none⟩ = some (cellOf a ⟨B, 0, none⟩) ∧ a.cell? ⟨B, 1, none⟩ = some (cellOf a ⟨B, 1, none⟩) ∧ a.cell? ⟨B, 2, none⟩ = some (cellOf a ⟨B, 2, none⟩) ∧
   a.frozen? ⟨B, 0, none⟩ = false ∧ a.frozen? ⟨B, 1, none⟩ = false ∧ a.frozen? ⟨B, 2, none⟩ = false := ⟨h0, hB, h1, h2, h3, hB.cell⟩
theorem hold3_call {n : Nat} {w0 a b : World} {B1 B : Nat} {v0 v1 v2 : Value} {R : Prop} (hn : n ≤ w0.heap.size) (hb : Below a.heap.size a b)
  (h : Below n w0 a ∧ RB a B ∧ a.cell? ⟨B1, 0, none⟩ = some v0 ∧ a.cell? ⟨B1, 1, none⟩ = some v1 ∧ a.cell? ⟨B1, 2, none⟩ = some v2 ∧ R) :
  Below n w0 b ∧ RB b B ∧ b.cell? ⟨B1, 0, none⟩ = some v0 ∧ b.cell? ⟨B1, 1, none⟩ = some v1 ∧ b.cell? ⟨B1, 2, none⟩ = some v2 ∧
   b.cell? ⟨B, 0, none⟩ = some (cellOf b ⟨B, 0, none⟩) ∧ b.cell? ⟨B, 1, none⟩ = some (cellOf b ⟨B, 1, none⟩) ∧ b.cell? ⟨B, 2, none⟩ = some (cellOf b ⟨B, 2, none⟩) ∧
   b.frozen? ⟨B, 0, none⟩ = false ∧ b.frozen? ⟨B, 1, none⟩ = false ∧ b.frozen? ⟨B, 2, none⟩ = false := by
 obtain ⟨h0, hB, h1, h2, h3, _⟩ := h
 have hl := World.block_lt_of_cell? (h := h1)
 have e : ∀ j, b.cell? ⟨B1, j, none⟩ = a.cell? ⟨B1, j, none⟩ := fun j => hb.cell (p := ⟨B1, j, none⟩) hl
 have hs := h0.size
 exact hold3 (h0.trans (hb.mono (by omega))) ((e _).trans h1) ((e _).trans h2) ((e _).trans h3) (hB.keep hb hB.lt)
theorem hold3_store {n : Nat} {w0 a : World} {B1 B : Nat} {v0 v1 v2 : Value} {R : Prop} (neg : Bool) (x1 y1 : Option Addr) (i1 j1 k1 l1 : Nat) (hn : n ≤ B) (hne : B1 ≠ B)
  (h : Below n w0 a ∧ RB a B ∧ a.cell? ⟨B1, 0, none⟩ = some v0 ∧ a.cell? ⟨B1, 1, none⟩ = some v1 ∧ a.cell? ⟨B1, 2, none⟩ = some v2 ∧ R) (b : World)
  (hb : b = ((a.setCell ⟨B, 0, none⟩ (.bool neg)).setCell ⟨B, 1, none⟩ (.slice x1 i1 j1)).setCell ⟨B, 2, none⟩ (.slice y1 k1 l1)) :
  Below n w0 b ∧ RB b B ∧ b.cell? ⟨B1, 0, none⟩ = some v0 ∧ b.cell? ⟨B1, 1, none⟩ = some v1 ∧ b.cell? ⟨B1, 2, none⟩ = some v2 ∧
   b.cell? ⟨B, 0, none⟩ = some (cellOf b ⟨B, 0, none⟩) ∧ b.cell? ⟨B, 1, none⟩ = some (cellOf b ⟨B, 1, none⟩) ∧ b.cell? ⟨B, 2, none⟩ = some (cellOf b ⟨B, 2, none⟩) ∧
   b.frozen? ⟨B, 0, none⟩ = false ∧ b.frozen? ⟨B, 1, none⟩ = false ∧ b.frozen? ⟨B, 2, none⟩ = false := by
 obtain ⟨h0, hB, h1, h2, h3, _⟩ := h
 subst hb
 have e : ∀ j v, a.cell? ⟨B1, j, none⟩ = some v → (((a.setCell ⟨B, 0, none⟩ (.bool neg)).setCell ⟨B, 1, none⟩ (.slice x1 i1 j1)).setCell ⟨B, 2, none⟩ (.slice y1 k1 l1)).cell? ⟨B1, j, none⟩ = some v := fun j v h => by
  rw [World.cell?_setCell_other, World.cell?_setCell_other, World.cell?_setCell_other, h]
  all_goals intro e; cases e; exact hne rfl
 exact hold3 (below_store3 h0 hn) (e _ _ h1) (e _ _ h2) (e _ _ h3) (hB.store ..)

theorem natAbs_neg_num (q : Rat) : (-q).num.natAbs = q.num.natAbs := by show (-q.num).natAbs = _; exact Int.natAbs_neg _
theorem IsR.stored {w : World} {B : Nat} {neg : Bool} {x1 y1 : Option Addr} {i1 j1 k1 l1 n d' : Nat} {q : Rat}
  (hB : RB w B) (h1 : IsNat .u32 b32 w (.slice x1 i1 j1) n) (h2 : IsNat .u32 b32 w (.slice y1 k1 l1) d') (hd : IsDen d' q.den)
  (hn : decide (q.num < 0) = neg) (hm : q.num.natAbs = n) :
  IsR (((w.setCell ⟨B, 0, none⟩ (.bool neg)).setCell ⟨B, 1, none⟩ (.slice x1 i1 j1)).setCell ⟨B, 2, none⟩ (.slice y1 k1 l1)) (.agg #[.bool neg, .slice x1 i1 j1, .slice y1 k1 l1]) q := by
 subst hn hm
 obtain ⟨b, x, i, j, y, k, l, T, hB⟩ := hB
 exact ⟨_, _, d', rfl, store3 hB h1, store3 hB h2, hd⟩

set_option maxHeartbeats 2000000 in
theorem qneg_any (x : Rat) (vx : Value) (w : World) (hx : IsR w vx x) : Calls Tryz.prog 61 #[vx] w (RetR (-x) w) := by
 obtain ⟨d', a1, c1, a2, c2, rfl, n1, n2, hden⟩ := hx.opened
 have N1 := Lib.hid n1
 have N2 := Lib.hid n2
 have He := Lib.hid (neg_lt_num x)
 clear hx n1 n2
 go_enter Tryz.func61, Tryz.ntmps61
 go_wp2_with fail
 generalize hneg : decide (x.num < 0) = neg at *
 have hal : Below w.heap.size w ((w.alloc (.cells #[.bool neg, .slice a1 (dig b32 x.num.natAbs).length c1, .slice a2 (dig b32 d').length c2] 70)).alloc (.cells #[.bool false, .slice none 0 0, .slice none 0 0] 70)) :=
  ((Below.refl _ _).alloc (Nat.le_refl _) _).alloc (by simp) _
 have hB1 := (blk_keep (blk_new w #[.bool neg, .slice a1 (dig b32 x.num.natAbs).length c1, .slice a2 (dig b32 d').length c2] 70) ((Below.refl _ _).alloc (Nat.le_refl _) (.cells #[.bool false, .slice none 0 0, .slice none 0 0] 70)) (by simp))
 have hB2 := blk_new (w.alloc (.cells #[.bool neg, .slice a1 (dig b32 x.num.natAbs).length c1, .slice a2 (dig b32 d').length c2] 70)) #[.bool false, .slice none 0 0, .slice none 0 0] 70
 rw [World.size_alloc] at hB2
 generalize ((w.alloc (.cells #[.bool neg, .slice a1 (dig b32 x.num.natAbs).length c1, .slice a2 (dig b32 d').length c2] 70)).alloc (.cells #[.bool false, .slice none 0 0, .slice none 0 0] 70)) = W at *
 have p0 := blk_cell hB1 0 (.bool neg) rfl
 have p1 := blk_cell hB1 1 (.slice a1 (dig b32 x.num.natAbs).length c1) rfl
 have p2 := blk_cell hB1 2 (.slice a2 (dig b32 d').length c2) rfl
 have hl1 := blk_lt hB1
 have hl2 := blk_lt hB2
 have e0 := blk_cell hB2 0 (.bool false) rfl
 have e1 := blk_cell hB2 1 (.slice none 0 0) rfl
 have e2 := blk_cell hB2 2 (.slice none 0 0) rfl
 have f0 := blk_frozen hB2 0
 have f1 := blk_frozen hB2 1
 have f2 := blk_frozen hB2 2
 have HB : Hid (RB W (w.heap.size + 1)) := ⟨false, none, 0, 0, none, 0, 0, _, hB2⟩
 clear hB1 hB2
 have hW : Below w.heap.size w W.drew := hal.drew
 cases neg with
 | true =>
  go_region
  go_wp2_with fail
  refine bodyPost_ret (v := .agg #[.bool false, .slice a1 (dig b32 x.num.natAbs).length _, .slice a2 (dig b32 d').length _]) (by simp [results, Tryz.results61, go_sem, e0, e1, e2]; first | done | exact ⟨rfl, rfl⟩ | rfl) rfl ⟨_, rfl, ?_, below_store3 hW (by omega)⟩
  exact IsR.stored (w := W.drew) HB.out (N1.out.below hW) (N2.out.below hW) hden He.out (natAbs_neg_num x)
 | false =>
  by_cases h0 : x.num.natAbs = 0
  ·
   have t0 : Hid (decide (x.num.natAbs = 0) = true) := decide_eq_true h0
   clear h0
   go_region_held3 (fun w' => Below w.heap.size w w' ∧ RB w' (w.heap.size + 1) ∧ w'.cell? ⟨w.heap.size, 0, none⟩ = some (.bool false) ∧ w'.cell? ⟨w.heap.size, 1, none⟩ = some (.slice a1 (dig b32 x.num.natAbs).length c1) ∧ w'.cell? ⟨w.heap.size, 2, none⟩ = some (.slice a2 (dig b32 d').length c2) ∧
     w'.cell? ⟨w.heap.size + 1, 0, none⟩ = some (cellOf w' ⟨w.heap.size + 1, 0, none⟩) ∧ w'.cell? ⟨w.heap.size + 1, 1, none⟩ = some (cellOf w' ⟨w.heap.size + 1, 1, none⟩) ∧ w'.cell? ⟨w.heap.size + 1, 2, none⟩ = some (cellOf w' ⟨w.heap.size + 1, 2, none⟩) ∧
     w'.frozen? ⟨w.heap.size + 1, 0, none⟩ = false ∧ w'.frozen? ⟨w.heap.size + 1, 1, none⟩ = false ∧ w'.frozen? ⟨w.heap.size + 1, 2, none⟩ = false)
    (first | exact hold3 hW p0 p1 p2 HB.out | exact hold3_call (Nat.le_refl _) hb' (by assumption) | exact hold3_store _ _ _ _ _ _ _ (Nat.le_succ _) (Nat.ne_of_lt (Nat.lt_succ_self _)) (by assumption) _ rfl)
    (first | (go_at_call 40; refine (qzero_any _ _ x.num.natAbs _ _ _ _ _).mono ?_; rw [t0.out]; rintro e w' ⟨rfl, hb'⟩))
   have hRB := RB.keep (a := W.drew) HB.out hb' hl2
   obtain ⟨c0, c1, c2, f0', f1', f2'⟩ := hRB.cell
   have hx := hW.trans (hb'.mono hW.size)
   have hBl := hRB.lt
   go_wp2_with fail
   refine bodyPost_ret (v := .agg #[.bool false, .slice a1 (dig b32 x.num.natAbs).length _, .slice a2 (dig b32 d').length _]) (by simp [results, Tryz.results61, go_sem, c0, c1, c2]; first | done | exact ⟨rfl, rfl⟩ | rfl) rfl ⟨_, rfl, ?_, below_store3 hx (by omega)⟩
   exact IsR.stored hRB (N1.out.below hx) (N2.out.below hx) hden (by rw [He.out, t0.out]; rfl) (natAbs_neg_num x)
  ·
   have t0 : Hid (decide (x.num.natAbs = 0) = false) := decide_eq_false h0
   clear h0
   go_region_held3 (fun w' => Below w.heap.size w w' ∧ RB w' (w.heap.size + 1) ∧ w'.cell? ⟨w.heap.size, 0, none⟩ = some (.bool false) ∧ w'.cell? ⟨w.heap.size, 1, none⟩ = some (.slice a1 (dig b32 x.num.natAbs).length c1) ∧ w'.cell? ⟨w.heap.size, 2, none⟩ = some (.slice a2 (dig b32 d').length c2) ∧
     w'.cell? ⟨w.heap.size + 1, 0, none⟩ = some (cellOf w' ⟨w.heap.size + 1, 0, none⟩) ∧ w'.cell? ⟨w.heap.size + 1, 1, none⟩ = some (cellOf w' ⟨w.heap.size + 1, 1, none⟩) ∧ w'.cell? ⟨w.heap.size + 1, 2, none⟩ = some (cellOf w' ⟨w.heap.size + 1, 2, none⟩) ∧
     w'.frozen? ⟨w.heap.size + 1, 0, none⟩ = false ∧ w'.frozen? ⟨w.heap.size + 1, 1, none⟩ = false ∧ w'.frozen? ⟨w.heap.size + 1, 2, none⟩ = false)
    (first | exact hold3 hW p0 p1 p2 HB.out | exact hold3_call (Nat.le_refl _) hb' (by assumption) | exact hold3_store _ _ _ _ _ _ _ (Nat.le_succ _) (Nat.ne_of_lt (Nat.lt_succ_self _)) (by assumption) _ rfl)
    (first | (go_at_call 40; refine (qzero_any _ _ x.num.natAbs _ _ _ _ _).mono ?_; rw [t0.out]; rintro e w' ⟨rfl, hb'⟩))
   have hRB := RB.keep (a := W.drew) HB.out hb' hl2
   obtain ⟨c0, c1, c2, f0', f1', f2'⟩ := hRB.cell
   have hx := hW.trans (hb'.mono hW.size)
   have hBl := hRB.lt
   go_wp2_with fail
   refine bodyPost_ret (v := .agg #[.bool true, .slice a1 (dig b32 x.num.natAbs).length _, .slice a2 (dig b32 d').length _]) (by simp [results, Tryz.results61, go_sem, c0, c1, c2]; first | done | exact ⟨rfl, rfl⟩ | rfl) rfl ⟨_, rfl, ?_, below_store3 hx (by omega)⟩
   exact IsR.stored hRB (N1.out.below hx) (N2.out.below hx) hden (by rw [He.out, t0.out]; rfl) (natAbs_neg_num x)

end Go.Proofs.YtofijjomfhmbjaaGreat

namespace Go.Proofs.YtofijjomfhmbjaaGreat
open Go.RowKit

theorem hold6 {n : Nat} {w0 a : World} {B1 B2 B : Nat} {v0 v1 v2 v3 v4 v5 : Value} (h0 : Below n w0 a) (h1 : a.cell? ⟨B1, 0, none⟩ = some v0) (h2 : a.cell? ⟨B1, 1, none⟩ = some v1) (h3 : a.cell? ⟨B1, 2, none⟩ = some v2)
  (h4 : a.cell? ⟨B2, 0, none⟩ = some v3) (h5 : a.cell? ⟨B2, 1, none⟩ = some v4) (h6 : a.cell? ⟨B2, 2, none⟩ = some v5) (hB : RB a B) :
  Below n w0 a ∧ RB a B ∧ a.cell? ⟨B1, 0, none⟩ = some v0 ∧ a.cell? ⟨B1, 1, none⟩ = some v1 ∧ a.cell? ⟨B1, 2, none⟩ = some v2 ∧
   a.cell? ⟨B2, 0, none⟩ = some v3 ∧ a.cell? ⟨B2, 1, none⟩ = some v4 ∧ a.cell? ⟨B2, 2, none⟩ = some v5 ∧
   a.cell? ⟨B, 0, none⟩ = some (cellOf a ⟨B, 0, none⟩) ∧ a.cell? ⟨B, 1, none⟩ = some (cellOf a ⟨B, 1, none⟩) ∧ a.cell? ⟨B, 2, none⟩ = some (cellOf a ⟨B, 2, none⟩) ∧
   a.frozen? ⟨B, 0, none⟩ = false ∧ a.frozen? ⟨B, 1, none⟩ = false ∧ a.frozen? ⟨B, 2, none⟩ = false := ⟨h0, hB, h1, h2, h3, h4, h5, h6, hB.cell⟩
theorem hold6_call {n : Nat} {w0 a b : World} {B1 B2 B : Nat} {v0 v1 v2 v3 v4 v5 : Value} {R : Prop} (hn : n ≤ w0.heap.size) (hb : Below a.heap.size a b)
  (h : Below n w0 a ∧ RB a B ∧ a.cell? ⟨B1, 0, none⟩ = some v0 ∧ a.cell? ⟨B1, 1, none⟩ = some v1 ∧ a.cell? ⟨B1, 2, none⟩ = some v2 ∧
   a.cell? ⟨B2, 0, none⟩ = some v3 ∧ a.cell? ⟨B2, 1, none⟩ = some v4 ∧ a.cell? ⟨B2, 2, none⟩ = some v5 ∧ R) :
  Below n w0 b ∧ RB b B ∧ b.cell? ⟨B1, 0, none⟩ = some v0 ∧ b.cell? ⟨B1, 1, none⟩ = some v1 ∧ b.cell? ⟨B1, 2, none⟩ = some v2 ∧
   b.cell? ⟨B2, 0, none⟩ = some v3 ∧ b.cell? ⟨B2, 1, none⟩ = some v4 ∧ b.cell? ⟨B2, 2, none⟩ = some v5 ∧
   b.cell? ⟨B, 0, none⟩ = some (cellOf b ⟨B, 0, none⟩) ∧ b.cell? ⟨B, 1, none⟩ = some (cellOf b ⟨B, 1, none⟩) ∧ b.cell? ⟨B, 2, none⟩ = some (cellOf b ⟨B, 2, none⟩) ∧
   b.frozen? ⟨B, 0, none⟩ = false ∧ b.frozen? ⟨B, 1, none⟩ = false ∧ b.frozen? ⟨B, 2, none⟩ = false := by
 obtain ⟨h0, hB, h1, h2, h3, h4, h5, h6, _⟩ := h
 have e : ∀ B1 j v, a.cell? ⟨B1, j, none⟩ = some v → b.cell? ⟨B1, j, none⟩ = some v := fun B1 j v h => (hb.cell (p := ⟨B1, j, none⟩) (World.block_lt_of_cell? (h := h))).trans h
 have hs := h0.size
 exact hold6 (h0.trans (hb.mono (by omega))) (e _ _ _ h1) (e _ _ _ h2) (e _ _ _ h3) (e _ _ _ h4) (e _ _ _ h5) (e _ _ _ h6) (hB.keep hb hB.lt)
theorem hold6_store {n : Nat} {w0 a : World} {B1 B2 B : Nat} {v0 v1 v2 v3 v4 v5 : Value} {R : Prop} (neg : Bool) (x1 y1 : Option Addr) (i1 j1 k1 l1 : Nat) (hn : n ≤ B) (hne : B1 ≠ B) (hne2 : B2 ≠ B)
  (h : Below n w0 a ∧ RB a B ∧ a.cell? ⟨B1, 0, none⟩ = some v0 ∧ a.cell? ⟨B1, 1, none⟩ = some v1 ∧ a.cell? ⟨B1, 2, none⟩ = some v2 ∧
   a.cell? ⟨B2, 0, none⟩ = some v3 ∧ a.cell? ⟨B2, 1, none⟩ = some v4 ∧ a.cell? ⟨B2, 2, none⟩ = some v5 ∧ R) (b : World)
  (hb : b = ((a.setCell ⟨B, 0, none⟩ (.bool neg)).setCell ⟨B, 1, none⟩ (.slice x1 i1 j1)).setCell ⟨B, 2, none⟩ (.slice y1 k1 l1)) :
  Below n w0 b ∧ RB b B ∧ b.cell? ⟨B1, 0, none⟩ = some v0 ∧ b.cell? ⟨B1, 1, none⟩ = some v1 ∧ b.cell? ⟨B1, 2, none⟩ = some v2 ∧
   b.cell? ⟨B2, 0, none⟩ = some v3 ∧ b.cell? ⟨B2, 1, none⟩ = some v4 ∧ b.cell? ⟨B2, 2, none⟩ = some v5 ∧
   b.cell? ⟨B, 0, none⟩ = some (cellOf b ⟨B, 0, none⟩) ∧ b.cell? ⟨B, 1, none⟩ = some (cellOf b ⟨B, 1, none⟩) ∧ b.cell? ⟨B, 2, none⟩ = some (cellOf b ⟨B, 2, none⟩) ∧
   b.frozen? ⟨B, 0, none⟩ = false ∧ b.frozen? ⟨B, 1, none⟩ = false ∧ b.frozen? ⟨B, 2, none⟩ = false := by
 obtain ⟨h0, hB, h1, h2, h3, h4, h5, h6, _⟩ := h
 subst hb
 have e : ∀ B1 j v, B1 ≠ B → a.cell? ⟨B1, j, none⟩ = some v → (((a.setCell ⟨B, 0, none⟩ (.bool neg)).setCell ⟨B, 1, none⟩ (.slice x1 i1 j1)).setCell ⟨B, 2, none⟩ (.slice y1 k1 l1)).cell? ⟨B1, j, none⟩ = some v := fun B1 j v hne h => by
  rw [World.cell?_setCell_other, World.cell?_setCell_other, World.cell?_setCell_other, h]
  all_goals intro e; cases e; exact hne rfl
 exact hold6 (below_store3 h0 hn) (e _ _ _ hne h1) (e _ _ _ hne h2) (e _ _ _ hne h3) (e _ _ _ hne2 h4) (e _ _ _ hne2 h5) (e _ _ _ hne2 h6) (hB.store ..)

theorem boxes3 (w : World) (A1 A2 A3 : Array Value) (T : Nat) (W : World) (hW : W = ((w.alloc (.cells A1 T)).alloc (.cells A2 T)).alloc (.cells A3 T)) :
  Below w.heap.size w W ∧ W.heap[w.heap.size]? = some (.cells A1 T (0, 0)) ∧ W.heap[w.heap.size + 1]? = some (.cells A2 T (0, 0)) ∧ W.heap[w.heap.size + 2]? = some (.cells A3 T (0, 0)) := by
 subst hW
 refine ⟨(((Below.refl _ _).alloc (Nat.le_refl _) _).alloc (by simp) _).alloc (by simp; omega) _, ?_, ?_, ?_⟩
 ·
  rw [heap_alloc_old _ _ (by simp; omega), heap_alloc_old _ _ (by simp)]; exact blk_new w A1 T
 ·
  rw [heap_alloc_old _ _ (by simp)]; have := blk_new (w.alloc (.cells A1 T)) A2 T; rw [World.size_alloc] at this; exact this
 ·
  have := blk_new ((w.alloc (.cells A1 T)).alloc (.cells A2 T)) A3 T; rw [World.size_alloc, World.size_alloc] at this; exact this

def szQ (q : Rat) (k : Nat) : Prop := (dig b32 q.num.natAbs).length ≤ k ∧ (dig b32 q.den).length ≤ k

theorem sg_mul (a b : Bool) (m n : Nat) : sg (!(a == b)) (m * n) = sg a m * sg b n := by
 cases a <;> cases b <;> simp [sg, Int.neg_mul, Int.mul_neg]
theorem sg_self (q : Rat) : sg (decide (q.num < 0)) q.num.natAbs = q.num := by
 unfold sg
 by_cases h : q.num < 0 <;> simp [h] <;> omega
theorem mkQ_mul (x y : Rat) : mkQ (!(decide (x.num < 0) == decide (y.num < 0))) (x.num.natAbs * y.num.natAbs) (x.den * y.den) = x * y := by
 unfold mkQ
 rw [sg_mul, sg_self, sg_self, Rat.mul_def, Rat.normalize_eq_mkRat]

set_option maxHeartbeats 2000000 in
theorem qmul_any (x y : Rat) (vx vy : Value) (w : World) (hx : IsR w vx x) (hy : IsR w vy y) (hlx : szQ x 34359738368) (hly : szQ y 34359738368) : Calls Tryz.prog 41 #[vx, vy] w (RetR (x * y) w) := by
 obtain ⟨d1, a1, c1, a2, c2, rfl, n1, n2, den1⟩ := hx.opened
 obtain ⟨d2, a3, c3, a4, c4, rfl, n3, n4, den2⟩ := hy.opened
 have N1 := Lib.hid n1
 have N2 := Lib.hid n2
 have N3 := Lib.hid n3
 have N4 := Lib.hid n4
 have He := Lib.hid (mkQ_mul x y)
 have HLX := Lib.hid hlx
 have HLY := Lib.hid hly
 have D1 := Lib.hid den1
 have D2 := Lib.hid den2
 clear hx hy n1 n2 n3 n4 hlx hly den1 den2
 go_enter Tryz.func41, Tryz.ntmps41
 go_wp2_with fail
 generalize hsx : decide (x.num < 0) = sx at *
 generalize hsy : decide (y.num < 0) = sy at *
 clear hsx hsy
 generalize hW0 : ((w.alloc (.cells #[.bool sx, .slice a1 (dig b32 x.num.natAbs).length c1, .slice a2 (dig b32 d1).length c2] 70)).alloc (.cells #[.bool sy, .slice a3 (dig b32 y.num.natAbs).length c3, .slice a4 (dig b32 d2).length c4] 70)).alloc (.cells #[.bool false, .slice none 0 0, .slice none 0 0] 70) = W at *
 obtain ⟨hal, hB1, hB2, hB3⟩ := boxes3 w _ _ _ _ W hW0.symm
 clear hW0
 have hW : Below w.heap.size w W.drew := hal.drew
 have p0 := blk_cell hB1 0 (.bool sx) rfl
 have p1 := blk_cell hB1 1 (.slice a1 (dig b32 x.num.natAbs).length c1) rfl
 have p2 := blk_cell hB1 2 (.slice a2 (dig b32 d1).length c2) rfl
 have r0 := blk_cell hB2 0 (.bool sy) rfl
 have r1 := blk_cell hB2 1 (.slice a3 (dig b32 y.num.natAbs).length c3) rfl
 have r2 := blk_cell hB2 2 (.slice a4 (dig b32 d2).length c4) rfl
 have HB : Hid (RB W (w.heap.size + 2)) := ⟨false, none, 0, 0, none, 0, 0, _, hB3⟩
 have hl3 := blk_lt hB3
 clear hB1 hB2 hB3
 go_region_held3 (fun w' => Below w.heap.size w w' ∧ RB w' (w.heap.size + 2) ∧ w'.cell? ⟨w.heap.size, 0, none⟩ = some (.bool sx) ∧ w'.cell? ⟨w.heap.size, 1, none⟩ = some (.slice a1 (dig b32 x.num.natAbs).length c1) ∧ w'.cell? ⟨w.heap.size, 2, none⟩ = some (.slice a2 (dig b32 d1).length c2) ∧ w'.cell? ⟨w.heap.size + 1, 0, none⟩ = some (.bool sy) ∧ w'.cell? ⟨w.heap.size + 1, 1, none⟩ = some (.slice a3 (dig b32 y.num.natAbs).length c3) ∧ w'.cell? ⟨w.heap.size + 1, 2, none⟩ = some (.slice a4 (dig b32 d2).length c4) ∧ w'.cell? ⟨w.heap.size + 2, 0, none⟩ = some (cellOf w' ⟨w.heap.size + 2, 0, none⟩) ∧ w'.cell? ⟨w.heap.size + 2, 1, none⟩ = some (cellOf w' ⟨w.heap.size + 2, 1, none⟩) ∧ w'.cell? ⟨w.heap.size + 2, 2, none⟩ = some (cellOf w' ⟨w.heap.size + 2, 2, none⟩) ∧ w'.frozen? ⟨w.heap.size + 2, 0, none⟩ = false ∧ w'.frozen? ⟨w.heap.size + 2, 1, none⟩ = false ∧ w'.frozen? ⟨w.heap.size + 2, 2, none⟩ = false)
  (first | exact hold6 hW p0 p1 p2 r0 r1 r2 HB.out | exact hold6_call (Nat.le_refl _) hbE (by assumption) | exact hold6_call (Nat.le_refl _) hbD (by assumption) | exact hold6_call (Nat.le_refl _) hbC (by assumption) | exact hold6_call (Nat.le_refl _) hbB (by assumption) | exact hold6_call (Nat.le_refl _) hbA (by assumption) | exact hold6_store _ _ _ _ _ _ _ (by omega) (by omega) (by omega) (by assumption) _ rfl)
  (first
   | (go_at_call_of 58 (Value.slice a1 (dig b32 x.num.natAbs).length c1); refine (product_any x.num.natAbs y.num.natAbs _ _ _ (N1.out.below (And.left (by assumption))) (N3.out.below (And.left (by assumption))) (by have := HLX.out.1; have := HLY.out.1; omega)).mono ?_; rintro e wA ⟨vA, rfl, hvA, hbA⟩)
   | (go_at_call_of 59 (Value.slice a2 (dig b32 d1).length c2); refine (qunder_any d1 x.den _ _ _ _ _ _ _ (N2.out.below (And.left (by assumption))) D1.out x.den_nz).mono ?_; rintro e wB ⟨vB, rfl, hvB, hbB⟩)
   | (go_at_call_of 59 (Value.slice a4 (dig b32 d2).length c4); refine (qunder_any d2 y.den _ _ _ _ _ _ _ (N4.out.below (And.left (by assumption))) D2.out y.den_nz).mono ?_; rintro e wC ⟨vC, rfl, hvC, hbC⟩)
   | (go_at_call 58; refine (product_any x.den y.den _ _ _ (hvB.below hbC) hvC (by have := HLX.out.2; have := HLY.out.2; omega)).mono ?_; rintro e wD ⟨vD, rfl, hvD, hbD⟩)
   | (go_at_call 57; refine (made_any _ (x.num.natAbs * y.num.natAbs) (x.den * y.den) _ _ _ (hvA.below (ext_trans hbB (ext_trans hbC hbD))) hvD (Nat.mul_pos x.den_pos y.den_pos) (by have := dig_length_mul b32_two x.num.natAbs y.num.natAbs; have := HLX.out.1; have := HLY.out.1; omega) (by have := dig_length_mul b32_two x.den y.den; have := HLX.out.2; have := HLY.out.2; omega)).mono ?_; rintro e wE ⟨vE, rfl, hvE, hbE⟩; obtain ⟨d5, a5, c5, a6, c6, rfl, n5, n6, D5⟩ := IsR.opened hvE))
 have hE := ext_trans (ext_trans (ext_trans (ext_trans hbA hbB) hbC) hbD) hbE
 have hRB := RB.keep (a := W.drew) HB.out hE hl3
 obtain ⟨g0, g1, g2, f0', f1', f2'⟩ := hRB.cell
 have hx := hW.trans (hE.mono hW.size)
 have hBl := hRB.lt
 have He' := He.out
 generalize mkQ (!sx == sy) (x.num.natAbs * y.num.natAbs) (x.den * y.den) = q at *
 subst He'
 go_wp2_with fail
 refine bodyPost_ret (v := .agg #[.bool (decide ((x * y).num < 0)), .slice a5 (dig b32 (x * y).num.natAbs).length _, .slice a6 (dig b32 d5).length _]) (by simp [results, Tryz.results41, go_sem, g0, g1, g2]; first | done | exact ⟨rfl, rfl⟩ | rfl) rfl ⟨_, rfl, ?_, below_store3 hx (by omega)⟩
 exact IsR.stored hRB n5 n6 D5 rfl rfl

end Go.Proofs.YtofijjomfhmbjaaGreat

namespace Go.Proofs.YtofijjomfhmbjaaGreat
open Go.RowKit

theorem mkQ_add (x y : Rat) (s : Bool) (n : Nat) (h : sg s n = sg (decide (x.num < 0)) (x.num.natAbs * y.den) + sg (decide (y.num < 0)) (y.num.natAbs * x.den)) : mkQ s n (x.den * y.den) = x + y := by
 unfold mkQ
 rw [h, Rat.add_def, Rat.normalize_eq_mkRat]
 have e : ∀ (b : Bool) (m k : Nat), sg b (m * k) = sg b m * (k : Int) := fun b m k => by cases b <;> simp [sg, Int.neg_mul]
 rw [e, e, sg_self, sg_self]
theorem sg_add (s : Bool) (m n : Nat) : sg s (m + n) = sg s m + sg s n := by
 cases s <;> simp [sg] <;> omega
theorem sg_sub {s t : Bool} (h : (s == t) = false) {m n : Nat} (hle : n ≤ m) : sg s (m - n) = sg s m + sg t n := by
 cases s <;> cases t <;> simp [sg] at h ⊢ <;> omega

set_option maxRecDepth 100000 in
set_option maxHeartbeats 4000000 in
theorem qadd_any (x y : Rat) (vx vy : Value) (w : World) (hx : IsR w vx x) (hy : IsR w vy y) (hlx : szQ x 17179869184) (hly : szQ y 17179869184) : Calls Tryz.prog 60 #[vx, vy] w (RetR (x + y) w) := by
 obtain ⟨d1, a1, c1, a2, c2, rfl, n1, n2, den1⟩ := hx.opened
 obtain ⟨d2, a3, c3, a4, c4, rfl, n3, n4, den2⟩ := hy.opened
 have N1 := Lib.hid n1
 have N2 := Lib.hid n2
 have N3 := Lib.hid n3
 have N4 := Lib.hid n4
 have He := Lib.hid (mkQ_add x y)
 have D1 := Lib.hid den1
 have D2 := Lib.hid den2
 have hA := dig_length_mul b32_two x.num.natAbs y.den
 have hB := dig_length_mul b32_two y.num.natAbs x.den
 have hC := dig_length_mul b32_two x.den y.den
 have HA : Hid ((dig b32 (x.num.natAbs * y.den)).length ≤ 34359738368) := by have := hlx.1; have := hly.2; show _ ≤ _; omega
 have HBB : Hid ((dig b32 (y.num.natAbs * x.den)).length ≤ 34359738368) := by have := hlx.2; have := hly.1; show _ ≤ _; omega
 have HC : Hid ((dig b32 (x.den * y.den)).length ≤ 34359738368) := by have := hlx.2; have := hly.2; show _ ≤ _; omega
 have hS := dig_length_add b32_two (x.num.natAbs * y.den) (y.num.natAbs * x.den) 34359738368 HA.out HBB.out
 have HS := Lib.hid hS
 have HP := Lib.hid (Nat.mul_pos x.den_pos y.den_pos)
 have HLX := Lib.hid hlx
 have HLY := Lib.hid hly
 clear hx hy n1 n2 n3 n4 hlx hly den1 den2 hA hB hC hS
 go_enter Tryz.func60, Tryz.ntmps60
 go_wp2_with fail
 generalize hsx : decide (x.num < 0) = sx at *
 generalize hsy : decide (y.num < 0) = sy at *
 clear hsx hsy
 generalize hW0 : ((w.alloc (.cells #[.bool sx, .slice a1 (dig b32 x.num.natAbs).length c1, .slice a2 (dig b32 d1).length c2] 70)).alloc (.cells #[.bool sy, .slice a3 (dig b32 y.num.natAbs).length c3, .slice a4 (dig b32 d2).length c4] 70)).alloc (.cells #[.bool false, .slice none 0 0, .slice none 0 0] 70) = W at *
 obtain ⟨hal, hB1, hB2, hB3⟩ := boxes3 w _ _ _ _ W hW0.symm
 clear hW0
 have hW : Below w.heap.size w W.drew := hal.drew
 have p0 := blk_cell hB1 0 (.bool sx) rfl
 have p1 := blk_cell hB1 1 (.slice a1 (dig b32 x.num.natAbs).length c1) rfl
 have p2 := blk_cell hB1 2 (.slice a2 (dig b32 d1).length c2) rfl
 have r0 := blk_cell hB2 0 (.bool sy) rfl
 have r1 := blk_cell hB2 1 (.slice a3 (dig b32 y.num.natAbs).length c3) rfl
 have r2 := blk_cell hB2 2 (.slice a4 (dig b32 d2).length c4) rfl
 have HB : Hid (RB W (w.heap.size + 2)) := ⟨false, none, 0, 0, none, 0, 0, _, hB3⟩
 have hl3 := blk_lt hB3
 clear hB1 hB2 hB3
 go_region_held3 (fun w' => Below w.heap.size w w' ∧ RB w' (w.heap.size + 2) ∧ w'.cell? ⟨w.heap.size, 0, none⟩ = some (.bool sx) ∧ w'.cell? ⟨w.heap.size, 1, none⟩ = some (.slice a1 (dig b32 x.num.natAbs).length c1) ∧ w'.cell? ⟨w.heap.size, 2, none⟩ = some (.slice a2 (dig b32 d1).length c2) ∧ w'.cell? ⟨w.heap.size + 1, 0, none⟩ = some (.bool sy) ∧ w'.cell? ⟨w.heap.size + 1, 1, none⟩ = some (.slice a3 (dig b32 y.num.natAbs).length c3) ∧ w'.cell? ⟨w.heap.size + 1, 2, none⟩ = some (.slice a4 (dig b32 d2).length c4) ∧ w'.cell? ⟨w.heap.size + 2, 0, none⟩ = some (cellOf w' ⟨w.heap.size + 2, 0, none⟩) ∧ w'.cell? ⟨w.heap.size + 2, 1, none⟩ = some (cellOf w' ⟨w.heap.size + 2, 1, none⟩) ∧ w'.cell? ⟨w.heap.size + 2, 2, none⟩ = some (cellOf w' ⟨w.heap.size + 2, 2, none⟩) ∧ w'.frozen? ⟨w.heap.size + 2, 0, none⟩ = false ∧ w'.frozen? ⟨w.heap.size + 2, 1, none⟩ = false ∧ w'.frozen? ⟨w.heap.size + 2, 2, none⟩ = false)
  (first | exact hold6 hW p0 p1 p2 r0 r1 r2 HB.out | exact hold6_call (Nat.le_refl _) hbD (by assumption) | exact hold6_call (Nat.le_refl _) hbC (by assumption) | exact hold6_call (Nat.le_refl _) hbB (by assumption) | exact hold6_call (Nat.le_refl _) hbA (by assumption))
  (first
   | (go_at_call_of 59 (Value.slice a4 (dig b32 d2).length c4); refine (qunder_any d2 y.den _ _ _ _ _ _ _ (N4.out.below (And.left (by assumption))) D2.out y.den_nz).mono ?_; rintro e wA ⟨vA, rfl, hvA, hbA⟩)
   | (go_at_call_of 58 (Value.slice a1 (dig b32 x.num.natAbs).length c1); refine (product_any x.num.natAbs y.den _ _ _ (N1.out.below (And.left (by assumption))) hvA (by have := HLX.out.1; have := HLY.out.2; omega)).mono ?_; rintro e wB ⟨vB, rfl, hvB, hbB⟩)
   | (go_at_call_of 59 (Value.slice a2 (dig b32 d1).length c2); refine (qunder_any d1 x.den _ _ _ _ _ _ _ (N2.out.below (And.left (by assumption))) D1.out x.den_nz).mono ?_; rintro e wC ⟨vC, rfl, hvC, hbC⟩)
   | (go_at_call_of 58 (Value.slice a3 (dig b32 y.num.natAbs).length c3); refine (product_any y.num.natAbs x.den _ _ _ (N3.out.below (And.left (by assumption))) hvC (by have := HLX.out.2; have := HLY.out.1; omega)).mono ?_; rintro e wD ⟨vD, rfl, hvD, hbD⟩))
 rename_i hS1
 have hD := ext_trans (ext_trans (ext_trans hbA hbB) hbC) hbD
 have HB1 : Hid (RB wD (w.heap.size + 2)) := RB.keep (a := W.drew) HB.out hD hl3
 have hl31 := HB1.out.lt
 have hB1 := Lib.hid (hvB.below (ext_trans hbC hbD))
 have hD1 := Lib.hid hvD
 obtain ⟨hWD, -, p0', p1', p2', r0', r1', r2', -⟩ := hS1
 clear p0 p1 p2 r0 r1 r2 hbA hbB hbC hbD hvA hvB hvC hvD hD HB hW hal hl3
 replace p0 := p0'
 replace p1 := p1'
 replace p2 := p2'
 replace r0 := r0'
 replace r1 := r1'
 replace r2 := r2'
 have hW2 : Below w.heap.size w wD.drew := hWD.drew
 clear p0' p1' p2' r0' r1' r2'
 go_wp2_with fail
 go_region_held3 (fun w' => Below w.heap.size w w' ∧ RB w' (w.heap.size + 2) ∧ w'.cell? ⟨w.heap.size, 0, none⟩ = some (.bool sx) ∧ w'.cell? ⟨w.heap.size, 1, none⟩ = some (.slice a1 (dig b32 x.num.natAbs).length c1) ∧ w'.cell? ⟨w.heap.size, 2, none⟩ = some (.slice a2 (dig b32 d1).length c2) ∧ w'.cell? ⟨w.heap.size + 1, 0, none⟩ = some (.bool sy) ∧ w'.cell? ⟨w.heap.size + 1, 1, none⟩ = some (.slice a3 (dig b32 y.num.natAbs).length c3) ∧ w'.cell? ⟨w.heap.size + 1, 2, none⟩ = some (.slice a4 (dig b32 d2).length c4) ∧ w'.cell? ⟨w.heap.size + 2, 0, none⟩ = some (cellOf w' ⟨w.heap.size + 2, 0, none⟩) ∧ w'.cell? ⟨w.heap.size + 2, 1, none⟩ = some (cellOf w' ⟨w.heap.size + 2, 1, none⟩) ∧ w'.cell? ⟨w.heap.size + 2, 2, none⟩ = some (cellOf w' ⟨w.heap.size + 2, 2, none⟩) ∧ w'.frozen? ⟨w.heap.size + 2, 0, none⟩ = false ∧ w'.frozen? ⟨w.heap.size + 2, 1, none⟩ = false ∧ w'.frozen? ⟨w.heap.size + 2, 2, none⟩ = false)
  (first | exact hold6 hW2 p0 p1 p2 r0 r1 r2 HB1.out | exact hold6_call (Nat.le_refl _) hbC (by assumption) | exact hold6_call (Nat.le_refl _) hbB (by assumption) | exact hold6_call (Nat.le_refl _) hbA (by assumption))
  (first
   | (go_at_call_of 59 (Value.slice a2 (dig b32 d1).length c2); refine (qunder_any d1 x.den _ _ _ _ _ _ _ (N2.out.below (And.left (by assumption))) D1.out x.den_nz).mono ?_; rintro e wA ⟨vA, rfl, hvA, hbA⟩)
   | (go_at_call_of 59 (Value.slice a4 (dig b32 d2).length c4); refine (qunder_any d2 y.den _ _ _ _ _ _ _ (N4.out.below (And.left (by assumption))) D2.out y.den_nz).mono ?_; rintro e wB ⟨vB', rfl, hvB, hbB⟩)
   | (go_at_call 58; refine (product_any x.den y.den _ _ _ (hvA.below hbB) hvB (by have := HLX.out.2; have := HLY.out.2; omega)).mono ?_; rintro e wC ⟨vC', rfl, hvC, hbC⟩))
 rename_i hS1
 have hE : Below wD.heap.size wD wC := (ext_trans (Below.refl _ _).drew (ext_trans (ext_trans hbA hbB) hbC))
 have HB2 : Hid (RB wC (w.heap.size + 2)) := RB.keep HB1.out hE hl31
 have hl32 := HB2.out.lt
 have hB2 := Lib.hid (hB1.out.below hE)
 have hD2 := Lib.hid (hD1.out.below hE)
 have hC2 := Lib.hid hvC
 obtain ⟨hWC, -, p0', p1', p2', r0', r1', r2', -⟩ := hS1
 clear p0 p1 p2 r0 r1 r2 hbA hbB hbC hvA hvB hvC hE hB1 hD1 HB1 hW2 hWD hl31
 replace p0 := p0'
 replace p1 := p1'
 replace p2 := p2'
 replace r0 := r0'
 replace r1 := r1'
 replace r2 := r2'
 clear p0' p1' p2' r0' r1' r2'
 generalize x.num.natAbs * y.den = A at *
 generalize y.num.natAbs * x.den = B at *
 generalize x.den * y.den = C at *
 by_cases hs : (sx == sy) = true
 ·
  have Hs := Lib.hid hs
  go_wp2_with fail
  have hWe : Below w.heap.size w (wC).drew := hWC.drew
  go_region_held3 (fun w' => Below w.heap.size w w' ∧ RB w' (w.heap.size + 2) ∧ w'.cell? ⟨w.heap.size, 0, none⟩ = some (.bool sx) ∧ w'.cell? ⟨w.heap.size, 1, none⟩ = some (.slice a1 (dig b32 x.num.natAbs).length c1) ∧ w'.cell? ⟨w.heap.size, 2, none⟩ = some (.slice a2 (dig b32 d1).length c2) ∧ w'.cell? ⟨w.heap.size + 1, 0, none⟩ = some (.bool sy) ∧ w'.cell? ⟨w.heap.size + 1, 1, none⟩ = some (.slice a3 (dig b32 y.num.natAbs).length c3) ∧ w'.cell? ⟨w.heap.size + 1, 2, none⟩ = some (.slice a4 (dig b32 d2).length c4) ∧ w'.cell? ⟨w.heap.size + 2, 0, none⟩ = some (cellOf w' ⟨w.heap.size + 2, 0, none⟩) ∧ w'.cell? ⟨w.heap.size + 2, 1, none⟩ = some (cellOf w' ⟨w.heap.size + 2, 1, none⟩) ∧ w'.cell? ⟨w.heap.size + 2, 2, none⟩ = some (cellOf w' ⟨w.heap.size + 2, 2, none⟩) ∧ w'.frozen? ⟨w.heap.size + 2, 0, none⟩ = false ∧ w'.frozen? ⟨w.heap.size + 2, 1, none⟩ = false ∧ w'.frozen? ⟨w.heap.size + 2, 2, none⟩ = false)
   (first | exact hold6 hWe p0 p1 p2 r0 r1 r2 HB2.out | exact hold6_call (Nat.le_refl _) hbE (by assumption) | exact hold6_call (Nat.le_refl _) hbD (by assumption) | exact hold6_store _ _ _ _ _ _ _ (by omega) (by omega) (by omega) (by assumption) _ rfl)
   (first
    | (go_at_call 86; refine (sum_any A B _ _ _ (hB2.out.below (Below.refl _ _).drew) (hD2.out.below (Below.refl _ _).drew) (by have := HA.out; omega) (by have := HBB.out; omega)).mono ?_; rintro e wD' ⟨vE, rfl, hvE, hbD⟩)
    | (go_at_call 57; refine (made_any _ (A + B) C _ _ _ hvE (hC2.out.below (ext_trans (show Below (wC).heap.size wC (wC).drew from (Below.refl _ _).drew) hbD)) HP.out (by have := HA.out; have := HBB.out; have := HS.out; omega) (by have := HC.out; omega)).mono ?_; rintro e wE ⟨vF, rfl, hvF, hbE⟩; obtain ⟨d5, a5, c5, a6, c6, rfl, n5, n6, D5⟩ := IsR.opened hvF))
  have hE := ext_trans hbD hbE
  have hRB := RB.keep (a := (wC).drew) HB2.out hE hl32
  obtain ⟨g0, g1, g2, f0', f1', f2'⟩ := hRB.cell
  have hx := hWe.trans (hE.mono hWe.size)
  have hBl := hRB.lt
  have He' := He.out sx (A + B) (by have e : sx = sy := (by simpa using Hs.out); rw [← e]; exact sg_add sx A B)
  generalize mkQ sx (A + B) C = q at *
  subst He'
  go_wp2_with fail
  refine bodyPost_ret (v := .agg #[.bool (decide ((x + y).num < 0)), .slice a5 (dig b32 (x + y).num.natAbs).length _, .slice a6 (dig b32 d5).length _]) (by simp [results, Tryz.results60, go_sem, g0, g1, g2]; first | done | exact ⟨rfl, rfl⟩ | rfl) rfl ⟨_, rfl, ?_, below_store3 hx (by omega)⟩
  exact IsR.stored hRB n5 n6 D5 rfl rfl
 ·
  have hs' : (sx == sy) = false := by simpa using hs
  have Hs := Lib.hid hs'
  clear hs
  go_wp2_with fail
  refine (order_any A B _ _ wC hB2.out hD2.out).mono ?_
  rintro e w' ⟨rfl, nq, rfl⟩
  have hWn : Below w.heap.size w (wC.drewN nq) := below_dn hWC nq
  by_cases hge : B ≤ A
  ·
   have hc := cmpN_ge hge
   generalize cmpN A B = c at *
   have Hge := Lib.hid hge
   clear hge
   go_wp2_with fail
   have hWe : Below w.heap.size w (wC.drewN nq).drew := hWn.drew
   go_region_held3 (fun w' => Below w.heap.size w w' ∧ RB w' (w.heap.size + 2) ∧ w'.cell? ⟨w.heap.size, 0, none⟩ = some (.bool sx) ∧ w'.cell? ⟨w.heap.size, 1, none⟩ = some (.slice a1 (dig b32 x.num.natAbs).length c1) ∧ w'.cell? ⟨w.heap.size, 2, none⟩ = some (.slice a2 (dig b32 d1).length c2) ∧ w'.cell? ⟨w.heap.size + 1, 0, none⟩ = some (.bool sy) ∧ w'.cell? ⟨w.heap.size + 1, 1, none⟩ = some (.slice a3 (dig b32 y.num.natAbs).length c3) ∧ w'.cell? ⟨w.heap.size + 1, 2, none⟩ = some (.slice a4 (dig b32 d2).length c4) ∧ w'.cell? ⟨w.heap.size + 2, 0, none⟩ = some (cellOf w' ⟨w.heap.size + 2, 0, none⟩) ∧ w'.cell? ⟨w.heap.size + 2, 1, none⟩ = some (cellOf w' ⟨w.heap.size + 2, 1, none⟩) ∧ w'.cell? ⟨w.heap.size + 2, 2, none⟩ = some (cellOf w' ⟨w.heap.size + 2, 2, none⟩) ∧ w'.frozen? ⟨w.heap.size + 2, 0, none⟩ = false ∧ w'.frozen? ⟨w.heap.size + 2, 1, none⟩ = false ∧ w'.frozen? ⟨w.heap.size + 2, 2, none⟩ = false)
    (first | exact hold6 hWe p0 p1 p2 r0 r1 r2 HB2.out | exact hold6_call (Nat.le_refl _) hbE (by assumption) | exact hold6_call (Nat.le_refl _) hbD (by assumption) | exact hold6_store _ _ _ _ _ _ _ (by omega) (by omega) (by omega) (by assumption) _ rfl)
    (first
     | (go_at_call 87; refine (difference_any A B _ _ ((wC.drewN nq).drew) hB2.out hD2.out Hge.out (by have := HA.out; omega)).mono ?_; rintro e wD' ⟨vE, rfl, hvE, hbD⟩)
     | (go_at_call 57; refine (made_any _ (A - B) C _ _ _ hvE (hC2.out.below (ext_trans (show Below (wC).heap.size wC (wC.drewN nq).drew from (below_dn (Below.refl _ _) _).drew) hbD)) HP.out (by have := HA.out; have := HBB.out; have := HS.out; exact Nat.le_trans (dig_length_mono b32_two (Nat.sub_le _ _)) (by omega)) (by have := HC.out; omega)).mono ?_; rintro e wE ⟨vF, rfl, hvF, hbE⟩; obtain ⟨d5, a5, c5, a6, c6, rfl, n5, n6, D5⟩ := IsR.opened hvF))
   have hE := ext_trans hbD hbE
   have hRB := RB.keep (a := (wC.drewN nq).drew) HB2.out hE hl32
   obtain ⟨g0, g1, g2, f0', f1', f2'⟩ := hRB.cell
   have hx := hWe.trans (hE.mono hWe.size)
   have hBl := hRB.lt
   have He' := He.out sx (A - B) (sg_sub Hs.out Hge.out)
   generalize mkQ sx (A - B) C = q at *
   subst He'
   go_wp2_with fail
   refine bodyPost_ret (v := .agg #[.bool (decide ((x + y).num < 0)), .slice a5 (dig b32 (x + y).num.natAbs).length _, .slice a6 (dig b32 d5).length _]) (by simp [results, Tryz.results60, go_sem, g0, g1, g2]; first | done | exact ⟨rfl, rfl⟩ | rfl) rfl ⟨_, rfl, ?_, below_store3 hx (by omega)⟩
   exact IsR.stored hRB n5 n6 D5 rfl rfl
  ·
   have hc := cmpN_nge hge
   generalize cmpN A B = c at *
   have Hge : Hid (A ≤ B) := Nat.le_of_lt (Nat.lt_of_not_le hge)
   clear hge
   go_wp2_with fail
   have hWe : Below w.heap.size w (wC.drewN nq).drew := hWn.drew
   go_region_held3 (fun w' => Below w.heap.size w w' ∧ RB w' (w.heap.size + 2) ∧ w'.cell? ⟨w.heap.size, 0, none⟩ = some (.bool sx) ∧ w'.cell? ⟨w.heap.size, 1, none⟩ = some (.slice a1 (dig b32 x.num.natAbs).length c1) ∧ w'.cell? ⟨w.heap.size, 2, none⟩ = some (.slice a2 (dig b32 d1).length c2) ∧ w'.cell? ⟨w.heap.size + 1, 0, none⟩ = some (.bool sy) ∧ w'.cell? ⟨w.heap.size + 1, 1, none⟩ = some (.slice a3 (dig b32 y.num.natAbs).length c3) ∧ w'.cell? ⟨w.heap.size + 1, 2, none⟩ = some (.slice a4 (dig b32 d2).length c4) ∧ w'.cell? ⟨w.heap.size + 2, 0, none⟩ = some (cellOf w' ⟨w.heap.size + 2, 0, none⟩) ∧ w'.cell? ⟨w.heap.size + 2, 1, none⟩ = some (cellOf w' ⟨w.heap.size + 2, 1, none⟩) ∧ w'.cell? ⟨w.heap.size + 2, 2, none⟩ = some (cellOf w' ⟨w.heap.size + 2, 2, none⟩) ∧ w'.frozen? ⟨w.heap.size + 2, 0, none⟩ = false ∧ w'.frozen? ⟨w.heap.size + 2, 1, none⟩ = false ∧ w'.frozen? ⟨w.heap.size + 2, 2, none⟩ = false)
    (first | exact hold6 hWe p0 p1 p2 r0 r1 r2 HB2.out | exact hold6_call (Nat.le_refl _) hbE (by assumption) | exact hold6_call (Nat.le_refl _) hbD (by assumption) | exact hold6_store _ _ _ _ _ _ _ (by omega) (by omega) (by omega) (by assumption) _ rfl)
    (first
     | (go_at_call 87; refine (difference_any B A _ _ ((wC.drewN nq).drew) hD2.out hB2.out Hge.out (by have := HBB.out; omega)).mono ?_; rintro e wD' ⟨vE, rfl, hvE, hbD⟩)
     | (go_at_call 57; refine (made_any _ (B - A) C _ _ _ hvE (hC2.out.below (ext_trans (show Below (wC).heap.size wC (wC.drewN nq).drew from (below_dn (Below.refl _ _) _).drew) hbD)) HP.out (by have := HA.out; have := HBB.out; have := HS.out; exact Nat.le_trans (dig_length_mono b32_two (Nat.sub_le _ _)) (by omega)) (by have := HC.out; omega)).mono ?_; rintro e wE ⟨vF, rfl, hvF, hbE⟩; obtain ⟨d5, a5, c5, a6, c6, rfl, n5, n6, D5⟩ := IsR.opened hvF))
   have hE := ext_trans hbD hbE
   have hRB := RB.keep (a := (wC.drewN nq).drew) HB2.out hE hl32
   obtain ⟨g0, g1, g2, f0', f1', f2'⟩ := hRB.cell
   have hx := hWe.trans (hE.mono hWe.size)
   have hBl := hRB.lt
   have He' := He.out sy (B - A) (by rw [Int.add_comm]; exact sg_sub (by have := Hs.out; cases sx <;> cases sy <;> simp_all) Hge.out)
   generalize mkQ sy (B - A) C = q at *
   subst He'
   go_wp2_with fail
   refine bodyPost_ret (v := .agg #[.bool (decide ((x + y).num < 0)), .slice a5 (dig b32 (x + y).num.natAbs).length _, .slice a6 (dig b32 d5).length _]) (by simp [results, Tryz.results60, go_sem, g0, g1, g2]; first | done | exact ⟨rfl, rfl⟩ | rfl) rfl ⟨_, rfl, ?_, below_store3 hx (by omega)⟩
   exact IsR.stored hRB n5 n6 D5 rfl rfl

end Go.Proofs.YtofijjomfhmbjaaGreat

namespace Go.Proofs.YtofijjomfhmbjaaGreat
open Go.RowKit

set_option maxHeartbeats 4000000 in
theorem qsub_any (x y : Rat) (vx vy : Value) (w : World) (hx : IsR w vx x) (hy : IsR w vy y) (hlx : szQ x 17179869184) (hly : szQ y 17179869184) : Calls Tryz.prog 42 #[vx, vy] w (RetR (x - y) w) := by
 have hy0 := hy
 obtain ⟨d1, a1, c1, a2, c2, rfl, n1, n2, den1⟩ := hx.opened
 obtain ⟨d2, a3, c3, a4, c4, rfl, n3, n4, den2⟩ := hy.opened
 have HX := Lib.hid hx
 have HY := Lib.hid hy
 have HLX := Lib.hid hlx
 have hln : szQ (-y) 17179869184 := ⟨by rw [natAbs_neg_num]; exact hly.1, hly.2⟩
 have HLY := Lib.hid hln
 have He : Hid (x + -y = x - y) := (Rat.sub_eq_add_neg x y).symm
 clear hx hy n1 n2 n3 n4 hlx hly den1 den2 hln hy0
 go_enter Tryz.func42, Tryz.ntmps42
 go_wp2_with fail
 generalize hsx : decide (x.num < 0) = sx at *
 generalize hsy : decide (y.num < 0) = sy at *
 clear hsx hsy
 generalize hW0 : ((w.alloc (.cells #[.bool sx, .slice a1 (dig b32 x.num.natAbs).length c1, .slice a2 (dig b32 d1).length c2] 70)).alloc (.cells #[.bool sy, .slice a3 (dig b32 y.num.natAbs).length c3, .slice a4 (dig b32 d2).length c4] 70)).alloc (.cells #[.bool false, .slice none 0 0, .slice none 0 0] 70) = W at *
 obtain ⟨hal, hB1, hB2, hB3⟩ := boxes3 w _ _ _ _ W hW0.symm
 clear hW0
 have hW : Below w.heap.size w W.drew := hal.drew
 have p0 := blk_cell hB1 0 (.bool sx) rfl
 have p1 := blk_cell hB1 1 (.slice a1 (dig b32 x.num.natAbs).length c1) rfl
 have p2 := blk_cell hB1 2 (.slice a2 (dig b32 d1).length c2) rfl
 have r0 := blk_cell hB2 0 (.bool sy) rfl
 have r1 := blk_cell hB2 1 (.slice a3 (dig b32 y.num.natAbs).length c3) rfl
 have r2 := blk_cell hB2 2 (.slice a4 (dig b32 d2).length c4) rfl
 have HB : Hid (RB W (w.heap.size + 2)) := ⟨false, none, 0, 0, none, 0, 0, _, hB3⟩
 have hl3 := blk_lt hB3
 clear hB1 hB2 hB3
 go_region_held3 (fun w' => Below w.heap.size w w' ∧ RB w' (w.heap.size + 2) ∧ w'.cell? ⟨w.heap.size, 0, none⟩ = some (.bool sx) ∧ w'.cell? ⟨w.heap.size, 1, none⟩ = some (.slice a1 (dig b32 x.num.natAbs).length c1) ∧ w'.cell? ⟨w.heap.size, 2, none⟩ = some (.slice a2 (dig b32 d1).length c2) ∧ w'.cell? ⟨w.heap.size + 1, 0, none⟩ = some (.bool sy) ∧ w'.cell? ⟨w.heap.size + 1, 1, none⟩ = some (.slice a3 (dig b32 y.num.natAbs).length c3) ∧ w'.cell? ⟨w.heap.size + 1, 2, none⟩ = some (.slice a4 (dig b32 d2).length c4) ∧ w'.cell? ⟨w.heap.size + 2, 0, none⟩ = some (cellOf w' ⟨w.heap.size + 2, 0, none⟩) ∧ w'.cell? ⟨w.heap.size + 2, 1, none⟩ = some (cellOf w' ⟨w.heap.size + 2, 1, none⟩) ∧ w'.cell? ⟨w.heap.size + 2, 2, none⟩ = some (cellOf w' ⟨w.heap.size + 2, 2, none⟩) ∧ w'.frozen? ⟨w.heap.size + 2, 0, none⟩ = false ∧ w'.frozen? ⟨w.heap.size + 2, 1, none⟩ = false ∧ w'.frozen? ⟨w.heap.size + 2, 2, none⟩ = false)
  (first | exact hold6 hW p0 p1 p2 r0 r1 r2 HB.out | exact hold6_call (Nat.le_refl _) hbE (by assumption) | exact hold6_call (Nat.le_refl _) hbD (by assumption) | exact hold6_store _ _ _ _ _ _ _ (by omega) (by omega) (by omega) (by assumption) _ rfl)
  (first
   | (go_at_call 61; refine (qneg_any y _ _ (HY.out.below (And.left (by assumption)))).mono ?_; rintro e wD ⟨vD, rfl, hvD, hbD⟩)
   | (go_at_call 60; refine (qadd_any x (-y) _ _ _ (HX.out.below (And.left (by assumption))) hvD HLX.out HLY.out).mono ?_; rw [He.out]; rintro e wE ⟨vE, rfl, hvE, hbE⟩; obtain ⟨d5, a5, c5, a6, c6, rfl, n5, n6, D5⟩ := IsR.opened hvE))
 have hE := ext_trans hbD hbE
 have hRB := RB.keep (a := W.drew) HB.out hE hl3
 obtain ⟨g0, g1, g2, f0', f1', f2'⟩ := hRB.cell
 have hx := hW.trans (hE.mono hW.size)
 have hBl := hRB.lt
 go_wp2_with fail
 refine bodyPost_ret (v := .agg #[.bool (decide ((x - y).num < 0)), .slice a5 (dig b32 (x - y).num.natAbs).length _, .slice a6 (dig b32 d5).length _]) (by simp [results, Tryz.results42, go_sem, g0, g1, g2]; first | done | exact ⟨rfl, rfl⟩ | rfl) rfl ⟨_, rfl, ?_, below_store3 hx (by omega)⟩
 exact IsR.stored hRB n5 n6 D5 rfl rfl

end Go.Proofs.YtofijjomfhmbjaaGreat

namespace Go.Proofs.YtofijjomfhmbjaaGreat
open Go.RowKit

def sgnW : Nat := 9223372036854775808
def bin52 : Nat := 4503599627370496

end Go.Proofs.YtofijjomfhmbjaaGreat

namespace Go.Proofs.YtofijjomfhmbjaaGreat
open Go.RowKit

def fE (b : Nat) : Nat := b / bin52 % 2048
def fM0 (b : Nat) : Nat := b % bin52
def fM (b : Nat) : Nat := if fE b = 0 then fM0 b else fM0 b + bin52
def fE1 (b : Nat) : Nat := if fE b = 0 then 1 else fE b
def fS (b : Nat) : Bool := decide (b / sgnW = 1)
def fval (b : Nat) : Rat := mkQ (fS b) (fM b * 2 ^ (fE1 b - 1075)) (2 ^ (1075 - fE1 b))

end Go.Proofs.YtofijjomfhmbjaaGreat

namespace Go.Proofs.YtofijjomfhmbjaaGreat
open Go.RowKit

theorem RB.isRow {w : World} {B : Nat} (h : RB w B) {k : IntKind} {v : Value} {ds : List Nat} (hv : IsRow k w v ds) (neg : Bool) (x1 y1 : Option Addr) (i1 j1 k1 l1 : Nat) :
  IsRow k (((w.setCell ⟨B, 0, none⟩ (.bool neg)).setCell ⟨B, 1, none⟩ (.slice x1 i1 j1)).setCell ⟨B, 2, none⟩ (.slice y1 k1 l1)) v ds := by
 obtain ⟨b, x, i, j, y, k, l, T, h⟩ := h
 exact store3 h hv
theorem RB.far {w : World} {B B' : Nat} (h : RB w B) (hne : B' ≠ B) (neg : Bool) (x1 y1 : Option Addr) (i1 j1 k1 l1 : Nat) :
  RB (((w.setCell ⟨B', 0, none⟩ (.bool neg)).setCell ⟨B', 1, none⟩ (.slice x1 i1 j1)).setCell ⟨B', 2, none⟩ (.slice y1 k1 l1)) B := by
 obtain ⟨b, x, i, j, y, k, l, T, h⟩ := h
 exact ⟨b, x, i, j, y, k, l, T, by rw [heap_setCell_other _ _ _ _ (Ne.symm hne), heap_setCell_other _ _ _ _ (Ne.symm hne), heap_setCell_other _ _ _ _ (Ne.symm hne)]; exact h⟩
end Go.Proofs.YtofijjomfhmbjaaGreat

namespace Go.Proofs.YtofijjomfhmbjaaGreat
open Go.RowKit

def fracQ (n d : Int) : Rat := if d ≤ 0 then (n : Rat) else (n : Rat) / (d : Rat)

end Go.Proofs.YtofijjomfhmbjaaGreat

namespace Go.Proofs.YtofijjomfhmbjaaGreat
open Go.RowKit

def noDig (v : Value) : Prop := ∀ x : Int, v ≠ .int .u64 x ∧ v ≠ .int .u32 x
def NoDig (w : World) (g : Nat) : Prop := ∀ (j : Nat) (v : Value), w.cell? ⟨g, j, none⟩ = some v → noDig v

theorem noDig_bool (b : Bool) : noDig (.bool b) := fun _ => ⟨by simp, by simp⟩
theorem noDig_slice (a : Option Addr) (l c : Nat) : noDig (.slice a l c) := fun _ => ⟨by simp, by simp⟩
theorem noDig_i64 (x : Int) : noDig (.int .i64 x) := fun _ => ⟨by simp, by simp⟩
theorem NoDig.of_block {w : World} {g : Nat} {cs : Array Value} {t : TypeId} {fr : Nat × Nat} (hg : w.heap[g]? = some (.cells cs t fr)) (h : ∀ v ∈ cs.toList, noDig v) : NoDig w g := by
 intro j v hv
 rw [cell_of_row w g j cs t fr hg] at hv
 exact h v (by simpa using Array.mem_of_getElem? hv)

def LRow (w : World) (base : Nat) (e : TypeId) (size : Nat) (v : Value) (n : Nat) (xs : List Value) : Prop :=
 w.ownsRow base e size v n xs ∧ ∀ g, v.ownBlock = some g → NoDig w g

theorem LRow.nil (w : World) (base : Nat) (e : TypeId) (size : Nat) : LRow w base e size (.slice none 0 0) 0 [] :=
 ⟨World.ownsRow_nil w base e size, fun g h => by simp [Value.ownBlock] at h⟩
theorem LRow.lt {w : World} {base : Nat} {e : TypeId} {size : Nat} {v : Value} {n : Nat} {xs : List Value} (h : LRow w base e size v n xs) {g : Nat} (hg : v.ownBlock = some g) : g < w.heap.size ∧ base ≤ g := by
 rcases h.1.2 with ⟨rfl, _⟩ | ⟨g', cap, cur, rfl, hb, hh, _⟩
 ·
  simp [Value.ownBlock] at hg
 ·
  simp [Value.ownBlock] at hg
  subst hg
  exact ⟨(Array.getElem?_eq_some_iff.1 hh).1, hb⟩
theorem LRow.keep {w w' : World} {base : Nat} {e : TypeId} {size : Nat} {v : Value} {n : Nat} {xs : List Value} (h : LRow w base e size v n xs) (hk : ∀ g, v.ownBlock = some g → w'.heap[g]? = w.heap[g]?) : LRow w' base e size v n xs := by
 refine ⟨⟨h.1.1, ?_⟩, fun g hg j u hu => h.2 g hg j u ?_⟩
 ·
  rcases h.1.2 with h1 | ⟨g, cap, cur, rfl, hb, hh, h2⟩
  ·
   exact .inl h1
  ·
   exact .inr ⟨g, cap, cur, rfl, hb, (hk g rfl).trans hh, h2⟩
 ·
  rw [← hu]
  exact (World.cell?_of_block (a := ⟨g, j, none⟩) (hk g hg)).symm
theorem LRow.below {w w' : World} {base : Nat} {e : TypeId} {size : Nat} {v : Value} {n : Nat} {xs : List Value} (h : LRow w base e size v n xs) (hb : Below w.heap.size w w') : LRow w' base e size v n xs :=
 h.keep fun g hg => hb.block g (h.lt hg).1
theorem LRow.grown {w w' : World} {base : Nat} {e : TypeId} {size : Nat} {v : Value} {n : Nat} {xs : List Value} {row : Option Nat} (h : LRow w base e size v n xs) (hb : w.grownBy w' row) (hne : ∀ g, v.ownBlock = some g → some g ≠ row) : LRow w' base e size v n xs :=
 h.keep fun g hg => hb.block g (h.lt hg).1 (hne g hg)

theorem IsRow.grown {k : IntKind} (hk : k = .u64 ∨ k = .u32) {w w' : World} {v : Value} {ds : List Nat} {row : Option Nat} (h : IsRow k w v ds) (hg : w.grownBy w' row) (hr : ∀ g, row = some g → NoDig w g) : IsRow k w' v ds := by
 rcases h with ⟨rfl, ao, cap, rfl, h2, h3⟩ | ⟨h0, b, off, cap, rfl, h1, h2, h3, h4⟩
 ·
  exact .inl ⟨rfl, ao, cap, rfl, h2, h3⟩
 ·
  have hne : some b ≠ row := by
   intro e
   have := hr b e.symm off _ (h4 0 h0)
   rcases hk with rfl | rfl
   ·
    exact (this _).1 rfl
   ·
    exact (this _).2 rfl
  refine .inr ⟨h0, b, off, cap, rfl, h1, h2, Nat.lt_of_lt_of_le h3 hg.size, fun j hj => ?_⟩
  rw [← h4 j hj]
  exact World.cell?_of_block (a := ⟨b, off + j, none⟩) (hg.block b h3 hne)

theorem run_append_lrow {P : Program} (w : World) (t ty : TypeId) (base : Nat) (e : TypeId) (i : TypeInfo) (z : Value) (size bytes : Nat) (ht : P.underlying t = some (.slice e)) (hi : P.info? e = some i) (hz : i.zero = some z)
  (hsize : i.size = size) (hby : i.bytes = bytes) (hzs : z.cells.size = size) (hsz : 0 < size) (hzd : ∀ u ∈ z.cells.toList, noDig u)
  (v : Value) (n : Nat) (xs : List Value) (hown : LRow w base e size v n xs)
  (ad : Addr) (m c : Nat) (news : List Value) (hl : news.length = m * size) (hnews : ∀ j u, news[j]? = some u → w.cell? (ad.add j) = some u) (h1 : ∀ u ∈ news, u.oneCell' = true) (hnd : ∀ u ∈ news, noDig u)
  (hm : 0 < m) (h63 : n + m ≤ maxLen) (hbytes : (n + m) * bytes ≤ 140737488355328) (hbase : base ≤ w.heap.size) :
  ∃ g cap w', (Builtin.append_ #[t, t] ty #[v, .slice (some ad) m c]).run P w = .ok (.slice (some ⟨g, 0, none⟩) (n + m) cap) w' ∧
   LRow w' base e size (.slice (some ⟨g, 0, none⟩) (n + m) cap) (n + m) (xs ++ news) ∧ w.grownBy w' v.ownBlock ∧ (v.ownBlock = some g ∨ g = w.heap.size) := by
 obtain ⟨g, cap, w', hr, h2, h3, h4, h5⟩ := run_append_lies (P := P) w t ty base e i z size bytes ht hi hz hsize hby hzs hsz v n xs hown.1 ad m c news hl hnews h1 hm h63 hbytes hbase w.heap.size rfl
 refine ⟨g, cap, w', hr, ⟨h2, ?_⟩, h3, h4⟩
 intro g' hg'
 obtain rfl : g = g' := by simpa [Value.ownBlock] using hg'
 subst hsize
 subst hby
 have h63' : n + m ≤ 9223372036854775807 := by unfold maxLen at h63; omega
 have hzc : ∀ k, ∀ u ∈ (Builtin.zeroCells z.cells k).toList, noDig u := by
  intro k u hu
  refine hzd u ?_
  simp only [Builtin.zeroCells] at hu
  simp at hu
  obtain ⟨j, h1, h2⟩ := hu
  have hp : 0 < z.cells.size := by omega
  have hlt : j % z.cells.size < z.cells.size := Nat.mod_lt _ hp
  rw [← h2, getElem!_pos z.cells _ hlt]
  simp
 rcases hown.1.2 with ⟨rfl, rfl⟩ | ⟨g1, cap1, cur, rfl, hbg, hg, hnc, hcm, hcs, htake⟩
 ·
  have hr2 := run_append_nil (P := P) w t ty e i z ht hi hz ad m c news hl hnews hm (by omega) (by have hb := hbytes; simp only [Nat.zero_add] at hb; omega)
  rw [hr2] at hr
  simp only [Result.ok.injEq, Value.slice.injEq, Option.some.injEq, Addr.mk.injEq] at hr
  obtain ⟨⟨⟨rfl, _⟩, _⟩, rfl⟩ := hr
  refine NoDig.of_block (heap_alloc_new w.drew _) ?_
  intro u hu
  simp only [Array.toList_append, List.mem_append] at hu
  rcases hu with hu | hu
  ·
   exact hnd u (by simpa using hu)
  ·
   exact hzc _ u hu
 ·
  by_cases hroom : n + m ≤ cap1
  ·
   have hfit : n * i.size + news.length ≤ cur.size := by rw [hl, hcs, ← Nat.add_mul]; exact Nat.mul_le_mul_right _ hroom
   have hr2 := run_append_room (P := P) w t ty e i ht hi g1 n cap1 cur hg ad m c news hl hnews h1 hroom hfit
   rw [hr2] at hr
   simp only [Result.ok.injEq, Value.slice.injEq, Option.some.injEq, Addr.mk.injEq] at hr
   obtain ⟨⟨⟨rfl, _⟩, _⟩, rfl⟩ := hr
   have hold : ∀ u ∈ cur.toList, noDig u := by
    intro u hu
    obtain ⟨j, hj, rfl⟩ := List.getElem_of_mem hu
    refine hown.2 g1 rfl j _ ?_
    rw [cell_of_row w g1 j cur e (0, 0) hg]
    simp at hj
    simp [hj]
   refine NoDig.of_block (setRow_heap w g1 cur _ e _ hg) ?_
   intro u hu
   simp only [List.append_assoc, List.mem_append] at hu
   rcases hu with hu | hu | hu
   ·
    exact hold u (List.mem_of_mem_take hu)
   ·
    exact hnd u hu
   ·
    exact hold u (List.mem_of_mem_drop hu)
  ·
   have holds : ∀ j u, xs[j]? = some u → w.cell? ((⟨g1, 0, none⟩ : Addr).add j) = some u := hown.1.cells (g := g1) rfl
   have hr2 := run_append_grow (P := P) w t ty e i z ht hi hz ⟨g1, 0, none⟩ n cap1 xs hown.1.1 holds ad m c news hl hnews (by omega) (by omega) (growslice_fits (by omega) hbytes)
   rw [hr2] at hr
   simp only [Result.ok.injEq, Value.slice.injEq, Option.some.injEq, Addr.mk.injEq] at hr
   obtain ⟨⟨⟨rfl, _⟩, _⟩, rfl⟩ := hr
   have hold : ∀ u ∈ xs, noDig u := by
    intro u hu
    obtain ⟨j, hj, rfl⟩ := List.getElem_of_mem hu
    have hx := holds j xs[j] (by simp [hj])
    have ha : (⟨g1, 0, none⟩ : Addr).add j = ⟨g1, j, none⟩ := by unfold Addr.add; split <;> simp_all
    rw [ha] at hx
    exact hown.2 g1 rfl j _ hx
   refine NoDig.of_block (heap_alloc_new w.drew _) ?_
   intro u hu
   simp only [Array.toList_append, List.mem_append] at hu
   rcases hu with (hu | hu) | hu
   ·
    exact hold u hu
   ·
    exact hnd u hu
   ·
    exact hzc _ u hu

theorem wp_append_lrow {P : Program} (w : World) {o : Oper} {a : Act} {K : Act → World → Prop} {Q : Exit → Act → World → Prop} (s x : Operand) (t : TypeId)
  (ho : o.op = .call { callee := .builtin .append, args := #[s, x], argTypes := #[t, t] })
  (base : Nat) (e : TypeId) (i : TypeInfo) (z : Value) (size bytes : Nat) (ht : P.underlying t = some (.slice e)) (hi : P.info? e = some i) (hz : i.zero = some z)
  (hsize : i.size = size) (hby : i.bytes = bytes) (hzs : z.cells.size = size) (hsz : 0 < size) (hzd : ∀ u ∈ z.cells.toList, noDig u)
  (v : Value) (n : Nat) (xs : List Value) (hs : a.eval s = v) (hown : LRow w base e size v n xs)
  (ad : Addr) (m c : Nat) (news : List Value) (hx : a.eval x = .slice (some ad) m c) (hl : news.length = m * size) (hnews : ∀ j u, news[j]? = some u → w.cell? (ad.add j) = some u) (h1 : ∀ u ∈ news, u.oneCell' = true) (hnd : ∀ u ∈ news, noDig u)
  (hm : 0 < m) (h63 : n + m ≤ maxLen) (hbytes : (n + m) * bytes ≤ 140737488355328) (hbase : base ≤ w.heap.size)
  (h : ∀ g cap w', LRow w' base e size (.slice (some ⟨g, 0, none⟩) (n + m) cap) (n + m) (xs ++ news) → w.grownBy w' v.ownBlock → (v.ownBlock = some g ∨ g = w.heap.size) → K (a.put o.dst (.slice (some ⟨g, 0, none⟩) (n + m) cap)) w') : o.wp P a w K Q := by
 obtain ⟨g, cap, w', hr, h2, h3, h4⟩ := run_append_lrow (P := P) w t o.type base e i z size bytes ht hi hz hsize hby hzs hsz hzd v n xs hown ad m c news hl hnews h1 hnd hm h63 hbytes hbase
 unfold Oper.wp execOp
 simp only [ho, resolve, invoke, builtin, Sem.run_bind, Sem.run_pure, Result.andThen_ok, List.map_toArray, List.map_cons, List.map_nil, hs, hx, hr]
 exact h g cap w' h2 h3 h4

theorem wpList_append_lrow {P : Program} (w : World) {ops : Array Oper} {rest : List Oper} {o : Oper} {a : Act} {Q : Exit → Act → World → Prop} (hgd : o.guard = none) (s x : Operand) (t : TypeId)
  (ho : o.op = .call { callee := .builtin .append, args := #[s, x], argTypes := #[t, t] })
  (base : Nat) (e : TypeId) (i : TypeInfo) (z : Value) (size bytes : Nat) (ht : P.underlying t = some (.slice e)) (hi : P.info? e = some i) (hz : i.zero = some z)
  (hsize : i.size = size) (hby : i.bytes = bytes) (hzs : z.cells.size = size) (hsz : 0 < size) (hzd : ∀ u ∈ z.cells.toList, noDig u)
  (v : Value) (n : Nat) (xs : List Value) (hs : a.eval s = v) (hown : LRow w base e size v n xs)
  (ad : Addr) (m c : Nat) (news : List Value) (hx : a.eval x = .slice (some ad) m c) (hl : news.length = m * size) (hnews : ∀ j u, news[j]? = some u → w.cell? (ad.add j) = some u) (h1 : ∀ u ∈ news, u.oneCell' = true) (hnd : ∀ u ∈ news, noDig u)
  (hm : 0 < m) (h63 : n + m ≤ maxLen) (hbytes : (n + m) * bytes ≤ 140737488355328) (hbase : base ≤ w.heap.size)
  (h : ∀ g cap w', LRow w' base e size (.slice (some ⟨g, 0, none⟩) (n + m) cap) (n + m) (xs ++ news) → w.grownBy w' v.ownBlock → (v.ownBlock = some g ∨ g = w.heap.size) → wpList P ops Q rest (a.put o.dst (.slice (some ⟨g, 0, none⟩) (n + m) cap)) w') : wpList P ops Q (o :: rest) a w :=
 wpList_plain hgd fun _ hK => wp_append_lrow w s x t ho base e i z size bytes ht hi hz hsize hby hzs hsz hzd v n xs hs hown ad m c news hx hl hnews h1 hnd hm h63 hbytes hbase fun g cap w' h2 h3 h4 => hK _ _ (h g cap w' h2 h3 h4)

theorem step_append_lrow {P : Program} (w : World) {ops : Array Oper} {o : Oper} {a : Act} {K : Act → World → Prop} {Q : Exit → Act → World → Prop} {E : Prop} (hgd : o.guard = none) (s x : Operand) (t : TypeId)
  (ho : o.op = .call { callee := .builtin .append, args := #[s, x], argTypes := #[t, t] })
  (base : Nat) (e : TypeId) (i : TypeInfo) (z : Value) (size bytes : Nat) (ht : P.underlying t = some (.slice e)) (hi : P.info? e = some i) (hz : i.zero = some z)
  (hsize : i.size = size) (hby : i.bytes = bytes) (hzs : z.cells.size = size) (hsz : 0 < size) (hzd : ∀ u ∈ z.cells.toList, noDig u)
  (v : Value) (n : Nat) (xs : List Value) (hs : a.eval s = v) (hown : LRow w base e size v n xs)
  (ad : Addr) (m c : Nat) (news : List Value) (hx : a.eval x = .slice (some ad) m c) (hl : news.length = m * size) (hnews : ∀ j u, news[j]? = some u → w.cell? (ad.add j) = some u) (h1 : ∀ u ∈ news, u.oneCell' = true) (hnd : ∀ u ∈ news, noDig u)
  (hm : 0 < m) (h63 : n + m ≤ maxLen) (hbytes : (n + m) * bytes ≤ 140737488355328) (hbase : base ≤ w.heap.size)
  (h : ∀ g cap w', LRow w' base e size (.slice (some ⟨g, 0, none⟩) (n + m) cap) (n + m) (xs ++ news) → w.grownBy w' v.ownBlock → (v.ownBlock = some g ∨ g = w.heap.size) → K (a.put o.dst (.slice (some ⟨g, 0, none⟩) (n + m) cap)) w') :
  if Region.wanted o (yielded ops a.tmps) = true then Oper.wp P o a w K Q else E := by
 have hw : Region.wanted o (yielded ops a.tmps) = true := by simp [Region.wanted, hgd]
 rw [if_pos hw]
 exact wp_append_lrow w s x t ho base e i z size bytes ht hi hz hsize hby hzs hsz hzd v n xs hs hown ad m c news hx hl hnews h1 hnd hm h63 hbytes hbase h

end Go.Proofs.YtofijjomfhmbjaaGreat

namespace Go.Proofs.YtofijjomfhmbjaaGreat
open Go.RowKit

def EntAt (R : World → Value → Rat → Prop) (w : World) (b o : Nat) (e : Rat × Int) : Prop :=
 ∃ v0 vn vd, w.cell? ⟨b, o, none⟩ = some v0 ∧ w.cell? ⟨b, o + 1, none⟩ = some vn ∧ w.cell? ⟨b, o + 2, none⟩ = some vd ∧ w.cell? ⟨b, o + 3, none⟩ = some (.int .i64 e.2) ∧ R w (.agg #[v0, vn, vd]) e.1
def EntsOf (R : World → Value → Rat → Prop) (w : World) (v : Value) (es : List (Rat × Int)) : Prop :=
 ∃ ao cap, v = .slice ao es.length cap ∧ (0 < es.length → ∃ b off, ao = some ⟨b, off, none⟩ ∧ b < w.heap.size ∧ ∀ i, i < es.length → EntAt R w b (off + i * 4) (es.getD i (0, 0)))

theorem EntAt.below {R : World → Value → Rat → Prop} (hR : ∀ w w' v q, R w v q → Below w.heap.size w w' → R w' v q) {w w' : World} {b o : Nat} {e : Rat × Int} (h : EntAt R w b o e) (hb : Below w.heap.size w w') (hl : b < w.heap.size) : EntAt R w' b o e := by
 obtain ⟨v0, vn, vd, h0, h1, h2, h3, h4⟩ := h
 have c : ∀ j v, w.cell? ⟨b, j, none⟩ = some v → w'.cell? ⟨b, j, none⟩ = some v := fun j v h => (hb.cell (p := ⟨b, j, none⟩) hl).trans h
 exact ⟨v0, vn, vd, c _ _ h0, c _ _ h1, c _ _ h2, c _ _ h3, hR _ _ _ _ h4 hb⟩
theorem EntsOf.below {R : World → Value → Rat → Prop} (hR : ∀ w w' v q, R w v q → Below w.heap.size w w' → R w' v q) {w w' : World} {v : Value} {es : List (Rat × Int)} (h : EntsOf R w v es) (hb : Below w.heap.size w w') : EntsOf R w' v es := by
 obtain ⟨ao, cap, rfl, h⟩ := h
 refine ⟨ao, cap, rfl, fun hl => ?_⟩
 obtain ⟨b, off, rfl, hlt, h⟩ := h hl
 exact ⟨b, off, rfl, Nat.lt_of_lt_of_le hlt hb.size, fun i hi => (h i hi).below hR hb hlt⟩

def rateUp (es : List (Rat × Int)) (T : Rat) : Int := es.foldl (fun acc e => if cmpR e.1 T ≤ 0 then e.2 else acc) 0
theorem rateUp_take (es : List (Rat × Int)) (T : Rat) (i : Nat) (hi : i < es.length) :
  rateUp (es.take (i + 1)) T = if cmpR (es.getD i (0, 0)).1 T ≤ 0 then (es.getD i (0, 0)).2 else rateUp (es.take i) T := by
 unfold rateUp
 rw [List.take_add_one, List.foldl_append]
 simp [hi]

end Go.Proofs.YtofijjomfhmbjaaGreat

namespace Go.Proofs.YtofijjomfhmbjaaGreat
open Go.RowKit

def firstErr (f : Nat → Int) : Nat → Int
 | 0 => 0
 | k + 1 => if firstErr f k = 0 then f k else firstErr f k
theorem firstErr_step {f : Nat → Int} {i : Nat} (h : firstErr f i = 0) : firstErr f (i + 1) = f i := by simp [firstErr, h]
theorem firstErr_stay {f : Nat → Int} {i n : Nat} (h : firstErr f i ≠ 0) (hn : i ≤ n) : firstErr f n = firstErr f i := by
 obtain ⟨k, rfl⟩ : ∃ k, n = i + k := ⟨n - i, by omega⟩
 induction k with
 | zero => rfl
 | succ k ih =>
  have := ih (by omega)
  show (if firstErr f (i + k) = 0 then f (i + k) else firstErr f (i + k)) = _
  rw [this, if_neg h]

def entErr (es : List (Rat × Int)) (i : Nat) : Int :=
 if 0 < i ∧ cmpR (es.getD i (0, 0)).1 (es.getD (i - 1) (0, 0)).1 ≤ 0 then 7
 else if (es.getD i (0, 0)).2 < 0 ∨ 1000 < (es.getD i (0, 0)).2 ∨ (0 < i ∧ (es.getD i (0, 0)).2 < (es.getD (i - 1) (0, 0)).2) then 1 else 0
def tabErr (es : List (Rat × Int)) : Int := if es.length < 1 ∨ 16 < es.length then 4 else firstErr (entErr es) es.length

end Go.Proofs.YtofijjomfhmbjaaGreat

namespace Go.Proofs.YtofijjomfhmbjaaGreat
open Go.RowKit

def PairAt (w : World) (b o : Nat) (r : Int × Int) : Prop := w.cell? ⟨b, o, none⟩ = some (.int .i64 r.1) ∧ w.cell? ⟨b, o + 1, none⟩ = some (.int .i64 r.2)
def PairsOf (w : World) (v : Value) (ps : List (Int × Int)) : Prop :=
 ∃ ao cap, v = .slice ao ps.length cap ∧ (0 < ps.length → ∃ b off, ao = some ⟨b, off, none⟩ ∧ b < w.heap.size ∧ ∀ i, i < ps.length → PairAt w b (off + i * 2) (ps.getD i (0, 0)))
theorem PairAt.below {w w' : World} {b o : Nat} {r : Int × Int} (h : PairAt w b o r) (hb : Below w.heap.size w w') (hl : b < w.heap.size) : PairAt w' b o r :=
 ⟨(hb.cell (p := ⟨b, o, none⟩) hl).trans h.1, (hb.cell (p := ⟨b, o + 1, none⟩) hl).trans h.2⟩
theorem PairsOf.below {w w' : World} {v : Value} {ps : List (Int × Int)} (h : PairsOf w v ps) (hb : Below w.heap.size w w') : PairsOf w' v ps := by
 obtain ⟨ao, cap, rfl, h⟩ := h
 refine ⟨ao, cap, rfl, fun hl => ?_⟩
 obtain ⟨b, off, rfl, hlt, h⟩ := h hl
 exact ⟨b, off, rfl, Nat.lt_of_lt_of_le hlt hb.size, fun i hi => (h i hi).below hb hlt⟩

end Go.Proofs.YtofijjomfhmbjaaGreat

namespace Go.Proofs.YtofijjomfhmbjaaGreat
open Go.RowKit

def timeB (n : Int) : Bool := decide (0 ≤ n) && decide (n ≤ 1073741824)
end Go.Proofs.YtofijjomfhmbjaaGreat

namespace Go.Proofs.YtofijjomfhmbjaaGreat
open Go.RowKit

def sgn32 : Nat := 2147483648
def inf32 : Nat := 2139095040
def tempOk (b : Nat) : Bool := decide (b % sgn32 < inf32)

end Go.Proofs.YtofijjomfhmbjaaGreat

namespace Go.Proofs.YtofijjomfhmbjaaGreat
open Go.RowKit

def tempQ (b : Nat) : Rat := if tempOk b = true then fval ((floatToFloatBits .f32 b .f64).getD 0) else 0
end Go.Proofs.YtofijjomfhmbjaaGreat

namespace Go.Proofs.YtofijjomfhmbjaaGreat
open Go.RowKit

def RdAt (w : World) (b o : Nat) (r : Int × Nat) : Prop := w.cell? ⟨b, o, none⟩ = some (.int .i64 r.1) ∧ w.cell? ⟨b, o + 1, none⟩ = some (.float .f32 r.2)
def LogOf (w : World) (v : Value) (ls : List (Int × Nat)) : Prop :=
 ∃ ao cap, v = .slice ao ls.length cap ∧ (0 < ls.length → ∃ b off, ao = some ⟨b, off, none⟩ ∧ b < w.heap.size ∧ ∀ i, i < ls.length → RdAt w b (off + i * 2) (ls.getD i (0, 0)))
theorem RdAt.below {w w' : World} {b o : Nat} {r : Int × Nat} (h : RdAt w b o r) (hb : Below w.heap.size w w') (hl : b < w.heap.size) : RdAt w' b o r :=
 ⟨(hb.cell (p := ⟨b, o, none⟩) hl).trans h.1, (hb.cell (p := ⟨b, o + 1, none⟩) hl).trans h.2⟩
theorem LogOf.below {w w' : World} {v : Value} {ls : List (Int × Nat)} (h : LogOf w v ls) (hb : Below w.heap.size w w') : LogOf w' v ls := by
 obtain ⟨ao, cap, rfl, h⟩ := h
 refine ⟨ao, cap, rfl, fun hl => ?_⟩
 obtain ⟨b, off, rfl, hlt, h⟩ := h hl
 exact ⟨b, off, rfl, Nat.lt_of_lt_of_le hlt hb.size, fun i hi => (h i hi).below hb hlt⟩

def rdErr (ls : List (Int × Nat)) (i : Nat) : Int :=
 if timeB (ls.getD i (0, 0)).1 = false ∨ tempOk (ls.getD i (0, 0)).2 = false then 1
 else if 0 < i ∧ (ls.getD i (0, 0)).1 ≤ (ls.getD (i - 1) (0, 0)).1 then 7 else 0
def logErr (ls : List (Int × Nat)) : Int := if 256 < ls.length then 4 else firstErr (rdErr ls) ls.length

end Go.Proofs.YtofijjomfhmbjaaGreat

namespace Go.Proofs.YtofijjomfhmbjaaGreat
open Go.RowKit

def bothI (f t a b : Int) : Int := max 0 (min t b - max f a)

end Go.Proofs.YtofijjomfhmbjaaGreat

namespace Go.Proofs.YtofijjomfhmbjaaGreat
open Go.RowKit

theorem firstErr_all {f : Nat → Int} {n : Nat} (h : firstErr f n = 0) : ∀ i, i < n → f i = 0 := by
 induction n with
 | zero => intro i hi; omega
 | succ n ih =>
  intro i hi
  have h0 : firstErr f n = 0 := by
   rcases Classical.em (firstErr f n = 0) with h1 | h1
   ·
    exact h1
   ·
    have := firstErr_stay h1 (Nat.le_succ n)
    rw [this] at h
    exact absurd h h1
  rw [firstErr_step h0] at h
  rcases Nat.lt_or_ge i n with h1 | h1
  ·
   exact ih h0 i h1
  ·
   obtain rfl : i = n := by omega
   exact h

theorem tab_ok {es : List (Rat × Int)} (h : tabErr es = 0) : 0 < es.length ∧ es.length ≤ 16 ∧ ∀ i, i < es.length → 0 ≤ (es.getD i (0, 0)).2 ∧ (es.getD i (0, 0)).2 ≤ 1000 := by
 unfold tabErr at h
 split at h
 ·
  omega
 ·
  rename_i hl
  refine ⟨by omega, by omega, fun i hi => ?_⟩
  have := firstErr_all h i hi
  unfold entErr at this
  split at this
  ·
   omega
  ·
   split at this
   ·
    omega
   ·
    omega

theorem rateUp_range {es : List (Rat × Int)} (h : ∀ i, i < es.length → 0 ≤ (es.getD i (0, 0)).2 ∧ (es.getD i (0, 0)).2 ≤ 1000) (T : Rat) : 0 ≤ rateUp es T ∧ rateUp es T ≤ 1000 := by
 have key : ∀ i, i ≤ es.length → 0 ≤ rateUp (es.take i) T ∧ rateUp (es.take i) T ≤ 1000 := by
  intro i
  induction i with
  | zero => intro _; simp [rateUp]
  | succ i ih =>
   intro hi
   rw [rateUp_take es T i (by omega)]
   split
   ·
    exact h i (by omega)
   ·
    exact ih (by omega)
 have := key es.length (Nat.le_refl _)
 rwa [List.take_length] at this

theorem log_ok {ls : List (Int × Nat)} (h : logErr ls = 0) : ls.length ≤ 256 ∧ ∀ i, i < ls.length → 0 ≤ (ls.getD i (0, 0)).1 ∧ (ls.getD i (0, 0)).1 ≤ 1073741824 ∧ tempOk (ls.getD i (0, 0)).2 = true := by
 unfold logErr at h
 split at h
 ·
  omega
 ·
  refine ⟨by omega, fun i hi => ?_⟩
  have := firstErr_all h i hi
  unfold rdErr at this
  split at this
  ·
   omega
  ·
   rename_i hn
   have h1 : timeB (ls.getD i (0, 0)).1 = true := by
    cases h : timeB (ls.getD i (0, 0)).1
    ·
     exact absurd (.inl h) hn
    ·
     rfl
   have h2 : tempOk (ls.getD i (0, 0)).2 = true := by
    cases h : tempOk (ls.getD i (0, 0)).2
    ·
     exact absurd (.inr h) hn
    ·
     rfl
   unfold timeB at h1
   simp at h1
   exact ⟨h1.1, h1.2, h2⟩

def hotI (es : List (Rat × Int)) : Int := (es.getD (es.length - 1) (0, 0)).2
def rateI (es : List (Rat × Int)) (gap : Int) (ls : List (Int × Nat)) (i : Nat) : Int :=
 if 0 < i ∧ (ls.getD i (0, 0)).1 - (ls.getD (i - 1) (0, 0)).1 ≤ gap then max (rateUp es (tempQ (ls.getD (i - 1) (0, 0)).2)) (rateUp es (tempQ (ls.getD i (0, 0)).2)) else hotI es
def lastT (ls : List (Int × Nat)) (i : Nat) : Int := if i = 0 then 0 else (ls.getD (i - 1) (0, 0)).1
structure GoodLog (es : List (Rat × Int)) (ls : List (Int × Nat)) (f t : Int) : Prop where
 tab : tabErr es = 0
 log : logErr ls = 0
 f0 : 0 ≤ f
 f1 : f ≤ 1073741824
 t0 : 0 ≤ t
 t1 : t ≤ 1073741824

theorem GoodLog.hot {es : List (Rat × Int)} {ls : List (Int × Nat)} {f t : Int} (h : GoodLog es ls f t) : 0 ≤ hotI es ∧ hotI es ≤ 1000 := by
 obtain ⟨h1, h2, h3⟩ := tab_ok h.tab
 exact h3 _ (by omega)
theorem GoodLog.up {es : List (Rat × Int)} {ls : List (Int × Nat)} {f t : Int} (h : GoodLog es ls f t) (T : Rat) : 0 ≤ rateUp es T ∧ rateUp es T ≤ 1000 := rateUp_range (tab_ok h.tab).2.2 T
theorem GoodLog.rate {es : List (Rat × Int)} {ls : List (Int × Nat)} {f t : Int} (h : GoodLog es ls f t) (gap : Int) (i : Nat) : 0 ≤ rateI es gap ls i ∧ rateI es gap ls i ≤ 1000 := by
 unfold rateI
 split
 ·
  have a := h.up (tempQ (ls.getD (i - 1) (0, 0)).2)
  have b := h.up (tempQ (ls.getD i (0, 0)).2)
  omega
 ·
  exact h.hot
theorem GoodLog.last {es : List (Rat × Int)} {ls : List (Int × Nat)} {f t : Int} (h : GoodLog es ls f t) (i : Nat) (hi : i ≤ ls.length) : 0 ≤ lastT ls i ∧ lastT ls i ≤ 1073741824 := by
 unfold lastT
 split
 ·
  omega
 ·
  have := (log_ok h.log).2 (i - 1) (by omega)
  omega
theorem GoodLog.both {es : List (Rat × Int)} {ls : List (Int × Nat)} {f t : Int} (h : GoodLog es ls f t) (a b : Int) : 0 ≤ bothI f t a b ∧ bothI f t a b ≤ 1073741824 := by
 have := h.f0
 have := h.t1
 unfold bothI
 omega
end Go.Proofs.YtofijjomfhmbjaaGreat

namespace Go.Proofs.YtofijjomfhmbjaaGreat
open Go.RowKit

theorem info_int : (Tryz.prog.info? 3).map (fun i => (i.zero, i.size, i.bytes)) = some (some (.int .i64 0), 1, 8) := by kernel_rfl
def idxCells (l : List Nat) : List Value := l.map (fun j : Nat => Value.int .i64 (j : Int))

theorem LRow.isRow {w : World} {base : Nat} {e : TypeId} {v : Value} {l : List Nat} (h : LRow w base e 1 v l.length (idxCells l)) : IsRow .i64 w v l := by
 rcases Nat.eq_zero_or_pos l.length with h0 | hp
 ·
  left
  have hl := List.eq_nil_of_length_eq_zero h0
  refine ⟨hl, ?_⟩
  rcases h.1.2 with ⟨rfl, _⟩ | ⟨g, cap, cur, rfl, _, _, _, hcm, _⟩
  ·
   exact ⟨_, _, rfl, by unfold maxLen; omega, fun _ => rfl⟩
  ·
   exact ⟨_, _, by rw [h0], hcm, by simp⟩
 ·
  obtain ⟨g, cap, rfl⟩ := ownsRow_some h.1 hp
  obtain ⟨ho, h1, h2, _⟩ := Own.of_ownsRow (k := .i64) (ds := l) rfl h.1
  exact ho.isRowCap cap h1 h2

theorem ownBlock_base {w : World} {base : Nat} {e : TypeId} {size : Nat} {v : Value} {n : Nat} {xs : List Value} (h : w.ownsRow base e size v n xs) : ∀ k, v.ownBlock = some k → base ≤ k := by
 intro k hk
 rcases h.2 with ⟨rfl, _⟩ | ⟨g, cap, cur, rfl, hb, _⟩
 ·
  simp [Value.ownBlock] at hk
 ·
  simp [Value.ownBlock] at hk
  omega

end Go.Proofs.YtofijjomfhmbjaaGreat

namespace Go.Proofs.YtofijjomfhmbjaaGreat
open Go.RowKit

theorem IsRat.grown {w w' : World} {v : Value} {q : Rat} {row : Option Nat} (h : IsRat w v q) (hg : w.grownBy w' row) (hr : ∀ g, row = some g → NoDig w g) : IsRat w' v q := by
 obtain ⟨vn, vd, rfl, h1, h2⟩ := h
 exact ⟨vn, vd, rfl, IsRow.grown (.inl rfl) h1 hg hr, IsRow.grown (.inl rfl) h2 hg hr⟩
theorem IsR.grown {w w' : World} {v : Value} {q : Rat} {row : Option Nat} (h : IsR w v q) (hg : w.grownBy w' row) (hr : ∀ g, row = some g → NoDig w g) : IsR w' v q := by
 obtain ⟨vn, vd, d', rfl, h1, h2, h3⟩ := h
 exact ⟨vn, vd, d', rfl, IsRow.grown (.inr rfl) h1 hg hr, IsRow.grown (.inr rfl) h2 hg hr, h3⟩

def TabRow (R : World → Value → Rat → Prop) (w : World) (xs : List Value) (es : List (Rat × Int)) : Prop :=
 xs.length = es.length * 4 ∧ ∀ j, j < es.length → ∃ v0 vn vd, xs[j * 4]? = some v0 ∧ xs[j * 4 + 1]? = some vn ∧ xs[j * 4 + 2]? = some vd ∧ xs[j * 4 + 3]? = some (.int .i64 (es.getD j (0, 0)).2) ∧ R w (.agg #[v0, vn, vd]) (es.getD j (0, 0)).1
theorem TabRow.mono {R : World → Value → Rat → Prop} {w w' : World} {xs : List Value} {es : List (Rat × Int)} (h : TabRow R w xs es) (hr : ∀ v q, R w v q → R w' v q) : TabRow R w' xs es :=
 ⟨h.1, fun j hj => by obtain ⟨v0, vn, vd, h0, h1, h2, h3, h4⟩ := h.2 j hj; exact ⟨v0, vn, vd, h0, h1, h2, h3, hr _ _ h4⟩⟩
theorem TabRow.nil (R : World → Value → Rat → Prop) (w : World) : TabRow R w [] [] := ⟨rfl, fun j hj => absurd hj (by simp)⟩
theorem TabRow.snoc {R : World → Value → Rat → Prop} {w : World} {xs : List Value} {es : List (Rat × Int)} (h : TabRow R w xs es) {v0 vn vd : Value} {q : Rat} {r : Int} (hq : R w (.agg #[v0, vn, vd]) q) :
  TabRow R w (xs ++ [v0, vn, vd, .int .i64 r]) (es ++ [(q, r)]) := by
 obtain ⟨hl, h⟩ := h
 refine ⟨by simp [hl]; omega, fun j hj => ?_⟩
 rcases Nat.lt_or_ge j es.length with h1 | h1
 ·
  obtain ⟨u0, un, ud, h0, h2, h3, h4, h5⟩ := h j h1
  have e : ∀ k, k < 4 → (xs ++ [v0, vn, vd, .int .i64 r])[j * 4 + k]? = xs[j * 4 + k]? := fun k hk => List.getElem?_append_left (by omega)
  have e2 : (es ++ [(q, r)]).getD j (0, 0) = es.getD j (0, 0) := by simp [List.getD, List.getElem?_append_left h1]
  rw [e2]
  exact ⟨u0, un, ud, by rw [← h0]; exact e 0 (by omega), by rw [← h2]; exact e 1 (by omega), by rw [← h3]; exact e 2 (by omega), by rw [← h4]; exact e 3 (by omega), h5⟩
 ·
  obtain rfl : j = es.length := by simp at hj; omega
  have e : ∀ k, (xs ++ [v0, vn, vd, .int .i64 r])[es.length * 4 + k]? = ([v0, vn, vd, .int .i64 r] : List Value)[k]? := fun k => by rw [List.getElem?_append_right (by omega), hl]; congr 1; omega
  have e2 : (es ++ [(q, r)]).getD es.length (0, 0) = (q, r) := by simp [List.getD]
  rw [e2]
  exact ⟨v0, vn, vd, e 0, e 1, e 2, e 3, hq⟩
theorem EntsOf.ofRow {R : World → Value → Rat → Prop} {w : World} {base : Nat} {e : TypeId} {v : Value} {xs : List Value} {es : List (Rat × Int)} (h : LRow w base e 4 v es.length xs) (ht : TabRow R w xs es) : EntsOf R w v es := by
 rcases Nat.eq_zero_or_pos es.length with h0 | hp
 ·
  rcases h.1.2 with ⟨rfl, _⟩ | ⟨g, cap, cur, rfl, _⟩
  ·
   exact ⟨none, 0, by rw [h0], fun h => absurd h (by omega)⟩
  ·
   exact ⟨_, _, rfl, fun h => absurd h (by omega)⟩
 ·
  obtain ⟨g, cap, rfl⟩ := ownsRow_some h.1 hp
  have hc : ∀ j u, xs[j]? = some u → w.cell? ((⟨g, 0, none⟩ : Addr).add j) = some u := h.1.cells (g := g) rfl
  have hlt : g < w.heap.size := (h.lt rfl).1
  refine ⟨_, _, rfl, fun _ => ⟨g, 0, rfl, hlt, fun i hi => ?_⟩⟩
  obtain ⟨v0, vn, vd, h0, h1, h2, h3, h4⟩ := ht.2 i hi
  have ea : ∀ j, (⟨g, 0, none⟩ : Addr).add j = ⟨g, 0 + j, none⟩ := fun j => by unfold Addr.add; split <;> simp_all
  refine ⟨v0, vn, vd, ?_, ?_, ?_, ?_, h4⟩
  ·
   rw [← ea]; exact hc _ _ h0
  ·
   rw [show 0 + i * 4 + 1 = 0 + (i * 4 + 1) by omega, ← ea]; exact hc _ _ h1
  ·
   rw [show 0 + i * 4 + 2 = 0 + (i * 4 + 2) by omega, ← ea]; exact hc _ _ h2
  ·
   rw [show 0 + i * 4 + 3 = 0 + (i * 4 + 3) by omega, ← ea]; exact hc _ _ h3

theorem LRow.apart {w : World} {base : Nat} {eA eB : TypeId} {sA sB : Nat} {va vb : Value} {n m : Nat} {xs ys : List Value} (h : LRow w base eA sA va n xs) (k : LRow w base eB sB vb m ys) (hne : eA ≠ eB) : ∀ g, vb.ownBlock = some g → some g ≠ va.ownBlock := by
 intro g hg e
 rcases h.1.2 with ⟨rfl, _⟩ | ⟨g1, c1, cur1, rfl, _, hh1, _⟩
 ·
  simp [Value.ownBlock] at e
 ·
  rcases k.1.2 with ⟨rfl, _⟩ | ⟨g2, c2, cur2, rfl, _, hh2, _⟩
  ·
   simp [Value.ownBlock] at hg
  ·
   simp [Value.ownBlock] at e hg
   subst e hg
   rw [hh1] at hh2
   simp at hh2
   exact hne hh2.2

def LawAt (w : World) (b o : Nat) (t : Int × Int × Int) : Prop := w.cell? ⟨b, o, none⟩ = some (.int .i64 t.1) ∧ w.cell? ⟨b, o + 1, none⟩ = some (.int .i64 t.2.1) ∧ w.cell? ⟨b, o + 2, none⟩ = some (.int .i64 t.2.2)
def LawsOf (w : World) (v : Value) (ts : List (Int × Int × Int)) : Prop :=
 ∃ ao cap, v = .slice ao ts.length cap ∧ (0 < ts.length → ∃ b off, ao = some ⟨b, off, none⟩ ∧ b < w.heap.size ∧ ∀ i, i < ts.length → LawAt w b (off + i * 3) (ts.getD i (0, 0, 0)))
theorem LawAt.below {w w' : World} {b o : Nat} {r : Int × Int × Int} (h : LawAt w b o r) (hb : Below w.heap.size w w') (hl : b < w.heap.size) : LawAt w' b o r :=
 ⟨(hb.cell (p := ⟨b, o, none⟩) hl).trans h.1, (hb.cell (p := ⟨b, o + 1, none⟩) hl).trans h.2.1, (hb.cell (p := ⟨b, o + 2, none⟩) hl).trans h.2.2⟩
theorem LawsOf.below {w w' : World} {v : Value} {ps : List (Int × Int × Int)} (h : LawsOf w v ps) (hb : Below w.heap.size w w') : LawsOf w' v ps := by
 obtain ⟨ao, cap, rfl, h⟩ := h
 refine ⟨ao, cap, rfl, fun hl => ?_⟩
 obtain ⟨b, off, rfl, hlt, h⟩ := h hl
 exact ⟨b, off, rfl, Nat.lt_of_lt_of_le hlt hb.size, fun i hi => (h i hi).below hb hlt⟩
end Go.Proofs.YtofijjomfhmbjaaGreat
