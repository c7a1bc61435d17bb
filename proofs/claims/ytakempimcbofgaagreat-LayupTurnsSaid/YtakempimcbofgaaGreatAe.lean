/- Part e of the lemmas and walks. -/
import Derived.Test.YtakempimcbofgaaGreatAd

namespace Go.Proofs.YtakempimcbofgaaGreat
open Go.RowKit

theorem decL_step {t : Nat} (h : t ≠ 0) : decL t = decL (t / 10) ++ [chD (t % 10)] := by
 unfold decL
 rw [dig_pos ten_two h]
 simp
theorem decStep (q k r : Nat) (h : 0 < q ∨ 0 < r) : decL (q * 10 ^ (k + 1) + r) = decL (q * 10 ^ k + r / 10) ++ [chD (r % 10)] := by
 have hp : 0 < 10 ^ (k + 1) := Nat.pow_pos (by omega)
 have e : q * 10 ^ (k + 1) + r = (q * 10 ^ k) * 10 + r := by rw [Nat.pow_succ, Nat.mul_assoc]
 rw [decL_step, e]
 ·
  congr 2
  ·
   omega
  ·
   congr 1; omega
 ·
  rcases h with h | h
  ·
   have := Nat.mul_pos h hp; omega
  ·
   omega
theorem slice_dig0 (w : World) : (Instr.sliceAt 9 (.string { data := #[48, 49, 50, 51, 52, 53, 54, 55, 56, 57] }) (some (.int .u32 0)) (some (.int .u32 1)) none).run Tryz.prog w = .ok (.string (strB [chD 0])) w := by kernel_rfl
theorem slice_dig1 (w : World) : (Instr.sliceAt 9 (.string { data := #[48, 49, 50, 51, 52, 53, 54, 55, 56, 57] }) (some (.int .u32 1)) (some (.int .u32 2)) none).run Tryz.prog w = .ok (.string (strB [chD 1])) w := by kernel_rfl
theorem slice_dig2 (w : World) : (Instr.sliceAt 9 (.string { data := #[48, 49, 50, 51, 52, 53, 54, 55, 56, 57] }) (some (.int .u32 2)) (some (.int .u32 3)) none).run Tryz.prog w = .ok (.string (strB [chD 2])) w := by kernel_rfl
theorem slice_dig3 (w : World) : (Instr.sliceAt 9 (.string { data := #[48, 49, 50, 51, 52, 53, 54, 55, 56, 57] }) (some (.int .u32 3)) (some (.int .u32 4)) none).run Tryz.prog w = .ok (.string (strB [chD 3])) w := by kernel_rfl
theorem slice_dig4 (w : World) : (Instr.sliceAt 9 (.string { data := #[48, 49, 50, 51, 52, 53, 54, 55, 56, 57] }) (some (.int .u32 4)) (some (.int .u32 5)) none).run Tryz.prog w = .ok (.string (strB [chD 4])) w := by kernel_rfl
theorem slice_dig5 (w : World) : (Instr.sliceAt 9 (.string { data := #[48, 49, 50, 51, 52, 53, 54, 55, 56, 57] }) (some (.int .u32 5)) (some (.int .u32 6)) none).run Tryz.prog w = .ok (.string (strB [chD 5])) w := by kernel_rfl
theorem slice_dig6 (w : World) : (Instr.sliceAt 9 (.string { data := #[48, 49, 50, 51, 52, 53, 54, 55, 56, 57] }) (some (.int .u32 6)) (some (.int .u32 7)) none).run Tryz.prog w = .ok (.string (strB [chD 6])) w := by kernel_rfl
theorem slice_dig7 (w : World) : (Instr.sliceAt 9 (.string { data := #[48, 49, 50, 51, 52, 53, 54, 55, 56, 57] }) (some (.int .u32 7)) (some (.int .u32 8)) none).run Tryz.prog w = .ok (.string (strB [chD 7])) w := by kernel_rfl
theorem slice_dig8 (w : World) : (Instr.sliceAt 9 (.string { data := #[48, 49, 50, 51, 52, 53, 54, 55, 56, 57] }) (some (.int .u32 8)) (some (.int .u32 9)) none).run Tryz.prog w = .ok (.string (strB [chD 8])) w := by kernel_rfl
theorem slice_dig9 (w : World) : (Instr.sliceAt 9 (.string { data := #[48, 49, 50, 51, 52, 53, 54, 55, 56, 57] }) (some (.int .u32 9)) (some (.int .u32 10)) none).run Tryz.prog w = .ok (.string (strB [chD 9])) w := by kernel_rfl
theorem slice_dig (d : Nat) (hd : d < 10) (w : World) : (Instr.sliceAt 9 (.string { data := #[48, 49, 50, 51, 52, 53, 54, 55, 56, 57] }) (some (.int .u32 (d : Int))) (some (.int .u32 ((d : Int) + 1))) none).run Tryz.prog w = .ok (.string (strB [chD d])) w := by
 have h : d = 0 ∨ d = 1 ∨ d = 2 ∨ d = 3 ∨ d = 4 ∨ d = 5 ∨ d = 6 ∨ d = 7 ∨ d = 8 ∨ d = 9 := by omega
 rcases h with rfl | rfl | rfl | rfl | rfl | rfl | rfl | rfl | rfl | rfl
 ·
  exact slice_dig0 w
 ·
  exact slice_dig1 w
 ·
  exact slice_dig2 w
 ·
  exact slice_dig3 w
 ·
  exact slice_dig4 w
 ·
  exact slice_dig5 w
 ·
  exact slice_dig6 w
 ·
  exact slice_dig7 w
 ·
  exact slice_dig8 w
 ·
  exact slice_dig9 w
def strLen : Value → Nat
 | .string b => b.size
 | _ => 0
set_option maxRecDepth 100000 in
set_option maxHeartbeats 2000000 in
theorem qdigits_any (n : Nat) (v : Value) (w : World) (h : IsNat .u32 b32 w v n) (hs : (dig b32 n).length ≤ 1099511627776) (hl : (decL n).length ≤ 1374389534720) : Calls Tryz.prog 54 #[v] w (RetStr (decT n) w) := by
 have HN := Lib.hid h
 have HSZ := Lib.hid hs
 obtain ⟨ao, cap, rfl, _⟩ := IsRow.opened h
 rcases Nat.eq_zero_or_pos n with h0 | h0
 ·
  subst h0
  have hd : (dig b32 0).length = 0 := rfl
  clear h hs hl HN HSZ
  rw [hd]
  go_enter Tryz.func54, Tryz.ntmps54
  go_wp2_with fail
  go_ret
  exact ⟨rfl, Below.refl _ _⟩
 ·
  have hlen : 0 < (dig b32 n).length := by
   rcases Nat.eq_zero_or_pos (dig b32 n).length with h1 | h1
   ·
    exact absurd ((dig_nil_iff b32_two _).1 (List.eq_nil_of_length_eq_zero h1)) (by omega)
   ·
    exact h1
  have HT : Hid (decT n = decL n) := by show _ = _; unfold decT; rw [if_neg (by omega)]
  have t0 : ((((dig b32 n).length : Nat) : Int) == 0) = false := beq_eq_false_iff_ne.2 (by omega)
  have t1 : ((dig b32 n).length == 0) = false := beq_eq_false_iff_ne.2 (by omega)
  have HL := Lib.hid hl
  clear h hs h0 hl
  go_enter Tryz.func54, Tryz.ntmps54
  go_wp2_with fail
  go_loopw [0, 3] (fun av sv wr => ∃ (m : Nat) (L : List UInt8), IsNat .u32 b32 wr av m ∧ sv = .string (strB L) ∧ Hid (decL m ++ L = decL n) ∧ Hid (m ≤ n) ∧ Hid (Below w.heap.size w wr))
   (fun _ sv _ => (decL n).length - strLen sv)
  case atStart => exact ⟨n, [], HN.out, rfl, by show _ ++ _ = _; simp, Nat.le_refl _, Below.refl _ _⟩
  case round =>
   obtain ⟨m, L, hav, rfl, HM, HMN, HB⟩ := hrel
   obtain ⟨am, cm, rfl, _⟩ := IsRow.opened hav
   have HAV := Lib.hid hav
   clear hav
   have HLL : Hid (L.length ≤ 1374389534720) := by
    show _ ≤ _
    have h1 := congrArg List.length HM.out
    rw [List.length_append] at h1
    have := HL.out
    omega
   rcases Nat.eq_zero_or_pos m with h0 | h0
   ·
    subst h0
    have hd : (dig b32 0).length = 0 := rfl
    rw [hd]
    have HR : Hid (decT n = L) := by show _ = _; rw [HT.out, ← HM.out]; rfl
    clear hd HAV
    go_wp2_with fail
    go_ret
    exact ⟨by rw [HR.out] <;> rfl, HB.out⟩
   ·
    have hlen : 0 < (dig b32 m).length := by
     rcases Nat.eq_zero_or_pos (dig b32 m).length with h1 | h1
     ·
      exact absurd ((dig_nil_iff b32_two _).1 (List.eq_nil_of_length_eq_zero h1)) (by omega)
     ·
      exact h1
    have HP := Lib.hid h0
    have HDL : Hid ((dig b32 m).length ≤ 1099511627776) := Nat.le_trans (dig_length_mono b32_two HMN.out) HSZ.out
    clear h0
    go_wp2_with fail
    refine (byDigit_any m 1000000000 _ _ HAV.out HDL.out (by omega) (by unfold b32; omega)).mono ?_
    rintro e w1 ⟨va, rfl, hva, hb1⟩
    obtain ⟨aq, cq, rfl, _⟩ := IsRow.opened hva
    have HVA := Lib.hid hva
    have HB1 := Lib.hid (ext_trans HB.out hb1)
    have hrb : m % 1000000000 < 1000000000 := Nat.mod_lt _ (by omega)
    have HDM : Hid (m / 1000000000 * 1000000000 + m % 1000000000 = m) := by show _ = _; omega
    clear hva hb1
    go_wp2_with fail
    go_loopw [3, 5, 6] (fun sv rv kv wx => ∃ (k r : Nat) (L2 : List UInt8), k ≤ 9 ∧ kv = .int .i64 k ∧ rv = .int .u32 r ∧ r < 1000000000 ∧ sv = .string (strB L2) ∧ Hid (decL (m / 1000000000 * 10 ^ (9 - k) + r) ++ L2 = decL n) ∧ Hid (L2.length = L.length + k) ∧ Hid (r < 10 ^ (9 - k)) ∧ w1 = wx)
     (fun _ _ kv _ => 9 - (intOf kv).toNat)
    case atStart => exact ⟨0, m % 1000000000, L, by omega, rfl, by go_num, hrb, rfl, by show _ = _; rw [show m / 1000000000 * 10 ^ (9 - 0) + m % 1000000000 = m from HDM.out]; exact HM.out, rfl, hrb, rfl⟩
    case round =>
     obtain ⟨k, r, L2, hk9, rfl, rfl, hr9, rfl, HM2, HLN, HRB, rfl⟩ := hrel
     have HL2L : Hid (L2.length ≤ 1374389534720) := by
      show _ ≤ _
      have h1 := congrArg List.length HM2.out
      rw [List.length_append] at h1
      have := HL.out
      omega
     by_cases hk : k < 9
     ·
      rcases Nat.eq_zero_or_pos (m / 1000000000) with hq | hq
      ·
       have hd : (dig b32 (m / 1000000000)).length = 0 := by rw [hq]; rfl
       rcases Nat.eq_zero_or_pos r with hr | hr
       ·
        subst hr
        have HQ := Lib.hid hq
        have HD0 := Lib.hid hd
        rw [hd]
        clear hq hd
        go_wp2_with fail
        exact ⟨⟨m / 1000000000, L2, (by have := HVA.out; rw [HD0.out] at this; exact this), rfl, by
         show _ = _
         rw [← HM2.out, show m / 1000000000 * 10 ^ (9 - k) + 0 = m / 1000000000 from by rw [HQ.out, Nat.zero_mul]], Nat.le_trans (Nat.div_le_self _ _) HMN.out, HB1.out⟩, by
         have e1 : (strB L2).size = L2.length := rfl
         have e2 : (strB L).size = L.length := rfl
         have h1 := congrArg List.length HM2.out
         rw [List.length_append] at h1
         have h2 := HLN.out
         have h3 : 0 < k := by
          rcases Nat.eq_zero_or_pos k with h0 | h0
          ·
           exfalso
           subst h0
           have h4 := congrArg List.length (HM2.out.trans HM.out.symm)
           rw [show m / 1000000000 * 10 ^ (9 - 0) + 0 = 0 by rw [HQ.out, Nat.zero_mul], List.length_append, List.length_append, decL_zero, HLN.out] at h4
           have h5 : decL m ≠ [] := fun h => absurd ((decL_nil m).1 h) (by have := HP.out; omega)
           have h6 := List.length_pos_iff.2 h5
           rw [List.length_nil] at h4
           omega
          ·
           exact h0
         show (decL n).length - (strB L2).size < (decL n).length - (strB L).size
         rw [e1, e2]
         omega⟩
       ·
        rw [hd]
        clear hq hd
        have hr10 : r % 10 < 10 := by omega
        have hs1 := slice_dig (r % 10) hr10 w1
        have hs2 := slice_dig (r % 10) hr10 w1
        have e1 : ((r % 10 : Nat) : Int) = (r : Int) % 10 := by omega
        rw [e1] at hs2
        have HC : Hid (strB [chD (r % 10)] ++ strB L2 = strB (chD (r % 10) :: L2)) := by show _ = _; rw [strB_append]; rfl
        have hcat := HC.out
        have hz1 : (strB [chD (r % 10)]).size = 1 := rfl
        have hz2 : (strB L2).size ≤ 1374389534720 := HL2L.out
        have HK := Lib.hid hk
        have HQR : Hid (0 < m / 1000000000 ∨ 0 < r) := .inr hr
        obtain ⟨k', hk'⟩ : ∃ k', 9 - k = k' + 1 := ⟨8 - k, by omega⟩
        have HK' := Lib.hid hk'
        clear e1 hk'
        go_wp2_with fail
        exact ⟨⟨k + 1, r / 10, chD (r % 10) :: L2, by omega, by go_num, by go_num, by omega, rfl, by
         show _ = _
         rw [show 9 - (k + 1) = k' by have := HK'.out; omega, ← HM2.out, HK'.out, decStep _ _ _ HQR.out, List.append_assoc]; rfl, by show _ = _; rw [List.length_cons, HLN.out]; omega, by
         show r / 10 < _
         have h1 : r < 10 ^ (9 - k) := HRB.out
         rw [HK'.out, Nat.pow_succ] at h1
         rw [show 9 - (k + 1) = k' by have := HK'.out; omega]
         omega, trivial⟩, by simp [intOf]; omega⟩
      ·
       have hd : 0 < (dig b32 (m / 1000000000)).length := by
        rcases Nat.eq_zero_or_pos (dig b32 (m / 1000000000)).length with h1 | h1
        ·
         exact absurd ((dig_nil_iff b32_two _).1 (List.eq_nil_of_length_eq_zero h1)) (by omega)
        ·
         exact h1
       have hr10 : r % 10 < 10 := by omega
       have hs1 := slice_dig (r % 10) hr10 w1
       have hs2 := slice_dig (r % 10) hr10 w1
       have e1 : ((r % 10 : Nat) : Int) = (r : Int) % 10 := by omega
       rw [e1] at hs2
       have HC : Hid (strB [chD (r % 10)] ++ strB L2 = strB (chD (r % 10) :: L2)) := by show _ = _; rw [strB_append]; rfl
       have hcat := HC.out
       have hz1 : (strB [chD (r % 10)]).size = 1 := rfl
       have hz2 : (strB L2).size ≤ 1374389534720 := HL2L.out
       have HK := Lib.hid hk
       have HQR : Hid (0 < m / 1000000000 ∨ 0 < r) := .inl hq
       obtain ⟨k', hk'⟩ : ∃ k', 9 - k = k' + 1 := ⟨8 - k, by omega⟩
       have HK' := Lib.hid hk'
       clear e1 hk'
       go_wp2_with fail
       exact ⟨⟨k + 1, r / 10, chD (r % 10) :: L2, by omega, by go_num, by go_num, by omega, rfl, by
        show _ = _
        rw [show 9 - (k + 1) = k' by have := HK'.out; omega, ← HM2.out, HK'.out, decStep _ _ _ HQR.out, List.append_assoc]; rfl, by show _ = _; rw [List.length_cons, HLN.out]; omega, by
        show r / 10 < _
        have h1 : r < 10 ^ (9 - k) := HRB.out
        rw [HK'.out, Nat.pow_succ] at h1
        rw [show 9 - (k + 1) = k' by have := HK'.out; omega]
        omega, trivial⟩, by simp [intOf]; omega⟩
     ·
      obtain rfl : k = 9 := by omega
      obtain rfl : r = 0 := by
       have h1 : r < 10 ^ (9 - 9) := HRB.out
       omega
      clear hk
      go_wp2_with fail
      exact ⟨⟨m / 1000000000, L2, HVA.out, rfl, by
       show _ = _
       rw [← HM2.out, show m / 1000000000 * 10 ^ (9 - 9) + 0 = m / 1000000000 from by simp], Nat.le_trans (Nat.div_le_self _ _) HMN.out, HB1.out⟩, by
       have e1 : (strB L2).size = L2.length := rfl
       have e2 : (strB L).size = L.length := rfl
       have h1 := congrArg List.length HM2.out
       rw [List.length_append] at h1
       have h2 := HLN.out
       have h3 : 0 < 9 := by omega
       show (decL n).length - (strB L2).size < (decL n).length - (strB L).size
       rw [e1, e2]
       omega⟩
theorem decT_len32 (n : Nat) (h : (dig b32 n).length ≤ 1000000000) : (strB (decT n)).size ≤ 20000000001 := by
 have h1 := digits_len n
 have h2 := dig64_le n
 rw [strB_size]
 unfold decT
 split
 ·
  simp
 ·
  rw [decL_length]; omega
theorem decL_len32 (n : Nat) (h : (dig b32 n).length ≤ 1000000000) : (decL n).length ≤ 20000000000 := by
 have h1 := digits_len n
 have h2 := dig64_le n
 rw [decL_length]; omega
set_option maxRecDepth 100000 in
set_option maxHeartbeats 2000000 in
theorem qtext_any (q : Rat) (v : Value) (w : World) (h : IsR w v q) (hs : szQ q 1000000000) : Calls Tryz.prog 29 #[v] w (RetStr (txtQ q) w) := by
 obtain ⟨d', a1, c1, a2, c2, rfl, n1, n2, hd⟩ := h.opened
 have N1 := Lib.hid n1
 have N2 := Lib.hid n2
 have HD := Lib.hid hd
 have HS := Lib.hid hs
 have hB := blk_new w #[.bool (decide (q.num < 0)), .slice a1 (dig b32 q.num.natAbs).length c1, .slice a2 (dig b32 d').length c2] 37
 have hal := (Below.refl w.heap.size w).alloc (Nat.le_refl _) (.cells #[.bool (decide (q.num < 0)), .slice a1 (dig b32 q.num.natAbs).length c1, .slice a2 (dig b32 d').length c2] 37)
 have Htx : Hid (txtQ q = (if q.num < 0 then [45] else []) ++ (decT q.num.natAbs ++ (if q.den = 1 then [] else 47 :: decT q.den))) := rfl
 have HX := Lib.hid decT_len32
 have HXL := Lib.hid decL_len32
 clear h n1 n2 hs hd
 go_enter Tryz.func29, Tryz.ntmps29
 go_wp2_with fail
 refine (qdigits_any q.num.natAbs _ _ (N1.out.below hal) (Nat.le_trans HS.out.1 (by omega)) (Nat.le_trans (HXL.out _ HS.out.1) (by omega))).mono ?_
 rintro e w1 ⟨rfl, hb1⟩
 have hB1 := blk_keep hB hb1 (blk_lt hB)
 have hx1 := ext_trans hal hb1
 have p0 := blk_cell hB1 0 (.bool (decide (q.num < 0))) rfl
 have p1 := blk_cell hB1 1 (.slice a1 (dig b32 q.num.natAbs).length c1) rfl
 have p2 := blk_cell hB1 2 (.slice a2 (dig b32 d').length c2) rfl
 clear hb1
 by_cases hneg : q.num < 0
 ·
  have tn : decide (q.num < 0) = true := decide_eq_true hneg
  have Hneg := Lib.hid hneg
  clear hneg
  have hz0 : (strB (decT q.num.natAbs)).size ≤ 20000000001 := HX.out _ HS.out.1
  obtain ⟨X, hX⟩ : ∃ X, X = 45 :: decT q.num.natAbs := ⟨_, rfl⟩
  have hcat : { data := #[45] } ++ strB (decT q.num.natAbs) = strB X := by rw [hX, show ({ data := #[45] } : ByteArray) = strB [45] from rfl, strB_append]; rfl
  have ho1 : (ByteArray.mk #[45]).size = 1 := rfl
  have hz2 : (strB X).size ≤ 20000000002 := by rw [hX]; rw [strB_size] at hz0 ⊢; rw [List.length_cons]; omega
  have HXX := Lib.hid hX
  clear hX
  clear hB hal
  go_wp2_with fail
  refine (qunder_any d' q.den _ _ _ _ _ _ _ (N2.out.below hx1) HD.out q.den_nz).mono ?_
  rintro e w2 ⟨vu, rfl, hvu, hb2⟩
  have HX2 := Lib.hid (ext_trans hx1 hb2)
  have hB2 := blk_keep hB1 hb2 (blk_lt hB1)
  have HVU := Lib.hid hvu
  clear hb2 hvu hB1 p0 p1 p2
  go_wp2_with fail
  refine (nat_any 1 _ (by unfold b64; omega)).mono ?_
  rintro e w3 ⟨v1, rfl, hv1, hb3⟩
  replace HX2 := Lib.hid (ext_trans HX2.out hb3)
  have hB3 := blk_keep hB2 hb3 (blk_lt hB2)
  replace HVU := Lib.hid (HVU.out.below hb3)
  have HV1 := Lib.hid hv1
  clear hb3 hv1 hB2
  go_wp2_with fail
  refine (order_any q.den 1 _ _ _ HVU.out HV1.out).mono ?_
  rintro e w4 ⟨rfl, hq4⟩
  have hbq := Quiet.below hq4
  have p0 := blk_cell (blk_keep hB3 hbq (blk_lt hB3)) 0 (.bool (decide (q.num < 0))) rfl
  have p1 := blk_cell (blk_keep hB3 hbq (blk_lt hB3)) 1 (.slice a1 (dig b32 q.num.natAbs).length c1) rfl
  have p2 := blk_cell (blk_keep hB3 hbq (blk_lt hB3)) 2 (.slice a2 (dig b32 d').length c2) rfl
  replace HX2 := Lib.hid (ext_trans HX2.out hbq)
  clear hbq hB3 HV1 HVU
  by_cases hd : q.den = 1
  ·
   have hc : cmpN q.den 1 = 0 := by rw [hd]; rfl
   have HR : Hid (txtQ q = X) := by show _ = _; rw [Htx.out, if_pos Hneg.out, HXX.out, if_pos hd]; simp
   rw [hc]
   clear hd hc
   go_wp2_with fail
   go_ret
   exact ⟨by rw [HR.out] <;> rfl, HX2.out⟩
  ·
   have hc : cmpN q.den 1 = 1 := by
    have := q.den_pos
    unfold cmpN
    rw [if_neg (by omega), if_pos (by omega)]
   have HR : Hid (txtQ q = X ++ 47 :: decT q.den) := by show _ = _; rw [Htx.out, if_pos Hneg.out, HXX.out, if_neg hd]; simp
   rw [hc]
   clear hd hc
   have hc1 : strB (X) ++ { data := #[47] } = strB (X ++ [47]) := by rw [← strB_append]; rfl
   have ho : (ByteArray.mk #[47]).size = 1 := rfl
   have hz5 : (strB (X)).size ≤ 20000000002 := hz2
   have hz6 : (strB (X ++ [47])).size ≤ 20000000003 := by rw [strB_size] at hz5 ⊢; rw [List.length_append, List.length_singleton]; omega
   go_wp2_with fail
   refine (qunder_any d' q.den _ _ _ _ _ _ _ (N2.out.below HX2.out) HD.out q.den_nz).mono ?_
   rintro e w5 ⟨vu, rfl, hvu, hb5⟩
   replace HX2 := Lib.hid (ext_trans HX2.out hb5)
   clear p0 p1 p2 hb5
   go_wp2_with fail
   refine (qdigits_any q.den _ _ hvu (Nat.le_trans HS.out.2 (by omega)) (Nat.le_trans (HXL.out _ HS.out.2) (by omega))).mono ?_
   rintro e w6 ⟨rfl, hb6⟩
   have hz7 : (strB (decT q.den)).size ≤ 20000000001 := HX.out _ HS.out.2
   have hc2 : strB (X ++ [47]) ++ strB (decT q.den) = strB (txtQ q) := by rw [strB_append, HR.out]; simp
   replace HX2 := Lib.hid (ext_trans HX2.out hb6)
   clear hb6 hvu
   go_wp2_with fail
   go_ret
   exact ⟨rfl, HX2.out⟩
 ·
  have tn : decide (q.num < 0) = false := decide_eq_false hneg
  have Hneg : Hid (¬ q.num < 0) := hneg
  clear hneg
  have hz0 : (strB (decT q.num.natAbs)).size ≤ 20000000001 := HX.out _ HS.out.1
  have hz2 : (strB (decT q.num.natAbs)).size ≤ 20000000002 := by omega
  clear hB hal
  go_wp2_with fail
  refine (qunder_any d' q.den _ _ _ _ _ _ _ (N2.out.below hx1) HD.out q.den_nz).mono ?_
  rintro e w2 ⟨vu, rfl, hvu, hb2⟩
  have HX2 := Lib.hid (ext_trans hx1 hb2)
  have hB2 := blk_keep hB1 hb2 (blk_lt hB1)
  have HVU := Lib.hid hvu
  clear hb2 hvu hB1 p0 p1 p2
  go_wp2_with fail
  refine (nat_any 1 _ (by unfold b64; omega)).mono ?_
  rintro e w3 ⟨v1, rfl, hv1, hb3⟩
  replace HX2 := Lib.hid (ext_trans HX2.out hb3)
  have hB3 := blk_keep hB2 hb3 (blk_lt hB2)
  replace HVU := Lib.hid (HVU.out.below hb3)
  have HV1 := Lib.hid hv1
  clear hb3 hv1 hB2
  go_wp2_with fail
  refine (order_any q.den 1 _ _ _ HVU.out HV1.out).mono ?_
  rintro e w4 ⟨rfl, hq4⟩
  have hbq := Quiet.below hq4
  have p0 := blk_cell (blk_keep hB3 hbq (blk_lt hB3)) 0 (.bool (decide (q.num < 0))) rfl
  have p1 := blk_cell (blk_keep hB3 hbq (blk_lt hB3)) 1 (.slice a1 (dig b32 q.num.natAbs).length c1) rfl
  have p2 := blk_cell (blk_keep hB3 hbq (blk_lt hB3)) 2 (.slice a2 (dig b32 d').length c2) rfl
  replace HX2 := Lib.hid (ext_trans HX2.out hbq)
  clear hbq hB3 HV1 HVU
  by_cases hd : q.den = 1
  ·
   have hc : cmpN q.den 1 = 0 := by rw [hd]; rfl
   have HR : Hid (txtQ q = decT q.num.natAbs) := by show _ = _; rw [Htx.out, if_neg (by have := Hneg.out; omega), if_pos hd]; simp
   rw [hc]
   clear hd hc
   go_wp2_with fail
   go_ret
   exact ⟨by rw [HR.out] <;> rfl, HX2.out⟩
  ·
   have hc : cmpN q.den 1 = 1 := by
    have := q.den_pos
    unfold cmpN
    rw [if_neg (by omega), if_pos (by omega)]
   have HR : Hid (txtQ q = decT q.num.natAbs ++ 47 :: decT q.den) := by show _ = _; rw [Htx.out, if_neg (by have := Hneg.out; omega), if_neg hd]; simp
   rw [hc]
   clear hd hc
   have hc1 : strB (decT q.num.natAbs) ++ { data := #[47] } = strB (decT q.num.natAbs ++ [47]) := by rw [← strB_append]; rfl
   have ho : (ByteArray.mk #[47]).size = 1 := rfl
   have hz5 : (strB (decT q.num.natAbs)).size ≤ 20000000002 := hz2
   have hz6 : (strB (decT q.num.natAbs ++ [47])).size ≤ 20000000003 := by rw [strB_size] at hz5 ⊢; rw [List.length_append, List.length_singleton]; omega
   go_wp2_with fail
   refine (qunder_any d' q.den _ _ _ _ _ _ _ (N2.out.below HX2.out) HD.out q.den_nz).mono ?_
   rintro e w5 ⟨vu, rfl, hvu, hb5⟩
   replace HX2 := Lib.hid (ext_trans HX2.out hb5)
   clear p0 p1 p2 hb5
   go_wp2_with fail
   refine (qdigits_any q.den _ _ hvu (Nat.le_trans HS.out.2 (by omega)) (Nat.le_trans (HXL.out _ HS.out.2) (by omega))).mono ?_
   rintro e w6 ⟨rfl, hb6⟩
   have hz7 : (strB (decT q.den)).size ≤ 20000000001 := HX.out _ HS.out.2
   have hc2 : strB (decT q.num.natAbs ++ [47]) ++ strB (decT q.den) = strB (txtQ q) := by rw [strB_append, HR.out]; simp
   replace HX2 := Lib.hid (ext_trans HX2.out hb6)
   clear hb6 hvu
   go_wp2_with fail
   go_ret
   exact ⟨rfl, HX2.out⟩
end Go.Proofs.YtakempimcbofgaaGreat

namespace Go.Proofs.YtakempimcbofgaaGreat
open Go.RowKit

set_option maxRecDepth 100000 in
set_option maxHeartbeats 4000000 in
theorem lis_any (q : Rat) (vx vy : Value) (w : World) (hx : IsRat w vx q) (hy : IsR w vy q) (s1 : szR q 400000000) :
  Calls Tryz.prog 9 #[vx, vy] w (RetBool true w) := by
 obtain ⟨x1, rfl⟩ := hx.open3
 obtain ⟨y1, rfl⟩ := hy.open3
 have HS := Lib.hid (((Sx.init w).addP hx).addQ hy)
 have S1 := Lib.hid s1
 clear hx hy s1
 go_enter Tryz.func9, Tryz.ntmps9
 go_wp2_with fail
 generalize hW1 : ((w).alloc (.cells _ _)).alloc (.cells _ _) = W1 at *
 replace HS : Hid (Sx w W1 [(w.heap.size + 1, y1.arr, 37), (w.heap.size, x1.arr, 32)] [(false, y1.val, q), (true, x1.val, q)]) := by subst hW1; exact ((HS.out).alloc (B := w.heap.size) rfl (by rfl)).alloc (B := w.heap.size + 1) (by simp) (by rfl)
 clear hW1
 refine wp_region_held_drew (S := (fun w' => Sx w w' [(w.heap.size + 1, y1.arr, 37), (w.heap.size, x1.arr, 32)] [])) (by kernel_rfl) ((HS.out.drew).bare) (fun hh => ?_)
 replace HS := Lib.hid HS.out.drew
 refine tkA (i := 0) (v := ?vpr2_0_k4) rfl (Or.inl ⟨by first | rfl | kernel_rfl, ?hypr2_0_k4⟩) (by assumption) ?repr2_0_k4
 case hypr2_0_k4 => (intro u hSu; (try dsimp only at hSu); obtain ⟨qb0c0, qb0c1, qb0c2, _⟩ := fac3 (x := x1) (hSu.at 1 _ _ _ rfl); clear hSu; (go_simp <;> with_reducible rfl))
 try simp only [nb1, nb2, nb3, Act.put, nb4, nb5, nb6]
 refine tkA (i := 2) (v := ?vpr2_2_k6) rfl (Or.inl ⟨by first | rfl | kernel_rfl, ?hypr2_2_k6⟩) (by assumption) ?repr2_2_k6
 case hypr2_2_k6 => (intro u hSu; (try dsimp only at hSu); obtain ⟨qb1c0, qb1c1, qb1c2, _⟩ := fac3 (x := y1) (hSu.at 0 _ _ _ rfl); clear hSu; (go_simp <;> with_reducible rfl))
 try simp only [nb1, nb2, nb3, Act.put, nb4, nb5, nb6]
 refine rdA (i := 1) rfl (fun K hK => ?_)
 go_simp
 have a8 := HS.out.p 1 _ _ rfl
 go_wp2_with (go_at_call 28; (with_reducible refine (textRat_any q _ _ a8 (szR_mono S1.out (by omega))).mono ?_); rintro e w7 ⟨rfl, hb7⟩)
 refine hK.out _ _ (Sx.below hh hb7) (fun hh => ?_)
 clear hK K
 try simp only [nb1, nb2, nb3, Act.put, nb4, nb5, nb6]
 replace HS := Lib.hid (HS.out.below hb7)
 clear hb7 a8
 refine rdA (i := 3) rfl (fun K hK => ?_)
 go_simp
 have a10 := HS.out.q 0 _ _ rfl
 go_wp2_with (go_at_call 29; (with_reducible refine (qtext_any q _ _ a10 (szQ_mono (szQ_of S1.out) (by omega))).mono ?_); rintro e w9 ⟨rfl, hb9⟩)
 refine hK.out _ _ (Sx.below hh hb9) (fun hh => ?_)
 clear hK K
 try simp only [nb1, nb2, nb3, Act.put, nb4, nb5, nb6]
 replace HS := Lib.hid (HS.out.below hb9)
 clear hb9 a10
 refine tkA (i := 4) (v := ?vpr2_4_k12) rfl (Or.inl ⟨by first | rfl | kernel_rfl, ?hypr2_4_k12⟩) (by assumption) ?repr2_4_k12
 case hypr2_4_k12 => (intro u hSu; (go_simp <;> with_reducible rfl))
 try simp only [nb1, nb2, nb3, Act.put, nb4, nb5, nb6]
 refine tkA (i := 5) (v := ?vpr2_5_k14) rfl (Or.inl ⟨by first | rfl | kernel_rfl, ?hypr2_5_k14⟩) (by assumption) ?repr2_5_k14
 case hypr2_5_k14 => (intro u hSu; (go_simp <;> with_reducible rfl))
 try simp only [nb1, nb2, nb3, Act.put, nb4, nb5, nb6]
 refine wpAnyH_done (by kernel_rfl) ?_ _
 obtain ⟨b0c0, b0c1, b0c2, b0f0, b0f1, b0f2⟩ := fac3 (x := x1) (HS.out.at 1 _ _ _ rfl)
 have b0l := blk_lt (HS.out.at 1 _ _ _ rfl)
 obtain ⟨b1c0, b1c1, b1c2, b1f0, b1f1, b1f2⟩ := fac3 (x := y1) (HS.out.at 0 _ _ _ rfl)
 have b1l := blk_lt (HS.out.at 0 _ _ _ rfl)
 go_wp2_with fail
 clear b0c0 b0c1 b0c2 b0f0 b0f1 b0f2 b0l b1c0 b1c1 b1c2 b1f0 b1f1 b1f2 b1l
 go_ret
 exact ⟨by simp, HS.out.bel⟩
end Go.Proofs.YtakempimcbofgaaGreat

namespace Go.Proofs.YtakempimcbofgaaGreat
open Go.RowKit

def fillT (t : Array Value) (ds : List Nat) (f : Nat → Value) : Array Value := ds.foldl (fun t d => t.setIfInBounds d (f d)) t
def fillA (a : Act) (ds : List Nat) (f : Nat → Value) : Act := { a with tmps := fillT a.tmps ds f }
theorem fillT_get (f : Nat → Value) (j : Nat) : ∀ (ds : List Nat) (t : Array Value), (fillT t ds f)[j]? = if j ∈ ds ∧ j < t.size then some (f j) else t[j]?
 | [], t => by simp [fillT]
 | d :: ds, t => by
  have ih := fillT_get f j ds (t.setIfInBounds d (f d))
  show (fillT (t.setIfInBounds d (f d)) ds f)[j]? = _
  rw [ih, Array.size_setIfInBounds]
  by_cases h1 : j ∈ ds ∧ j < t.size
  ·
   rw [if_pos h1, if_pos ⟨List.mem_cons_of_mem _ h1.1, h1.2⟩]
  ·
   rw [if_neg h1, Array.getElem?_setIfInBounds]
   by_cases h2 : d = j
   ·
    subst h2
    rw [if_pos rfl]
    by_cases h3 : d < t.size
    ·
     rw [if_pos h3, if_pos ⟨List.mem_cons_self, h3⟩]
    ·
     rw [if_neg h3, if_neg (fun h => h3 h.2), Array.getElem?_eq_none (by omega)]
   ·
    rw [if_neg h2, if_neg (fun h => h1 ⟨by rcases List.mem_cons.1 h.1 with h | h; exact absurd h.symm h2; exact h, h.2⟩)]
theorem fillT_size (f : Nat → Value) : ∀ (ds : List Nat) (t : Array Value), (fillT t ds f).size = t.size
 | [], t => rfl
 | d :: ds, t => by
  show (fillT (t.setIfInBounds d (f d)) ds f).size = _
  rw [fillT_size, Array.size_setIfInBounds]
theorem fillA_put {a : Act} {ds : List Nat} {f : Nat → Value} {d : Nat} {v : Value} (hd : d ∈ ds) : (fillA a ds f).put (some d) v = fillA a ds (fun e => if e = d then v else f e) := by
 have e : (fillT a.tmps ds f).setIfInBounds d v = fillT a.tmps ds (fun e => if e = d then v else f e) := by
  apply Array.ext_getElem?
  intro j
  rw [Array.getElem?_setIfInBounds, fillT_get, fillT_get, fillT_size]
  by_cases h : d = j
  ·
   subst h
   rw [if_pos rfl]
   by_cases h3 : d < a.tmps.size
   ·
    rw [if_pos h3, if_pos ⟨hd, h3⟩]; simp
   ·
    rw [if_neg h3, if_neg (fun h => h3 h.2), Array.getElem?_eq_none (by omega)]
  ·
   rw [if_neg h]
   have h' : ¬ j = d := fun e => h e.symm
   simp [h']
 unfold fillA
 show ({ a with tmps := fillT a.tmps ds f } : Act).put (some d) v = _
 unfold Act.put
 simp [e]
theorem fillA_id (a : Act) (ds : List Nat) : fillA a ds (fun d => a.tmps.getD d undef) = a := by
 unfold fillA
 have e : fillT a.tmps ds (fun d => a.tmps.getD d undef) = a.tmps := by
  apply Array.ext_getElem?
  intro j
  rw [fillT_get]
  split
  ·
   rename_i h
   rw [Array.getElem?_eq_getElem h.2, Array.getD_eq_getD_getElem?, Array.getElem?_eq_getElem h.2]
   rfl
  ·
   rfl
 rw [e]
def AllM (p : Nat → Prop) : List Nat → Prop
 | [] => True
 | i :: l => p i ∧ AllM p l
theorem AllM.at {p : Nat → Prop} {i : Nat} : ∀ {l : List Nat}, AllM p l → i ∈ l → p i
 | j :: l, h, hi => by
  rcases List.mem_cons.1 hi with rfl | hi
  ·
   exact h.1
  ·
   exact h.2.at hi
def modOk (ops : Array Oper) (l0 lM : Array Bool) (M N E : List Nat) (dst : Nat → Nat) (preds : Nat → List Nat) (ds : List Nat) : Bool :=
 l0.size == ops.size && lM.size == ops.size &&
 (List.range ops.size).all (fun i => lM.getD i true == (l0.getD i true || M.contains i)) &&
 M.all (fun i => l0.getD i true == false && (match ops[i]? with
  | some o => o.dst == some (dst i) && ds.contains (dst i) && (preds i).all (fun j => M.contains j && o.after.any (fun e => Region.binds .any e && e.on == j)) &&
    o.after.all (fun e => !Region.binds .any e || l0.getD e.on false || (M.contains e.on && Nat.blt e.on i))
  | none => false)) &&
 (List.range ops.size).all (fun i => l0.getD i true || M.contains i || (match ops[i]? with
  | some o => o.after.any (fun e => Region.binds .any e && (l0.getD e.on true == false && M.contains e.on == false)) || M.all (fun j => o.after.any (fun e => Region.binds .any e && e.on == j) || M.any (fun l => Nat.blt j l && (match ops[l]? with
    | some o' => o'.after.any (fun e => Region.binds .any e && e.on == j)
    | none => false)) || (E.contains j && (match ops[j]? with
    | some oj => oj.after.all (fun e => !Region.binds .any e || l0.getD e.on false || o.after.any (fun e' => Region.binds .any e' && e'.on == e.on))
    | none => false)))
  | none => false)) &&
 M.all (fun i => M.all (fun j => i == j || dst i != dst j)) && M.all (fun i => N.contains i || E.contains i) && Region.noSelect ops &&
 E.all (fun i => M.contains i && (match ops[i]? with
  | some oi => (List.range ops.size).all (fun j => j == i || oi.after.any (fun e => Region.binds .any e && e.on == j) || (match ops[j]? with
   | some oj => oj.after.any (fun e => Region.binds .any e && e.on == i) || oi.apart ops oj
   | none => true))
  | none => false))
section
variable {P : Program} {ops : Array Oper} {Q : Exit → Act → World → Prop}
def StepM (P : Program) (ops : Array Oper) (Q : Exit → Act → World → Prop) (a0 : Act) (ds : List Nat) (W0 : World) (PV : Nat → Value → World → Prop) (dst : Nat → Nat) (preds : Nat → List Nat) (al : List Nat) (i : Nat) : Prop :=
 ∀ o, ops[i]? = some o → ∀ f w, Below W0.heap.size W0 w → (∀ j, j ∈ preds i → PV j (f (dst j)) w) →
  ∀ K' : Act → World → Prop, Shut (∀ a' w'' v, a' = (fillA a0 ds f).put o.dst v → PV i v w'' → (i ∈ al → v = .pointer (some ⟨w.heap.size, 0, none⟩)) → Below w.heap.size w w'' → K' a' w'') →
   if Region.wanted o (yielded ops (fillA a0 ds f).tmps) = true then Oper.wp P o (fillA a0 ds f) w K' Q else K' ((fillA a0 ds f).put o.dst undef) w
theorem StepM.of {a0 : Act} {ds : List Nat} {W0 : World} {PV : Nat → Value → World → Prop} {dst : Nat → Nat} {preds : Nat → List Nat} {al : List Nat} {i : Nat} {o : Oper} (ho : ops[i]? = some o)
  (h : ∀ f w, Below W0.heap.size W0 w → (∀ j, j ∈ preds i → PV j (f (dst j)) w) →
   ∀ K' : Act → World → Prop, Shut (∀ a' w'' v, a' = (fillA a0 ds f).put o.dst v → PV i v w'' → (i ∈ al → v = .pointer (some ⟨w.heap.size, 0, none⟩)) → Below w.heap.size w w'' → K' a' w'') →
   if Region.wanted o (yielded ops (fillA a0 ds f).tmps) = true then Oper.wp P o (fillA a0 ds f) w K' Q else K' ((fillA a0 ds f).put o.dst undef) w) : StepM P ops Q a0 ds W0 PV dst preds al i :=
 fun o' ho' => by rw [ho] at ho'; cases ho'; exact h
def EagerM (P : Program) (ops : Array Oper) (a0 : Act) (ds : List Nat) (W0 : World) (PV : Nat → Value → World → Prop) (dst : Nat → Nat) (preds : Nat → List Nat) (i : Nat) : Prop :=
 ∀ o, ops[i]? = some o → ∀ f w, Below W0.heap.size W0 w → (∀ j, j ∈ preds i → PV j (f (dst j)) w) →
  ∃ v, PV i v w ∧ Region.wanted o (yielded ops (fillA a0 ds f).tmps) = true ∧ ∀ u, (execOp (fillA a0 ds f).eval o).run P u = .ok (.value v) u
theorem EagerM.of {a0 : Act} {ds : List Nat} {W0 : World} {PV : Nat → Value → World → Prop} {dst : Nat → Nat} {preds : Nat → List Nat} {i : Nat} {o : Oper} (ho : ops[i]? = some o)
  (h : ∀ f w, Below W0.heap.size W0 w → (∀ j, j ∈ preds i → PV j (f (dst j)) w) →
   ∃ v, PV i v w ∧ Region.wanted o (yielded ops (fillA a0 ds f).tmps) = true ∧ ∀ u, (execOp (fillA a0 ds f).eval o).run P u = .ok (.value v) u) : EagerM P ops a0 ds W0 PV dst preds i :=
 fun o' ho' => by rw [ho] at ho'; cases ho'; exact h
theorem wpAnyH_mod {S : World → Prop} {a0 : Act} {ds : List Nat} {l0 lM : Array Bool} {M N E : List Nat} {F : Nat} {W0 : World} {PV : Nat → Value → World → Prop} {dst : Nat → Nat} {preds : Nat → List Nat} {al : List Nat}
  (hchk : modOk ops l0 lM M N E dst preds ds = true) (hQ : ∀ c a (d : Nat) v w, Q (.panic c) (Act.put a (some d) v) w → Q (.panic c) a w)
  (hst : ∀ i v w w', Below w.heap.size w w' → PV i v w → PV i v w')
  (hal : ∀ i v w, i ∈ al → PV i v w → ∃ B, v = .pointer (some ⟨B, 0, none⟩) ∧ B < w.heap.size)
  (hS : ∀ w, Below W0.heap.size W0 w → S w)
  (hstep : AllM (StepM P ops Q a0 ds W0 PV dst preds al) N) (heag : AllM (EagerM P ops a0 ds W0 PV dst preds) E) (hEal : ∀ i, i ∈ E → i ∉ al)
  (hend : ∀ f w, Below W0.heap.size W0 w → (∀ i, i ∈ M → PV i (f (dst i)) w) → (∀ i j, i ∈ M → j ∈ M → i ∈ al → j ∈ al → i ≠ j → f (dst i) ≠ f (dst j)) → wpAnyH P .any ops Q S F lM (fillA a0 ds f) w) :
  ∀ (n : Nat) (U : List Nat) (listed : Array Bool) (f : Nat → Value) (w : World), U.length = n → listed.size = ops.size →
   (∀ i, i ∉ M → listed.getD i true = l0.getD i true) → (∀ i, i ∈ M → (listed.getD i true = false ↔ i ∈ U)) → (∀ i, i ∈ U → i ∈ M) → U.Nodup → Below W0.heap.size W0 w →
   (∀ i, i ∈ M → i ∉ U → PV i (f (dst i)) w) → (∀ i j, i ∈ M → j ∈ M → i ∉ U → j ∉ U → i ∈ al → j ∈ al → i ≠ j → f (dst i) ≠ f (dst j)) →
   (∀ i, i ∈ M → i ∉ U → ∀ o, ops[i]? = some o → ∀ e, e ∈ o.after → Region.binds .any e = true → e.on ∈ U → False) →
   wpAnyH P .any ops Q S (F + n) listed (fillA a0 ds f) w := by
 unfold modOk at hchk
 simp only [Bool.and_eq_true, beq_iff_eq, List.all_eq_true, List.mem_range] at hchk
 obtain ⟨⟨⟨⟨⟨⟨⟨⟨k1, k2⟩, k3⟩, k4⟩, k5⟩, k6⟩, k7⟩, k8⟩, k9⟩ := hchk
 intro n
 induction n with
 | zero =>
  intro U listed f w hU hsz hout hin hsub hnd hb hp hdist hdc
  obtain rfl : U = [] := List.eq_nil_of_length_eq_zero hU
  have e : listed = lM := by
   apply Array.ext (by omega)
   intro i h1 h2
   have hi : i < ops.size := by omega
   have g1 : listed.getD i true = listed[i] := by simp [Array.getD_eq_getD_getElem?, h1]
   have g2 : lM.getD i true = lM[i] := by simp [Array.getD_eq_getD_getElem?, h2]
   rw [← g1, ← g2, k3 i hi]
   by_cases hm : i ∈ M
   ·
    have := hin i hm
    have h3 : M.contains i = true := by simpa using hm
    rw [h3, Bool.or_true]
    cases h4 : listed.getD i true with
    | true => rfl
    | false => exact absurd (this.1 h4) (by simp)
   ·
    have h3 : M.contains i = false := by simpa using hm
    rw [h3, Bool.or_false, hout i hm]
  rw [e]
  exact hend f w hb (fun i hi => hp i hi (by simp)) (fun i j h1 h2 => hdist i j h1 h2 (by simp) (by simp))
 | succ n ih =>
  intro U listed f w hU hsz hout hin hsub hnd hb hp hdist hdc
  have hpre : ∀ i, i ∈ U → i ∈ Region.ready .any ops listed → ∀ o, ops[i]? = some o → ∀ j, j ∈ preds i → PV j (f (dst j)) w := by
   intro i hiU hi o ho j hj
   have hm := hsub i hiU
   have h4 := k4 i hm
   rw [ho] at h4
   simp only [Bool.and_eq_true, beq_iff_eq] at h4
   obtain ⟨_, ⟨⟨hdst, hds⟩, hpr⟩, _⟩ := h4
   rw [List.all_eq_true] at hpr
   have h6 := hpr j hj
   simp only [Bool.and_eq_true] at h6
   obtain ⟨hjM, hja⟩ := h6
   have hjM : j ∈ M := by simpa using hjM
   refine hp j hjM (fun hjU => ?_)
   obtain ⟨_, o', ho', hall⟩ := mem_ready.1 hi
   rw [ho] at ho'
   cases ho'
   rw [Array.any_eq_true'] at hja
   obtain ⟨e, he, hbe⟩ := hja
   simp only [Bool.and_eq_true, beq_iff_eq] at hbe
   have h7 := hall e he hbe.1
   rw [hbe.2] at h7
   have h8 := (hin j hjM).2 hjU
   rw [Array.getD_eq_getD_getElem?] at h7 h8
   cases hx : listed[j]? with
   | none => rw [hx] at h7; simp at h7
   | some b => rw [hx] at h7 h8; simp at h7 h8; rw [h7] at h8; cases h8
  -- behind an operation of U that was ready
  have hgo : ∀ i, i ∈ U → i ∈ Region.ready .any ops listed → ∀ o, ops[i]? = some o → ∀ w'' v, PV i v w'' → (i ∈ al → v = .pointer (some ⟨w.heap.size, 0, none⟩)) → Below w.heap.size w w'' →
    wpAnyH P .any ops Q S (F + n) (listed.setIfInBounds i true) (fillA a0 ds (fun e => if e = dst i then v else f e)) w'' := by
   intro i hiU hi o ho w'' v hv hfresh hb'
   have hm := hsub i hiU
   have hdd : ∀ j, j ∈ M → j ≠ i → dst j ≠ dst i := fun j hj hne h => by
    have := k6 j hj i hm
    simp only [Bool.or_eq_true, beq_iff_eq, bne_iff_ne] at this
    rcases this with h1 | h1
    ·
     exact hne h1
    ·
     exact h1 h
   refine ih (U.erase i) _ _ _ (by rw [List.length_erase_of_mem hiU]; omega) (by rw [Array.size_setIfInBounds]; exact hsz) (fun j hj => ?_) (fun j hj => ?_) (fun j hj => hsub j (List.mem_of_mem_erase hj)) (hnd.erase i) (hb.trans (hb'.mono hb.size)) (fun j hj hju => ?_) (fun j l hj hl hju hlu hja hla hjl => ?_) (fun j hj hju o' ho' e he hbe heU => ?_)
   ·
    have hne : i ≠ j := fun h => hj (h ▸ hm)
    rw [getD_set_ne true hne]
    exact hout j hj
   ·
    by_cases hij : i = j
    ·
     subst hij
     have hlt : i < listed.size := by rw [hsz]; exact (Array.getElem?_eq_some_iff.1 ho).1
     constructor
     ·
      intro h
      rw [Array.getD_eq_getD_getElem?, Array.getElem?_setIfInBounds] at h
      simp [hlt] at h
     ·
      intro h
      exact absurd h (List.Nodup.not_mem_erase hnd)
    ·
     rw [getD_set_ne true hij, hin j hj, List.Nodup.mem_erase_iff hnd]
     constructor
     ·
      intro h; exact ⟨fun e => hij e.symm, h⟩
     ·
      intro h; exact h.2
   ·
    by_cases hij : j = i
    ·
     subst hij
     simpa using hv
    ·
     have := hp j hj (fun h => hju ((List.Nodup.mem_erase_iff hnd).2 ⟨hij, h⟩))
     show PV j (if dst j = dst i then v else f (dst j)) w''
     rw [if_neg (hdd j hj hij)]
     exact hst j _ _ _ hb' this
   ·
    show (if dst j = dst i then v else f (dst j)) ≠ (if dst l = dst i then v else f (dst l))
    have hnew : ∀ k, k ∈ M → k ≠ i → k ∉ U.erase i → k ∈ al → i ∈ al → f (dst k) ≠ v := fun k hk hki hku hka hia => by
     have h1 := hp k hk (fun h => hku ((List.Nodup.mem_erase_iff hnd).2 ⟨hki, h⟩))
     obtain ⟨B, hB, hlt⟩ := hal k _ _ hka h1
     rw [hB, hfresh hia]
     intro h
     have h2 := congrArg (fun v => match v with | Value.pointer (some a) => a.block | _ => 0) h
     dsimp only at h2
     omega
    by_cases h1 : j = i
    ·
     subst h1
     rw [if_pos rfl, if_neg (hdd l hl (fun h => hjl h.symm))]
     exact fun h => hnew l hl (fun h => hjl h.symm) hlu hla hja h.symm
    ·
     rw [if_neg (hdd j hj h1)]
     by_cases h2 : l = i
     ·
      subst h2
      rw [if_pos rfl]
      exact hnew j hj h1 hju hja hla
     ·
      rw [if_neg (hdd l hl h2)]
      exact hdist j l hj hl (fun h => hju ((List.Nodup.mem_erase_iff hnd).2 ⟨h1, h⟩)) (fun h => hlu ((List.Nodup.mem_erase_iff hnd).2 ⟨h2, h⟩)) hja hla hjl
   ·
    have heU2 : e.on ∈ U := List.mem_of_mem_erase heU
    by_cases hij : j = i
    ·
     subst hij
     obtain ⟨_, o2, ho2, hall⟩ := mem_ready.1 hi
     rw [ho'] at ho2
     cases ho2
     have h7 := hall e he hbe
     have h8 := (hin e.on (hsub _ heU2)).2 heU2
     rw [Array.getD_eq_getD_getElem?] at h7 h8
     cases hx : listed[e.on]? with
     | none => rw [hx] at h7; simp at h7
     | some b => rw [hx] at h7 h8; simp at h7 h8; rw [h7] at h8; cases h8
    ·
     exact hdc j hj (fun h => hju ((List.Nodup.mem_erase_iff hnd).2 ⟨hij, h⟩)) o' ho' e he hbe heU2
  have hdstd : ∀ i, i ∈ M → ∀ o, ops[i]? = some o → o.dst = some (dst i) ∧ dst i ∈ ds := by
   intro i hm o ho
   have h4 := k4 i hm
   rw [ho] at h4
   simp only [Bool.and_eq_true, beq_iff_eq] at h4
   obtain ⟨_, ⟨⟨hdst, hds⟩, hpr⟩, _⟩ := h4
   exact ⟨hdst, by simpa using hds⟩
  by_cases hE : ∃ i, i ∈ E ∧ i ∈ U ∧ i ∈ Region.ready .any ops listed
  ·
   obtain ⟨i, hiE, hiU, hi⟩ := hE
   obtain ⟨_, o, ho, _⟩ := mem_ready.1 hi
   obtain ⟨hdst, hds⟩ := hdstd i (hsub i hiU) o ho
   obtain ⟨v, hv, hw, hrun⟩ := heag.at hiE o ho f w hb (hpre i hiU hi o ho)
   refine wpAnyH_first (v := v) ho (Region.noSelect_spec k8) (fun c a w h => hQ c a (dst i) v w (by rw [hdst] at h; exact h)) (F + n) listed _ w ?_ hi (.inl ⟨hw, fun u _ => hrun u⟩) (hS _ hb) ?_
   ·
    intro j oj hoj hne hun hno
    have h9 := (k9 i hiE).2
    rw [ho] at h9
    simp only [List.all_eq_true, List.mem_range] at h9
    have h10 := h9 j (Array.getElem?_eq_some_iff.1 hoj).1
    rw [hoj] at h10
    simp only [Bool.or_eq_true, beq_iff_eq, hne, false_or] at h10
    rcases h10 with h10 | h10 | h10
    ·
     exfalso
     rw [Array.any_eq_true'] at h10
     obtain ⟨e, he, hbe⟩ := h10
     simp only [Bool.and_eq_true, beq_iff_eq] at hbe
     obtain ⟨_, o2, ho2, hall⟩ := mem_ready.1 hi
     rw [ho] at ho2
     cases ho2
     have h11 := hall e he hbe.1
     rw [hbe.2] at h11
     rw [Array.getD_eq_getD_getElem?] at h11 hun
     cases hx : listed[j]? with
     | none => rw [hx] at h11; simp at h11
     | some b => rw [hx] at h11 hun; simp at h11 hun; rw [h11] at hun; cases hun
    ·
     exfalso
     rw [Array.any_eq_true'] at h10
     obtain ⟨e, he, hbe⟩ := h10
     simp only [Bool.and_eq_true, beq_iff_eq] at hbe
     exact hno e he hbe.1 hbe.2
    ·
     exact h10
   ·
    rw [hdst, fillA_put hds]
    exact hgo i hiU hi o ho w v hv (fun h => absurd h (hEal i hiE)) (Below.refl _ _)
  ·
   -- what is ready lies in U
   have hready : ∀ i, i ∈ Region.ready .any ops listed → i ∈ U := by
    intro i hi
    obtain ⟨g1, o, ho, hall⟩ := mem_ready.1 hi
    by_cases hm : i ∈ M
    ·
     exact (hin i hm).1 g1
    ·
     exfalso
     have hlt : i < ops.size := (Array.getElem?_eq_some_iff.1 ho).1
     have h5 := k5 i hlt
     rw [hout i hm] at g1
     have h3 : M.contains i = false := by simpa using hm
     rw [g1, h3, ho] at h5
     simp only [Bool.false_or] at h5
     rw [Bool.or_eq_true] at h5
     rcases h5 with h5 | h5
     ·
      rw [Array.any_eq_true'] at h5
      obtain ⟨e, he, hbe⟩ := h5
      simp only [Bool.and_eq_true, beq_iff_eq] at hbe
      obtain ⟨hb1, hb2, hb3⟩ := hbe
      have h7 := hall e he hb1
      have hem : e.on ∉ M := by simpa using hb3
      have h8 := hout e.on hem
      rw [hb2] at h8
      rw [Array.getD_eq_getD_getElem?] at h7 h8
      cases hx : listed[e.on]? with
      | none => rw [hx] at h7; simp at h7
      | some b => rw [hx] at h7 h8; simp at h7 h8; rw [h7] at h8; cases h8
     rw [List.all_eq_true] at h5
     have hne : U ≠ [] := by intro h; rw [h] at hU; simp at hU
     have hu : U.max hne ∈ U := List.max_mem hne
     have hmax : ∀ j, j ∈ U → j ≤ U.max hne := fun j hj => List.le_max_of_mem hj
     generalize U.max hne = u at hu hmax
     have h6 := h5 u (hsub u hu)
     rw [Bool.or_eq_true, Bool.or_eq_true] at h6
     rcases h6 with (h6 | h6) | h6
     ·
      rw [Array.any_eq_true'] at h6
      obtain ⟨e, he, hbe⟩ := h6
      simp only [Bool.and_eq_true, beq_iff_eq] at hbe
      have h7 := hall e he hbe.1
      rw [hbe.2] at h7
      have h8 := (hin u (hsub u hu)).2 hu
      rw [Array.getD_eq_getD_getElem?] at h7 h8
      cases hx : listed[u]? with
      | none => rw [hx] at h7; simp at h7
      | some b => rw [hx] at h7 h8; simp at h7 h8; rw [h7] at h8; cases h8
     ·
      rw [List.any_eq_true] at h6
      obtain ⟨l, hl, h6⟩ := h6
      rw [Bool.and_eq_true] at h6
      obtain ⟨h6a, h6b⟩ := h6
      have hlt2 : u < l := by simpa using h6a
      have hlu : l ∉ U := fun h => by have := hmax l h; omega
      cases hol : ops[l]? with
      | none => rw [hol] at h6b; simp at h6b
      | some o' =>
       rw [hol] at h6b
       simp only [Array.any_eq_true'] at h6b
       obtain ⟨e, he, hbe⟩ := h6b
       simp only [Bool.and_eq_true, beq_iff_eq] at hbe
       exact hdc l hl hlu o' hol e he hbe.1 (hbe.2 ▸ hu)
     ·
      rw [Bool.and_eq_true] at h6
      obtain ⟨h6a, h6b⟩ := h6
      cases hou : ops[u]? with
      | none => rw [hou] at h6b; simp at h6b
      | some ou =>
       rw [hou] at h6b
       simp only [Array.all_eq_true_iff_forall_mem] at h6b
       refine hE ⟨u, by simpa using h6a, hu, mem_ready.2 ⟨(hin u (hsub u hu)).2 hu, ou, hou, fun e he hbe => ?_⟩⟩
       have h7 := h6b e he
       rw [hbe] at h7
       simp only [Bool.not_true, Bool.false_or, Bool.or_eq_true] at h7
       rcases h7 with h7 | h7
       ·
        by_cases hem : e.on ∈ M
        ·
         exfalso
         have h9 := (k4 e.on hem).1
         rw [Array.getD_eq_getD_getElem?] at h7 h9
         cases hx : l0[e.on]? with
         | none => rw [hx] at h7; simp at h7
         | some b => rw [hx] at h7 h9; simp at h7 h9; rw [h7] at h9; cases h9
        ·
         have h13 : l0.getD e.on true = true ∧ e.on < l0.size := by
          rw [Array.getD_eq_getD_getElem?] at h7 ⊢
          cases hx : l0[e.on]? with
          | none => rw [hx] at h7; simp at h7
          | some b => rw [hx] at h7; exact ⟨by simpa using h7, (Array.getElem?_eq_some_iff.1 hx).1⟩
         have h14 := hout e.on hem
         rw [h13.1] at h14
         rw [Array.getD_eq_getD_getElem?] at h14 ⊢
         have h15 : e.on < listed.size := by omega
         rw [Array.getElem?_eq_getElem h15] at h14 ⊢
         simpa using h14
       ·
        rw [Array.any_eq_true'] at h7
        obtain ⟨e', he', hbe'⟩ := h7
        simp only [Bool.and_eq_true, beq_iff_eq] at hbe'
        have h8 := hall e' he' hbe'.1
        rw [hbe'.2] at h8
        exact h8
   -- something is ready: the least of U
   have hmin : ∃ i, i ∈ U ∧ ∀ j, j ∈ U → i ≤ j := by
    have hne : U ≠ [] := by intro h; rw [h] at hU; simp at hU
    refine ⟨U.min hne, List.min_mem hne, fun j hj => List.min_le_of_mem hj⟩
   have hsome : Region.ready .any ops listed ≠ [] := by
    obtain ⟨i, hi, hle⟩ := hmin
    have hm := hsub i hi
    have h4 := k4 i hm
    cases ho : ops[i]? with
    | none => rw [ho] at h4; simp at h4
    | some o =>
     rw [ho] at h4
     simp only [Bool.and_eq_true, beq_iff_eq] at h4
     obtain ⟨_, ⟨⟨_, _⟩, _⟩, h7⟩ := h4
     have : i ∈ Region.ready .any ops listed := by
      rw [mem_ready]
      refine ⟨(hin i hm).2 hi, o, ho, fun e he hbe => ?_⟩
      rw [Array.all_eq_true_iff_forall_mem] at h7
      have h8 := h7 e he
      rw [hbe] at h8
      simp only [Bool.not_true, Bool.false_or, Bool.or_eq_true, Bool.and_eq_true] at h8
      have hgd : listed.getD e.on true = true → listed.getD e.on false = true ∨ ops.size ≤ e.on := fun h => by
       rw [Array.getD_eq_getD_getElem?] at h ⊢
       cases hx : listed[e.on]? with
       | none => right; have := Array.getElem?_eq_none_iff.1 hx; omega
       | some b => left; rw [hx] at h; simpa using h
      by_cases hem : e.on ∈ M
      ·
       have hlt : e.on < i := by
        rcases h8 with h8 | h8
        ·
         exfalso
         have h9 := k4 e.on hem
         have h10 := h9.1
         rw [Array.getD_eq_getD_getElem?] at h8 h10
         cases hx : l0[e.on]? with
         | none => rw [hx] at h8; simp at h8
         | some b => rw [hx] at h8 h10; simp at h8 h10; rw [h8] at h10; cases h10
        ·
         simpa using h8.2
       have hnu : e.on ∉ U := fun h => by have := hle _ h; omega
       have h11 : listed.getD e.on true = true := by
        cases h12 : listed.getD e.on true with
        | true => rfl
        | false => exact absurd ((hin e.on hem).1 h12) hnu
       rcases hgd h11 with h | h
       ·
        exact h
       ·
        exfalso
        have := k4 e.on hem
        rw [Array.getElem?_eq_none h] at this
        simp at this
      ·
       rcases h8 with h8 | h8
       ·
        have h13 : l0.getD e.on true = true := by
         rw [Array.getD_eq_getD_getElem?] at h8 ⊢
         cases hx : l0[e.on]? with
         | none => rfl
         | some b => rw [hx] at h8; simpa using h8
        have h14 := hout e.on hem
        rw [h13] at h14
        rcases hgd h14 with h | h
        ·
         exact h
        ·
         exfalso
         rw [Array.getD_eq_getD_getElem?, Array.getElem?_eq_none (by omega)] at h8
         simp at h8
       ·
        exact absurd (by simpa using h8.1) hem
     intro h
     rw [h] at this
     cases this
   refine ⟨fun h => absurd h hsome, fun i hi => ?_⟩
   have hiU := hready i hi
   have hm := hsub i hiU
   obtain ⟨_, o, ho, _⟩ := mem_ready.1 hi
   obtain ⟨hdst, hds⟩ := hdstd i hm o ho
   refine wpOp_step ho (fun K' hK => ?_)
   have hiN : i ∈ N := by
    have := k7 i hm
    rw [Bool.or_eq_true] at this
    rcases this with h | h
    ·
     simpa using h
    ·
     exact absurd ⟨i, by simpa using h, hiU, hi⟩ hE
   refine hstep.at hiN o ho f w hb (hpre i hiU hi o ho) K' ?_
   intro a' w'' v ha' hv hfresh hb'
   refine hK _ _ ⟨hS _ (hb.trans (hb'.mono hb.size)), ?_⟩
   rw [ha', hdst, fillA_put hds]
   exact hgo i hiU hi o ho w'' v hv hfresh hb'
end
section
variable {P : Program} {ops : Array Oper} {Q : Exit → Act → World → Prop}
def pickV : List (Nat × (Value → World → Prop)) → Nat → Value → World → Prop
 | [], _ => fun _ _ => True
 | (j, p) :: l, i => if i = j then p else pickV l i
def StV : List (Nat × (Value → World → Prop)) → Prop
 | [] => True
 | (_, p) :: l => (∀ v w w', Below w.heap.size w w' → p v w → p v w') ∧ StV l
theorem StV.st : ∀ {l : List (Nat × (Value → World → Prop))}, StV l → ∀ i v w w', Below w.heap.size w w' → pickV l i v w → pickV l i v w'
 | [], _, _, _, _, _, _, _ => trivial
 | (j, p) :: l, h, i, v, w, w', hb, hp => by
  unfold pickV at hp ⊢
  split
  ·
   rename_i he; rw [if_pos he] at hp; exact h.1 v w w' hb hp
  ·
   rename_i he; rw [if_neg he] at hp; exact h.2.st i v w w' hb hp
def lookN : List (Nat × Nat) → Nat → Nat
 | [], _ => 0
 | (j, d) :: l, i => if i = j then d else lookN l i
def lookL : List (Nat × List Nat) → Nat → List Nat
 | [], _ => []
 | (j, d) :: l, i => if i = j then d else lookL l i
theorem wpAnyH_modular {S : World → Prop} {a : Act} {w : World} {fuel : Nat} {l0 : Array Bool} (M N E ds : List Nat) (lM : Array Bool) (F : Nat) (dst : List (Nat × Nat)) (preds : List (Nat × List Nat)) (al : List Nat) (pv : List (Nat × (Value → World → Prop)))
  (hf : fuel = F + M.length) (hchk : modOk ops l0 lM M N E (lookN dst) (lookL preds) ds = true) (hnd : M.Nodup) (hsz : l0.size = ops.size) (hst : StV pv)
  (hal : AllM (fun i => ∀ v w, pickV pv i v w → ∃ B, v = .pointer (some ⟨B, 0, none⟩) ∧ B < w.heap.size) al)
  (hS : ∀ w', Below w.heap.size w w' → S w')
  (hstep : AllM (StepM P ops Q a ds w (pickV pv) (lookN dst) (lookL preds) al) N) (heag : AllM (EagerM P ops a ds w (pickV pv) (lookN dst) (lookL preds)) E) (hEal : ∀ i, i ∈ E → i ∉ al)
  (hend : ∀ f w', Below w.heap.size w w' → (∀ i, i ∈ M → pickV pv i (f (lookN dst i)) w') → (∀ i j, i ∈ M → j ∈ M → i ∈ al → j ∈ al → i ≠ j → f (lookN dst i) ≠ f (lookN dst j)) → wpAnyH P .any ops Q S F lM (fillA a ds f) w') (hQ : ∀ c a (d : Nat) v w, Q (.panic c) (Act.put a (some d) v) w → Q (.panic c) a w := by exact fun _ _ _ _ _ h => h) :
  wpAnyH P .any ops Q S fuel l0 a w := by
 have k4 : ∀ i, i ∈ M → l0.getD i true = false := fun i hi => by
  have h := hchk
  unfold modOk at h
  simp only [Bool.and_eq_true, beq_iff_eq, List.all_eq_true] at h
  exact (h.1.1.1.1.1.2 i hi).1
 have h := wpAnyH_mod hchk hQ hst.st (fun i v w hi h => hal.at hi v w h) hS hstep heag hEal hend M.length M l0 (fun d => a.tmps.getD d undef) w rfl hsz (fun _ _ => rfl) (fun i hi => ⟨fun _ => hi, fun _ => k4 i hi⟩) (fun _ h => h) hnd (Below.refl _ _) (fun i hi hn => absurd hi hn) (fun i j hi _ hn => absurd hi hn) (fun i hi hn => absurd hi hn)
 rw [fillA_id] at h
 rw [hf]
 exact h
end
theorem Sx.addBox {w0 w : World} {bs : List Bx} {fs : List Fx} (h : Sx w0 w bs fs) {B T : Nat} {cs : Array Value} (hB : w.heap[B]? = some (.cells cs T (0, 0))) (h1 : w0.heap.size ≤ B) (hp : cs.toList.all plainV = true) (hn : ∀ b, b ∈ bs → b.1 ≠ B) : Sx w0 w ((B, cs, T) :: bs) fs := by
 refine ⟨h.bel, fun i b hi => ?_, ?_, h.fra⟩
 ·
  match i, hi with
  | 0, hi => simp at hi; subst hi; exact ⟨hB, h1, hp⟩
  | i + 1, hi => exact h.box i b (by simpa using hi)
 ·
  rw [List.map_cons, List.nodup_cons]
  refine ⟨fun hm => ?_, h.nod⟩
  obtain ⟨b, hb1, hb2⟩ := List.mem_map.1 hm
  exact hn b hb1 hb2
theorem Sx.lt {w0 w : World} {bs : List Bx} {fs : List Fx} (h : Sx w0 w bs fs) : ∀ b, b ∈ bs → b.1 < w.heap.size := fun b hb => by
 obtain ⟨i, hi⟩ := List.mem_iff_getElem?.1 hb
 exact blk_lt (h.box i b hi).1
end Go.Proofs.YtakempimcbofgaaGreat

namespace Go.Proofs.YtakempimcbofgaaGreat
open Go.RowKit

abbrev Ent := Int × Rat × Rat
def Ent7 (R : World → Value → Rat → Prop) (w : World) (b o : Nat) (e : Ent) : Prop :=
 ∃ x y : R3, w.cell? ⟨b, o, none⟩ = some (.int .i64 e.1) ∧ w.cell? ⟨b, o + 1, none⟩ = some (.bool x.b) ∧ w.cell? ⟨b, o + 2, none⟩ = some (.slice x.a x.n x.c) ∧ w.cell? ⟨b, o + 3, none⟩ = some (.slice x.d x.m x.e) ∧ w.cell? ⟨b, o + 4, none⟩ = some (.bool y.b) ∧ w.cell? ⟨b, o + 5, none⟩ = some (.slice y.a y.n y.c) ∧ w.cell? ⟨b, o + 6, none⟩ = some (.slice y.d y.m y.e) ∧ R w x.val e.2.1 ∧ R w y.val e.2.2
def TabOf (R : World → Value → Rat → Prop) (w : World) (v : Value) (es : List Ent) : Prop :=
 ∃ ao cap, v = .slice ao es.length cap ∧ (0 < es.length → ∃ b off, ao = some ⟨b, off, none⟩ ∧ b < w.heap.size ∧ ∀ i, i < es.length → Ent7 R w b (off + i * 7) (es.getD i (0, 0, 0)))
theorem Ent7.below {R : World → Value → Rat → Prop} (hR : ∀ w w' v q, R w v q → Below w.heap.size w w' → R w' v q) {w w' : World} {b o : Nat} {e : Ent} (h : Ent7 R w b o e) (hb : Below w.heap.size w w') (hl : b < w.heap.size) : Ent7 R w' b o e := by
 obtain ⟨x, y, h0, h1, h2, h3, h4, h5, h6, h7, h8⟩ := h
 have c : ∀ j v, w.cell? ⟨b, j, none⟩ = some v → w'.cell? ⟨b, j, none⟩ = some v := fun j v h => (hb.cell (p := ⟨b, j, none⟩) hl).trans h
 exact ⟨x, y, c _ _ h0, c _ _ h1, c _ _ h2, c _ _ h3, c _ _ h4, c _ _ h5, c _ _ h6, hR _ _ _ _ h7 hb, hR _ _ _ _ h8 hb⟩
theorem TabOf.below {R : World → Value → Rat → Prop} (hR : ∀ w w' v q, R w v q → Below w.heap.size w w' → R w' v q) {w w' : World} {v : Value} {es : List Ent} (h : TabOf R w v es) (hb : Below w.heap.size w w') : TabOf R w' v es := by
 obtain ⟨ao, cap, rfl, h⟩ := h
 refine ⟨ao, cap, rfl, fun hl => ?_⟩
 obtain ⟨b, off, rfl, hlt, h⟩ := h hl
 exact ⟨b, off, rfl, Nat.lt_of_lt_of_le hlt hb.size, fun i hi => (h i hi).below hR hb hlt⟩
def EntRow (R : World → Value → Rat → Prop) (w : World) (xs : List Value) (es : List Ent) : Prop :=
 xs.length = es.length * 7 ∧ ∀ j, j < es.length → ∃ x y : R3, xs[j * 7]? = some (.int .i64 (es.getD j (0, 0, 0)).1) ∧ xs[j * 7 + 1]? = some (.bool x.b) ∧ xs[j * 7 + 2]? = some (.slice x.a x.n x.c) ∧ xs[j * 7 + 3]? = some (.slice x.d x.m x.e) ∧ xs[j * 7 + 4]? = some (.bool y.b) ∧ xs[j * 7 + 5]? = some (.slice y.a y.n y.c) ∧ xs[j * 7 + 6]? = some (.slice y.d y.m y.e) ∧ R w x.val (es.getD j (0, 0, 0)).2.1 ∧ R w y.val (es.getD j (0, 0, 0)).2.2
theorem EntRow.mono {R : World → Value → Rat → Prop} {w w' : World} {xs : List Value} {es : List Ent} (h : EntRow R w xs es) (hr : ∀ v q, R w v q → R w' v q) : EntRow R w' xs es :=
 ⟨h.1, fun j hj => by obtain ⟨x, y, h0, h1, h2, h3, h4, h5, h6, h7, h8⟩ := h.2 j hj; exact ⟨x, y, h0, h1, h2, h3, h4, h5, h6, hr _ _ h7, hr _ _ h8⟩⟩
theorem EntRow.nil (R : World → Value → Rat → Prop) (w : World) : EntRow R w [] [] := ⟨rfl, fun j hj => absurd hj (by simp)⟩
theorem EntRow.snoc {R : World → Value → Rat → Prop} {w : World} {xs : List Value} {es : List Ent} (h : EntRow R w xs es) {f : Int} {x y : R3} {lo hi : Rat} (h1 : R w x.val lo) (h2 : R w y.val hi) :
  EntRow R w (xs ++ [.int .i64 f, .bool x.b, .slice x.a x.n x.c, .slice x.d x.m x.e, .bool y.b, .slice y.a y.n y.c, .slice y.d y.m y.e]) (es ++ [(f, lo, hi)]) := by
 obtain ⟨hl, h⟩ := h
 refine ⟨by simp [hl]; omega, fun j hj => ?_⟩
 rcases Nat.lt_or_ge j es.length with hj1 | hj1
 ·
  obtain ⟨x', y', g0, g1, g2, g3, g4, g5, g6, g7, g8⟩ := h j hj1
  have e : ∀ k, k < 7 → (xs ++ [.int .i64 f, .bool x.b, .slice x.a x.n x.c, .slice x.d x.m x.e, .bool y.b, .slice y.a y.n y.c, .slice y.d y.m y.e])[j * 7 + k]? = xs[j * 7 + k]? := fun k hk => List.getElem?_append_left (by omega)
  have e2 : (es ++ [(f, lo, hi)]).getD j (0, 0, 0) = es.getD j (0, 0, 0) := by simp [List.getD, List.getElem?_append_left hj1]
  rw [e2]
  exact ⟨x', y', by rw [← g0]; exact e 0 (by omega), by rw [← g1]; exact e 1 (by omega), by rw [← g2]; exact e 2 (by omega), by rw [← g3]; exact e 3 (by omega), by rw [← g4]; exact e 4 (by omega), by rw [← g5]; exact e 5 (by omega), by rw [← g6]; exact e 6 (by omega), g7, g8⟩
 ·
  obtain rfl : j = es.length := by simp at hj; omega
  have e : ∀ k, (xs ++ [.int .i64 f, .bool x.b, .slice x.a x.n x.c, .slice x.d x.m x.e, .bool y.b, .slice y.a y.n y.c, .slice y.d y.m y.e])[es.length * 7 + k]? = ([.int .i64 f, .bool x.b, .slice x.a x.n x.c, .slice x.d x.m x.e, .bool y.b, .slice y.a y.n y.c, .slice y.d y.m y.e] : List Value)[k]? := fun k => by rw [List.getElem?_append_right (by omega), hl]; congr 1; omega
  have e2 : (es ++ [(f, lo, hi)]).getD es.length (0, 0, 0) = (f, lo, hi) := by simp [List.getD]
  rw [e2]
  exact ⟨x, y, e 0, e 1, e 2, e 3, e 4, e 5, e 6, h1, h2⟩
theorem TabOf.ofRow {R : World → Value → Rat → Prop} {w : World} {base : Nat} {e : TypeId} {v : Value} {xs : List Value} {es : List Ent} (h : LRow w base e 7 v es.length xs) (ht : EntRow R w xs es) : TabOf R w v es := by
 rcases Nat.eq_zero_or_pos es.length with h0 | hp
 ·
  rcases h.1.2 with ⟨rfl, _⟩ | ⟨g, cap, cur, rfl, _⟩
  ·
   exact ⟨none, 0, by rw [h0], fun h => absurd h (by omega)⟩
  ·
   exact ⟨_, _, rfl, fun h => absurd h (by omega)⟩
 ·
  obtain ⟨g, cap, rfl⟩ := ownsRow_some h.1 hp
  have hc : ∀ j u, xs[j]? = some u → w.cell? ((⟨g, 0, none⟩ : Addr).add j) = some u := h.1.cells (g := g) rfl
  have hlt : g < w.heap.size := (h.lt rfl).1
  refine ⟨_, _, rfl, fun _ => ⟨g, 0, rfl, hlt, fun i hi => ?_⟩⟩
  obtain ⟨x, y, h0, h1, h2, h3, h4, h5, h6, h7, h8⟩ := ht.2 i hi
  have ea : ∀ j, (⟨g, 0, none⟩ : Addr).add j = ⟨g, 0 + j, none⟩ := fun j => by unfold Addr.add; split <;> simp_all
  have ec : ∀ k u, xs[i * 7 + k]? = some u → w.cell? ⟨g, 0 + i * 7 + k, none⟩ = some u := fun k u h => by rw [show 0 + i * 7 + k = 0 + (i * 7 + k) by omega, ← ea]; exact hc _ _ h
  exact ⟨x, y, ec 0 _ h0, ec 1 _ h1, ec 2 _ h2, ec 3 _ h3, ec 4 _ h4, ec 5 _ h5, ec 6 _ h6, h7, h8⟩
abbrev RawE := Int × (Int × Int) × (Int × Int)
def RawAt (w : World) (b o : Nat) (r : RawE) : Prop :=
 w.cell? ⟨b, o, none⟩ = some (.int .i64 r.1) ∧ w.cell? ⟨b, o + 1, none⟩ = some (.int .i64 r.2.1.1) ∧ w.cell? ⟨b, o + 2, none⟩ = some (.int .i64 r.2.1.2) ∧ w.cell? ⟨b, o + 3, none⟩ = some (.int .i64 r.2.2.1) ∧ w.cell? ⟨b, o + 4, none⟩ = some (.int .i64 r.2.2.2)
def RawsOf (w : World) (v : Value) (rs : List RawE) : Prop :=
 ∃ ao cap, v = .slice ao rs.length cap ∧ (0 < rs.length → ∃ b off, ao = some ⟨b, off, none⟩ ∧ b < w.heap.size ∧ ∀ i, i < rs.length → RawAt w b (off + i * 5) (rs.getD i (0, (0, 0), (0, 0))))
theorem RawAt.below {w w' : World} {b o : Nat} {r : RawE} {n : Nat} (h : RawAt w b o r) (hb : Below n w w') (hl : b < n) : RawAt w' b o r := by
 obtain ⟨h0, h1, h2, h3, h4⟩ := h
 have c : ∀ j v, w.cell? ⟨b, j, none⟩ = some v → w'.cell? ⟨b, j, none⟩ = some v := fun j v h => (hb.cell (p := ⟨b, j, none⟩) hl).trans h
 exact ⟨c _ _ h0, c _ _ h1, c _ _ h2, c _ _ h3, c _ _ h4⟩
theorem RawsOf.below {w w' : World} {v : Value} {rs : List RawE} (h : RawsOf w v rs) (hb : Below w.heap.size w w') : RawsOf w' v rs := by
 obtain ⟨ao, cap, rfl, h⟩ := h
 refine ⟨ao, cap, rfl, fun hl => ?_⟩
 obtain ⟨b, off, rfl, hlt, h⟩ := h hl
 exact ⟨b, off, rfl, Nat.lt_of_lt_of_le hlt hb.size, fun i hi => (h i hi).below hb hlt⟩
def hiE (r : RawE) : Rat := hiQ (fracQ r.2.1.1 r.2.1.2) (fracQ r.2.2.1 r.2.2.2)
end Go.Proofs.YtakempimcbofgaaGreat

namespace Go.Proofs.YtakempimcbofgaaGreat
open Go.RowKit

theorem hi22 (a b c d : Rat) : bestUp gtB (fun i => [a, b, c, d].getD i 0) 3 = hiQ (hiQ a b) (hiQ c d) := by
 unfold bestUp bestUp bestUp bestUp hiQ gtB cmpR
 simp only [List.getD, List.getElem?_cons_succ, List.getElem?_cons_zero, Option.getD_some]
 grind
theorem hi2 (a b : Rat) : bestUp gtB (fun i => [a, b].getD i 0) 1 = hiQ a b := by
 unfold bestUp bestUp hiQ gtB cmpR
 simp only [List.getD, List.getElem?_cons_succ, List.getElem?_cons_zero, Option.getD_some]
 grind
end Go.Proofs.YtakempimcbofgaaGreat

namespace Go.Proofs.YtakempimcbofgaaGreat
open Go.RowKit

theorem Sx.to {w0 w W : World} {bs cs : List Bx} {fs : List Fx} (h : Sx w0 w bs fs) (e : w = W) (eb : bs = cs) : Sx w0 W cs fs := by subst e; subst eb; exact h
theorem nbs : (∀ {α : Type} {xs : List α} {i : Nat} (h : i < xs.toArray.size), xs.toArray[i] = xs[i]) ∧ (∀ {α : Type} (a : α) (l : List α) (h : 0 < (a :: l).length), (a :: l)[0] = a) ∧ (∀ {α : Type} (a : α) (l : List α) (i : Nat) (h : i + 1 < (a :: l).length), (a :: l)[i + 1] = l[i]'(by simpa using h)) ∧ (∀ {α : Type} (l : List α) (i : Nat) (a : α), l.toArray.setIfInBounds i a = (l.set i a).toArray) ∧ (∀ {α : Type} {x : α} {xs : List α} {a : α}, (x :: xs).set 0 a = a :: xs) ∧ ∀ {α : Type} {x : α} {xs : List α} {i : Nat} {a : α}, (x :: xs).set (i + 1) a = x :: xs.set i a :=
 ⟨nb1, nb2, nb3, nb4, nb5, nb6⟩
section
variable {P : Program} {ops : Array Oper} {Q : Exit → Act → World → Prop} {md : Region.Mode} {S : World → Prop}
theorem tkB {i : Nat} {oi : Oper} {v : Value} {fuel : Nat} {listed : Array Bool} {a : Act} {w : World} (hi : ops[i]? = some oi) (hy : ∀ w, S w → (execOp a.eval oi).run P w = .ok (.value v) w)
  (h : wpAnyH P md ops Q S fuel (listed.setIfInBounds i true) (a.put oi.dst v) w) (hS : S w := by assumption) (hw : Region.wanted oi (yielded ops a.tmps) = true := by first | rfl | kernel_rfl) (hs : Region.noSelect ops = true := by kernel_rfl) (hf : Region.free md ops listed i = true := by kernel_rfl)
  (hr : (Region.ready md ops listed).contains i = true := by kernel_rfl) (hQ : ∀ c a w, Q (.panic c) (a.put oi.dst v) w → Q (.panic c) a w := by exact fun _ _ _ h => h) : wpAnyH P md ops Q S (fuel + 1) listed a w :=
 tkA hi (Or.inl ⟨hw, hy⟩) hS h hs hf hr hQ
end
theorem FrcAt.r3 {w : World} {b o : Nat} {q : Rat} (h : FrcAt IsRat w b o q) : ∃ x : R3, w.cell? ⟨b, o, none⟩ = some (.bool x.b) ∧ w.cell? ⟨b, o + 1, none⟩ = some (.slice x.a x.n x.c) ∧ w.cell? ⟨b, o + 2, none⟩ = some (.slice x.d x.m x.e) ∧ IsRat w x.val q := by
 obtain ⟨v0, vn, vd, h0, h1, h2, h3⟩ := h
 obtain ⟨x, hx⟩ := h3.open3
 injection hx with hx
 injection hx with hx
 simp only [List.cons.injEq, and_true] at hx
 obtain ⟨rfl, rfl, rfl⟩ := hx
 exact ⟨x, h0, h1, h2, h3⟩
end Go.Proofs.YtakempimcbofgaaGreat

namespace Go.Proofs.YtakempimcbofgaaGreat
open Go.RowKit

set_option maxRecDepth 100000 in
set_option maxHeartbeats 4000000 in
theorem rnum_any (n : Int) (w : World) (h1 : -9223372036854775808 ≤ n) (h2 : n ≤ 9223372036854775807) : Calls Tryz.prog 25 #[.int .i64 n] w (RetR (n : Rat) w) := by
 have HS := Lib.hid (Sx.init w)
 have hwn : IntKind.i64.wrap n = n := IntWalk.i64_in _ (by omega)
 go_enter Tryz.func25, Tryz.ntmps25
 go_wp2_with fail
 generalize hW1 : (w).alloc (.cells _ _) = W1 at *
 replace HS := Lib.hid (((HS.out).alloc (B := w.heap.size) rfl (by rfl)).to hW1 (by (try simp only [nb5, nb6]); rfl))
 clear hW1
 refine (qint_any n _ h1 h2).mono ?_
 rintro e w2 ⟨v2, rfl, hv2, hb2⟩
 obtain ⟨z2, rfl⟩ := hv2.open3
 replace HS := Lib.hid (HS.out.below hb2)
 clear hb2
 replace HS := Lib.hid (HS.out.addQ hv2)
 clear hv2
 have b0e := (HS.out.at 0 _ _ _ rfl)
 have b0c0 := blk_cell b0e 0 (.bool false) rfl
 have b0c1 := blk_cell b0e 1 (.slice none 0 0) rfl
 have b0c2 := blk_cell b0e 2 (.slice none 0 0) rfl
 have b0f0 := blk_frozen b0e 0
 have b0f1 := blk_frozen b0e 1
 have b0f2 := blk_frozen b0e 2
 have b0l := blk_lt b0e
 clear b0e
 go_wp2_with fail
 clear b0c0 b0c1 b0c2 b0f0 b0f1 b0f2 b0l
 generalize hW3 : (((w2).setCell _ _).setCell _ _).setCell _ _ = W3 at *
 replace HS := Lib.hid (((HS.out).st_R 0 r30 z2 rfl).to hW3 (by (try simp only [nb5, nb6]); rfl))
 clear hW3
 obtain ⟨b0c0, b0c1, b0c2, _⟩ := fac3 (x := z2) (HS.out.at 0 _ _ _ rfl)
 refine bodyPost_ret (v := z2.val) (by simp [results, Tryz.results25, go_sem, b0c0, b0c1, b0c2]) rfl ⟨_, rfl, (HS.out.q 0 _ _ rfl), HS.out.bel⟩
set_option maxRecDepth 100000 in
set_option maxHeartbeats 4000000 in
theorem rright_any (a : Pt) (w : World) : Calls Tryz.prog 23 #[.agg #[.int .i64 a.1, .int .i64 a.2]] w (RetBool (ptOk a) w) := by
 have HS := Lib.hid (Sx.init w)
 obtain ⟨au, av⟩ := a
 have HR : Hid (ptOk (au, av) = (inL au (-4398046511104) 4398046511104 && inL av (-4398046511104) 4398046511104)) := rfl
 dsimp only
 go_enter Tryz.func23, Tryz.ntmps23
 go_wp2_with fail
 generalize hW1 : (w).alloc (.cells _ _) = W1 at *
 replace HS := Lib.hid (((HS.out).alloc (B := w.heap.size) rfl (by rfl)).to hW1 (by (try simp only [nb5, nb6]); rfl))
 clear hW1
 cases t2 : inL au (-4398046511104) 4398046511104 with
 | true =>
  refine (rwithin_any au 4398046511104 _ (by omega)).mono ?_
  rw [t2]
  rintro e w3 ⟨rfl, hb3⟩
  replace HS := Lib.hid (HS.out.below hb3)
  clear hb3
  have b0e := (HS.out.at 0 _ _ _ rfl)
  have b0c0 := blk_cell b0e 0 (.int .i64 au) rfl
  have b0c1 := blk_cell b0e 1 (.int .i64 av) rfl
  have b0f0 := blk_frozen b0e 0
  have b0f1 := blk_frozen b0e 1
  have b0l := blk_lt b0e
  clear b0e
  go_wp2_with fail
  clear b0c0 b0c1 b0f0 b0f1 b0l
  cases t4 : inL av (-4398046511104) 4398046511104 with
  | true =>
   refine (rwithin_any av 4398046511104 _ (by omega)).mono ?_
   rw [t4]
   rintro e w5 ⟨rfl, hb5⟩
   replace HS := Lib.hid (HS.out.below hb5)
   clear hb5
   go_wp2_with fail
   go_ret
   exact ⟨by rw [HR.out, t2, t4] <;> rfl, HS.out.bel⟩
  | false =>
   refine (rwithin_any av 4398046511104 _ (by omega)).mono ?_
   rw [t4]
   rintro e w6 ⟨rfl, hb6⟩
   replace HS := Lib.hid (HS.out.below hb6)
   clear hb6
   go_wp2_with fail
   go_ret
   exact ⟨by rw [HR.out, t2, t4] <;> rfl, HS.out.bel⟩
 | false =>
  refine (rwithin_any au 4398046511104 _ (by omega)).mono ?_
  rw [t2]
  rintro e w7 ⟨rfl, hb7⟩
  replace HS := Lib.hid (HS.out.below hb7)
  clear hb7
  go_wp2_with fail
  go_ret
  exact ⟨by rw [HR.out, t2] <;> rfl, HS.out.bel⟩
theorem qint0_any' (w : World) : Calls Tryz.prog 22 #[.int .i64 0] w (RetR 0 w) := qint_any 0 w (by omega) (by omega)
theorem qzeroR_any (q : Rat) (v : Value) (w : World) (h : IsR w v q) : Calls Tryz.prog 46 #[v] w (RetBool (decide (q.num.natAbs = 0)) w) := by
 obtain ⟨d', a1, c1, a2, c2, rfl, _⟩ := h.opened
 exact qzero_any _ _ _ _ _ _ _ _
end Go.Proofs.YtakempimcbofgaaGreat

namespace Go.Proofs.YtakempimcbofgaaGreat
open Go.RowKit

theorem uno_szR : szR (1 : Rat) 1 := i64_szR 1 (by omega) (by omega) 1 (by omega)
theorem nul_szR : szR (0 : Rat) 1 := i64_szR 0 (by omega) (by omega) 1 (by omega)
theorem qint1_any (w : World) : Calls Tryz.prog 22 #[.int .i64 1] w (RetR 1 w) := qint_any 1 w (by omega) (by omega)
theorem info_R : (Tryz.prog.info? 37).map (fun i => (i.zero, i.size, i.bytes)) = some (some (.agg #[.bool false, .slice none 0 0, .slice none 0 0]), 3, 56) := by kernel_rfl
theorem info_Rs : (Tryz.prog.info? 56).map (fun i => (i.zero, i.size, i.bytes)) = some (some (.slice none 0 0), 1, 24) := by kernel_rfl
theorem made_block {w w' : World} {e : TypeId} {size n : Nat} {g : Nat} {xs : List Value} {cs : Array Value} (h : w'.ownsRow w.heap.size e size (.slice (some ⟨g, 0, none⟩) n n) n xs) (hc : cs.toList = xs) : w'.heap[g]? = some (.cells cs e (0, 0)) := by
 rcases h.2 with ⟨h1, _⟩ | ⟨g1, cap', cur, hq, hb, hh, h2, h3, h4, h5⟩
 ·
  cases h1
 ·
  injection hq with hq1 hq2 hq3
  injection hq1 with hq1
  injection hq1 with hq1
  subst hq1
  subst hq3
  have e3 : cur = cs := by
   apply Array.ext'
   rw [hc, ← h5, List.take_of_length_le (by simp; omega)]
  rw [hh, e3]
theorem Sx.made {w0 w w' : World} {bs : List Bx} {fs : List Fx} (h : Sx w0 w bs fs) {e : TypeId} {size n : Nat} {xs : List Value} {cs : Array Value} (hr : w'.ownsRow w.heap.size e size (.slice (some ⟨w.heap.size, 0, none⟩) n n) n xs) (hg : w.grownBy w' none) (hc : cs.toList = xs) (hp : cs.toList.all plainV = true) : Sx w0 w' ((w.heap.size, cs, e) :: bs) fs := by
 have hb : Below w.heap.size w w' := (Below.refl w.heap.size w).grown hg (Nat.le_refl _) (by simp)
 exact (h.below hb).addBox (made_block hr hc) h.bel.size hp (fun b hb2 => by have := h.lt b hb2; omega)

def MatAt (w : World) (v : Value) (q0 q1 q2 q3 : Rat) : Prop := ∃ (B B1 B2 T T1 T2 : Nat) (x0 x1 x2 x3 : R3), v = .slice (some ⟨B, 0, none⟩) 2 2 ∧
 w.heap[B]? = some (.cells #[.slice (some ⟨B1, 0, none⟩) 2 2, .slice (some ⟨B2, 0, none⟩) 2 2] T (0, 0)) ∧ w.heap[B1]? = some (.cells (arr6 x0 x1) T1 (0, 0)) ∧ w.heap[B2]? = some (.cells (arr6 x2 x3) T2 (0, 0)) ∧
 IsR w x0.val q0 ∧ IsR w x1.val q1 ∧ IsR w x2.val q2 ∧ IsR w x3.val q3
theorem MatAt.below {w w' : World} {v : Value} {q0 q1 q2 q3 : Rat} (h : MatAt w v q0 q1 q2 q3) (hb : Below w.heap.size w w') : MatAt w' v q0 q1 q2 q3 := by
 obtain ⟨B, B1, B2, T, T1, T2, x0, x1, x2, x3, rfl, h0, h1, h2, f0, f1, f2, f3⟩ := h
 exact ⟨B, B1, B2, T, T1, T2, x0, x1, x2, x3, rfl, blk_keep h0 hb (blk_lt h0), blk_keep h1 hb (blk_lt h1), blk_keep h2 hb (blk_lt h2), f0.below hb, f1.below hb, f2.below hb, f3.below hb⟩
theorem MatAt.new {w : World} {B1 B2 T1 T2 : Nat} {x0 x1 x2 x3 : R3} {q0 q1 q2 q3 : Rat} (T : Nat) (h1 : w.heap[B1]? = some (.cells (arr6 x0 x1) T1 (0, 0))) (h2 : w.heap[B2]? = some (.cells (arr6 x2 x3) T2 (0, 0)))
  (f0 : IsR w x0.val q0) (f1 : IsR w x1.val q1) (f2 : IsR w x2.val q2) (f3 : IsR w x3.val q3) : MatAt (w.alloc (.cells #[.slice (some ⟨B1, 0, none⟩) 2 2, .slice (some ⟨B2, 0, none⟩) 2 2] T)) (.slice (some ⟨w.heap.size, 0, none⟩) 2 2) q0 q1 q2 q3 := by
 have hb := (Below.refl w.heap.size w).alloc (Nat.le_refl _) (.cells #[.slice (some ⟨B1, 0, none⟩) 2 2, .slice (some ⟨B2, 0, none⟩) 2 2] T)
 exact ⟨_, B1, B2, T, T1, T2, x0, x1, x2, x3, rfl, blk_new _ _ _, blk_keep h1 hb (blk_lt h1), blk_keep h2 hb (blk_lt h2), f0.below hb, f1.below hb, f2.below hb, f3.below hb⟩
theorem MatAt.of {w : World} {B B1 B2 T T1 T2 : Nat} {x0 x1 x2 x3 : R3} {q0 q1 q2 q3 : Rat} (h0 : w.heap[B]? = some (.cells #[.slice (some ⟨B1, 0, none⟩) 2 2, .slice (some ⟨B2, 0, none⟩) 2 2] T (0, 0)))
  (h1 : w.heap[B1]? = some (.cells (arr6 x0 x1) T1 (0, 0))) (h2 : w.heap[B2]? = some (.cells (arr6 x2 x3) T2 (0, 0))) (f0 : IsR w x0.val q0) (f1 : IsR w x1.val q1) (f2 : IsR w x2.val q2) (f3 : IsR w x3.val q3) : MatAt w (.slice (some ⟨B, 0, none⟩) 2 2) q0 q1 q2 q3 :=
 ⟨B, B1, B2, T, T1, T2, x0, x1, x2, x3, rfl, h0, h1, h2, f0, f1, f2, f3⟩
theorem Sx.addZ {w0 w : World} {bs : List Bx} {fs : List Fx} (h : Sx w0 w bs fs) {n B B1 B2 T T1 T2 : Nat} {cs cs1 cs2 : Array Value} (hl : ∀ b, b ∈ bs → b.1 < n) (h0 : w0.heap.size ≤ n) (g : n ≤ B) (g1 : n ≤ B1) (g2 : n ≤ B2) (n1 : B ≠ B1) (n2 : B ≠ B2) (n3 : B1 ≠ B2)
  (k : w.heap[B]? = some (.cells cs T (0, 0))) (k1 : w.heap[B1]? = some (.cells cs1 T1 (0, 0))) (k2 : w.heap[B2]? = some (.cells cs2 T2 (0, 0))) (p : cs.toList.all plainV = true) (p1 : cs1.toList.all plainV = true) (p2 : cs2.toList.all plainV = true) :
  Sx w0 w ((B2, cs2, T2) :: (B1, cs1, T1) :: (B, cs, T) :: bs) fs := by
 have a := h.addBox k (by omega) p (fun b hb => by have := hl b hb; omega)
 have b := a.addBox k1 (by omega) p1 (fun b hb => by
  rcases List.mem_cons.1 hb with e | e
  ·
   rw [e]; exact n1
  ·
   have := hl b e; omega)
 exact b.addBox k2 (by omega) p2 (fun b hb => by
  rcases List.mem_cons.1 hb with e | e
  ·
   rw [e]; exact n3
  ·
   rcases List.mem_cons.1 e with e | e
   ·
    rw [e]; exact n2
   ·
    have := hl b e; omega)
theorem det_sz {a b c d : Rat} {k : Nat} (ha : szR a k) (hb : szR b k) (hc : szR c k) (hd : szR d k) : szR (det2 a b c d) (k + k + (k + k) + 1) := szR_sub (szR_mul ha hd) (szR_mul hc hb)
def RowAt (b : Nat) (w : World) (v : Value) (q0 q1 : Rat) : Prop := ∃ (B : Nat) (x0 x1 : R3), v = .slice (some ⟨B, 0, none⟩) 2 2 ∧ b ≤ B ∧ w.heap[B]? = some (.cells (arr6 x0 x1) 37 (0, 0)) ∧ IsR w x0.val q0 ∧ IsR w x1.val q1
theorem RowAt.below {b : Nat} {w w' : World} {v : Value} {q0 q1 : Rat} (h : RowAt b w v q0 q1) (hb : Below w.heap.size w w') : RowAt b w' v q0 q1 := by
 obtain ⟨B, x0, x1, rfl, h0, h1, f0, f1⟩ := h
 exact ⟨B, x0, x1, rfl, h0, blk_keep h1 hb (blk_lt h1), f0.below hb, f1.below hb⟩
theorem RowAt.mono {b c : Nat} {w : World} {v : Value} {q0 q1 : Rat} (h : RowAt b w v q0 q1) (hc : c ≤ b) : RowAt c w v q0 q1 := by
 obtain ⟨B, x0, x1, rfl, h0, h1, f0, f1⟩ := h
 exact ⟨B, x0, x1, rfl, Nat.le_trans hc h0, h1, f0, f1⟩
def RetZ (w : World) (e : Ending) (w' : World) : Prop := ∃ (B B1 B2 : Nat) (x0 x1 x2 x3 : R3), e = .returned (.slice (some ⟨B, 0, none⟩) 2 2) ∧ w.heap.size ≤ B ∧ w.heap.size ≤ B1 ∧ w.heap.size ≤ B2 ∧ B ≠ B1 ∧ B ≠ B2 ∧ B1 ≠ B2 ∧
 w'.heap[B]? = some (.cells #[.slice (some ⟨B1, 0, none⟩) 2 2, .slice (some ⟨B2, 0, none⟩) 2 2] 56 (0, 0)) ∧ w'.heap[B1]? = some (.cells #[.bool x0.b, .slice x0.a x0.n x0.c, .slice x0.d x0.m x0.e, .bool x1.b, .slice x1.a x1.n x1.c, .slice x1.d x1.m x1.e] 37 (0, 0)) ∧
 w'.heap[B2]? = some (.cells #[.bool x2.b, .slice x2.a x2.n x2.c, .slice x2.d x2.m x2.e, .bool x3.b, .slice x3.a x3.n x3.c, .slice x3.d x3.m x3.e] 37 (0, 0)) ∧ Below w.heap.size w w'
def RetSol (q0 q1 : Rat) (w : World) (e : Ending) (w' : World) : Prop := ∃ v, e = .returned (.tuple #[v, .int .i64 0]) ∧ RowAt w.heap.size w' v q0 q1 ∧ Below w.heap.size w w'

end Go.Proofs.YtakempimcbofgaaGreat

namespace Go.Proofs.YtakempimcbofgaaGreat
open Go.RowKit

theorem Sx.st_LL_0_1 {w0 w : World} {bs : List Bx} {fs : List Fx} (h : Sx w0 w bs fs) (i : Nat) (o0a : Option Addr) (o0n o0c : Nat) (o1a : Option Addr) (o1n o1c : Nat) (n0a : Option Addr) (n0n n0c : Nat) {B T : Nat} (hi : bs[i]? = some (B, #[.slice o0a o0n o0c, .slice o1a o1n o1c], T)) :
  Sx w0 ((w).setCell ⟨B, 0, none⟩ (.slice n0a n0n n0c)) (bs.set i (B, #[.slice n0a n0n n0c, .slice o1a o1n o1c], T)) fs := by
 have hl := (List.getElem?_eq_some_iff.1 hi).1
 have g := (h).set i hi 0 (v := .slice n0a n0n n0c) rfl
 simpa using g
theorem Sx.st_RR_0_1 {w0 w : World} {bs : List Bx} {fs : List Fx} (h : Sx w0 w bs fs) (i : Nat) (o0 : R3) (o1 : R3) (n0 : R3) {B T : Nat} (hi : bs[i]? = some (B, #[.bool o0.b, .slice o0.a o0.n o0.c, .slice o0.d o0.m o0.e, .bool o1.b, .slice o1.a o1.n o1.c, .slice o1.d o1.m o1.e], T)) :
  Sx w0 ((((w).setCell ⟨B, 0, none⟩ (.bool n0.b)).setCell ⟨B, 1, none⟩ (.slice n0.a n0.n n0.c)).setCell ⟨B, 2, none⟩ (.slice n0.d n0.m n0.e)) (bs.set i (B, #[.bool n0.b, .slice n0.a n0.n n0.c, .slice n0.d n0.m n0.e, .bool o1.b, .slice o1.a o1.n o1.c, .slice o1.d o1.m o1.e], T)) fs := by
 have hl := (List.getElem?_eq_some_iff.1 hi).1
 have g := (((h).set i hi 0 (v := .bool n0.b) rfl).set i (by rw [List.getElem?_set, if_pos rfl, if_pos (by simpa using hl)]) 1 (v := .slice n0.a n0.n n0.c) rfl).set i (by rw [List.getElem?_set, if_pos rfl, if_pos (by simpa using hl)]) 2 (v := .slice n0.d n0.m n0.e) rfl
 simpa using g
theorem Sx.st_RR_1_1 {w0 w : World} {bs : List Bx} {fs : List Fx} (h : Sx w0 w bs fs) (i : Nat) (o0 : R3) (o1 : R3) (n1 : R3) {B T : Nat} (hi : bs[i]? = some (B, #[.bool o0.b, .slice o0.a o0.n o0.c, .slice o0.d o0.m o0.e, .bool o1.b, .slice o1.a o1.n o1.c, .slice o1.d o1.m o1.e], T)) :
  Sx w0 ((((w).setCell ⟨B, 3, none⟩ (.bool n1.b)).setCell ⟨B, 4, none⟩ (.slice n1.a n1.n n1.c)).setCell ⟨B, 5, none⟩ (.slice n1.d n1.m n1.e)) (bs.set i (B, #[.bool o0.b, .slice o0.a o0.n o0.c, .slice o0.d o0.m o0.e, .bool n1.b, .slice n1.a n1.n n1.c, .slice n1.d n1.m n1.e], T)) fs := by
 have hl := (List.getElem?_eq_some_iff.1 hi).1
 have g := (((h).set i hi 3 (v := .bool n1.b) rfl).set i (by rw [List.getElem?_set, if_pos rfl, if_pos (by simpa using hl)]) 4 (v := .slice n1.a n1.n n1.c) rfl).set i (by rw [List.getElem?_set, if_pos rfl, if_pos (by simpa using hl)]) 5 (v := .slice n1.d n1.m n1.e) rfl
 simpa using g
theorem Sx.st_LL_1_1 {w0 w : World} {bs : List Bx} {fs : List Fx} (h : Sx w0 w bs fs) (i : Nat) (o0a : Option Addr) (o0n o0c : Nat) (o1a : Option Addr) (o1n o1c : Nat) (n1a : Option Addr) (n1n n1c : Nat) {B T : Nat} (hi : bs[i]? = some (B, #[.slice o0a o0n o0c, .slice o1a o1n o1c], T)) :
  Sx w0 ((w).setCell ⟨B, 1, none⟩ (.slice n1a n1n n1c)) (bs.set i (B, #[.slice o0a o0n o0c, .slice n1a n1n n1c], T)) fs := by
 have hl := (List.getElem?_eq_some_iff.1 hi).1
 have g := (h).set i hi 1 (v := .slice n1a n1n n1c) rfl
 simpa using g
theorem Sx.st_RRRR_0_1 {w0 w : World} {bs : List Bx} {fs : List Fx} (h : Sx w0 w bs fs) (i : Nat) (o0 : R3) (o1 : R3) (o2 : R3) (o3 : R3) (n0 : R3) {B T : Nat} (hi : bs[i]? = some (B, #[.bool o0.b, .slice o0.a o0.n o0.c, .slice o0.d o0.m o0.e, .bool o1.b, .slice o1.a o1.n o1.c, .slice o1.d o1.m o1.e, .bool o2.b, .slice o2.a o2.n o2.c, .slice o2.d o2.m o2.e, .bool o3.b, .slice o3.a o3.n o3.c, .slice o3.d o3.m o3.e], T)) :
  Sx w0 ((((w).setCell ⟨B, 0, none⟩ (.bool n0.b)).setCell ⟨B, 1, none⟩ (.slice n0.a n0.n n0.c)).setCell ⟨B, 2, none⟩ (.slice n0.d n0.m n0.e)) (bs.set i (B, #[.bool n0.b, .slice n0.a n0.n n0.c, .slice n0.d n0.m n0.e, .bool o1.b, .slice o1.a o1.n o1.c, .slice o1.d o1.m o1.e, .bool o2.b, .slice o2.a o2.n o2.c, .slice o2.d o2.m o2.e, .bool o3.b, .slice o3.a o3.n o3.c, .slice o3.d o3.m o3.e], T)) fs := by
 have hl := (List.getElem?_eq_some_iff.1 hi).1
 have g := (((h).set i hi 0 (v := .bool n0.b) rfl).set i (by rw [List.getElem?_set, if_pos rfl, if_pos (by simpa using hl)]) 1 (v := .slice n0.a n0.n n0.c) rfl).set i (by rw [List.getElem?_set, if_pos rfl, if_pos (by simpa using hl)]) 2 (v := .slice n0.d n0.m n0.e) rfl
 simpa using g
theorem Sx.st_RRRR_1_1 {w0 w : World} {bs : List Bx} {fs : List Fx} (h : Sx w0 w bs fs) (i : Nat) (o0 : R3) (o1 : R3) (o2 : R3) (o3 : R3) (n1 : R3) {B T : Nat} (hi : bs[i]? = some (B, #[.bool o0.b, .slice o0.a o0.n o0.c, .slice o0.d o0.m o0.e, .bool o1.b, .slice o1.a o1.n o1.c, .slice o1.d o1.m o1.e, .bool o2.b, .slice o2.a o2.n o2.c, .slice o2.d o2.m o2.e, .bool o3.b, .slice o3.a o3.n o3.c, .slice o3.d o3.m o3.e], T)) :
  Sx w0 ((((w).setCell ⟨B, 3, none⟩ (.bool n1.b)).setCell ⟨B, 4, none⟩ (.slice n1.a n1.n n1.c)).setCell ⟨B, 5, none⟩ (.slice n1.d n1.m n1.e)) (bs.set i (B, #[.bool o0.b, .slice o0.a o0.n o0.c, .slice o0.d o0.m o0.e, .bool n1.b, .slice n1.a n1.n n1.c, .slice n1.d n1.m n1.e, .bool o2.b, .slice o2.a o2.n o2.c, .slice o2.d o2.m o2.e, .bool o3.b, .slice o3.a o3.n o3.c, .slice o3.d o3.m o3.e], T)) fs := by
 have hl := (List.getElem?_eq_some_iff.1 hi).1
 have g := (((h).set i hi 3 (v := .bool n1.b) rfl).set i (by rw [List.getElem?_set, if_pos rfl, if_pos (by simpa using hl)]) 4 (v := .slice n1.a n1.n n1.c) rfl).set i (by rw [List.getElem?_set, if_pos rfl, if_pos (by simpa using hl)]) 5 (v := .slice n1.d n1.m n1.e) rfl
 simpa using g
theorem Sx.st_RRRR_2_1 {w0 w : World} {bs : List Bx} {fs : List Fx} (h : Sx w0 w bs fs) (i : Nat) (o0 : R3) (o1 : R3) (o2 : R3) (o3 : R3) (n2 : R3) {B T : Nat} (hi : bs[i]? = some (B, #[.bool o0.b, .slice o0.a o0.n o0.c, .slice o0.d o0.m o0.e, .bool o1.b, .slice o1.a o1.n o1.c, .slice o1.d o1.m o1.e, .bool o2.b, .slice o2.a o2.n o2.c, .slice o2.d o2.m o2.e, .bool o3.b, .slice o3.a o3.n o3.c, .slice o3.d o3.m o3.e], T)) :
  Sx w0 ((((w).setCell ⟨B, 6, none⟩ (.bool n2.b)).setCell ⟨B, 7, none⟩ (.slice n2.a n2.n n2.c)).setCell ⟨B, 8, none⟩ (.slice n2.d n2.m n2.e)) (bs.set i (B, #[.bool o0.b, .slice o0.a o0.n o0.c, .slice o0.d o0.m o0.e, .bool o1.b, .slice o1.a o1.n o1.c, .slice o1.d o1.m o1.e, .bool n2.b, .slice n2.a n2.n n2.c, .slice n2.d n2.m n2.e, .bool o3.b, .slice o3.a o3.n o3.c, .slice o3.d o3.m o3.e], T)) fs := by
 have hl := (List.getElem?_eq_some_iff.1 hi).1
 have g := (((h).set i hi 6 (v := .bool n2.b) rfl).set i (by rw [List.getElem?_set, if_pos rfl, if_pos (by simpa using hl)]) 7 (v := .slice n2.a n2.n n2.c) rfl).set i (by rw [List.getElem?_set, if_pos rfl, if_pos (by simpa using hl)]) 8 (v := .slice n2.d n2.m n2.e) rfl
 simpa using g
theorem Sx.st_RRRR_3_1 {w0 w : World} {bs : List Bx} {fs : List Fx} (h : Sx w0 w bs fs) (i : Nat) (o0 : R3) (o1 : R3) (o2 : R3) (o3 : R3) (n3 : R3) {B T : Nat} (hi : bs[i]? = some (B, #[.bool o0.b, .slice o0.a o0.n o0.c, .slice o0.d o0.m o0.e, .bool o1.b, .slice o1.a o1.n o1.c, .slice o1.d o1.m o1.e, .bool o2.b, .slice o2.a o2.n o2.c, .slice o2.d o2.m o2.e, .bool o3.b, .slice o3.a o3.n o3.c, .slice o3.d o3.m o3.e], T)) :
  Sx w0 ((((w).setCell ⟨B, 9, none⟩ (.bool n3.b)).setCell ⟨B, 10, none⟩ (.slice n3.a n3.n n3.c)).setCell ⟨B, 11, none⟩ (.slice n3.d n3.m n3.e)) (bs.set i (B, #[.bool o0.b, .slice o0.a o0.n o0.c, .slice o0.d o0.m o0.e, .bool o1.b, .slice o1.a o1.n o1.c, .slice o1.d o1.m o1.e, .bool o2.b, .slice o2.a o2.n o2.c, .slice o2.d o2.m o2.e, .bool n3.b, .slice n3.a n3.n n3.c, .slice n3.d n3.m n3.e], T)) fs := by
 have hl := (List.getElem?_eq_some_iff.1 hi).1
 have g := (((h).set i hi 9 (v := .bool n3.b) rfl).set i (by rw [List.getElem?_set, if_pos rfl, if_pos (by simpa using hl)]) 10 (v := .slice n3.a n3.n n3.c) rfl).set i (by rw [List.getElem?_set, if_pos rfl, if_pos (by simpa using hl)]) 11 (v := .slice n3.d n3.m n3.e) rfl
 simpa using g
set_option maxRecDepth 100000 in
set_option maxHeartbeats 8000000 in
theorem zeros_any (w : World) : Calls Tryz.prog 47 #[.int .i64 2, .int .i64 2] w (RetZ w) := by
 have HS := Lib.hid (Sx.init w)
 go_enter Tryz.func47, Tryz.ntmps47
 go_upto_region 1 with fail
 obtain ⟨ii1, hi1, hz1, hs1, hy1⟩ := info_parts info_Rs
 go_wp2_with (at_make; refine wpList_make_full _ rfl _ _ 60 rfl w.heap.size 56 ii1 _ 1 Tryz.underlying60 hi1 hz1 hs1 _ _ _ _ 2 rfl rfl (by rfl) (by rfl) (by rw [hy1]; omega) (by unfold maxLen; omega) (Nat.le_refl _) ?_)
 intro wm1 hown1 hgr1
 replace HS := Lib.hid (HS.out.made (cs := #[.slice none 0 0, .slice none 0 0]) hown1 hgr1 (by kernel_rfl) (by rfl))
 clear hown1 hgr1 hi1 hz1 hs1 hy1
 go_wp2_with fail
 refine wp_loop_rounds 9 ?_
 rw [rounds_succ]
 go_upto_region 5 with fail
 obtain ⟨ii2, hi2, hz2, hs2, hy2⟩ := info_parts info_R
 go_wp2_with (at_make; refine wpList_make_full _ rfl _ _ 56 rfl wm1.heap.size 37 ii2 _ 3 Tryz.underlying56 hi2 hz2 hs2 _ _ _ _ 2 rfl rfl (by rfl) (by rfl) (by rw [hy2]; omega) (by unfold maxLen; omega) (Nat.le_refl _) ?_)
 intro wm2 hown2 hgr2
 replace HS := Lib.hid (HS.out.made (cs := #[.bool false, .slice none 0 0, .slice none 0 0, .bool false, .slice none 0 0, .slice none 0 0]) hown2 hgr2 (by kernel_rfl) (by rfl))
 clear hown2 hgr2 hi2 hz2 hs2 hy2
 have b0e := (HS.out.at 1 _ _ _ rfl)
 have b0c0 := blk_cell b0e 0 (.slice none 0 0) rfl
 have b0c1 := blk_cell b0e 1 (.slice none 0 0) rfl
 have b0f0 := blk_frozen b0e 0
 have b0f1 := blk_frozen b0e 1
 have b0l := blk_lt b0e
 clear b0e
 go_wp2_with fail
 clear b0c0 b0c1 b0f0 b0f1 b0l
 generalize hW3 : (wm2).setCell _ _ = W3 at *
 replace HS := Lib.hid (((HS.out).st_LL_0_1 1 none 0 0 none 0 0 (some ⟨wm1.heap.size, 0, none⟩) 2 2 rfl).to hW3 (by (try simp only [nb5, nb6]); rfl))
 clear hW3
 refine wp_loop_rounds 9 ?_
 rw [rounds_succ]
 go_wp2_with fail
 refine wp_region_held_drew (S := (fun w' => Sx w w' [(w.heap.size, #[.slice (some ⟨wm1.heap.size, 0, none⟩) 2 2, .slice none 0 0], 56)] [])) (by kernel_rfl) ((HS.out.drew).erase 0) (fun hh => ?_)
 replace HS := Lib.hid HS.out.drew
 refine tkB (i := 0) (v := ?vk5) rfl ?hk5 ?rk5
 case hk5 => intro u hSu; go_simp <;> with_reducible rfl
 try simp only [nbs, Act.put]
 refine tkB (i := 1) (v := ?vk6) rfl ?hk6 ?rk6
 case hk6 => intro u hSu; go_simp <;> with_reducible rfl
 try simp only [nbs, Act.put]
 refine tkB (i := 2) (v := ?vk7) rfl ?hk7 ?rk7
 case hk7 => intro u hSu; go_simp <;> with_reducible rfl
 try simp only [nbs, Act.put]
 refine tkB (i := 3) (v := ?vk8) rfl ?hk8 ?rk8
 case hk8 => intro u hSu; (try dsimp only at hSu); have qb0e := (hSu.at 0 _ _ _ rfl); have qb0c0 := blk_cell qb0e 0 (.slice (some ⟨wm1.heap.size, 0, none⟩) 2 2) rfl; have qb0c1 := blk_cell qb0e 1 (.slice none 0 0) rfl; clear qb0e; clear hSu; go_simp <;> with_reducible rfl
 try simp only [nbs, Act.put]
 refine tkB (i := 4) (v := ?vk9) rfl ?hk9 ?rk9
 case hk9 => intro u hSu; go_simp <;> with_reducible rfl
 try simp only [nbs, Act.put]
 refine rdA (i := 5) rfl (fun K hK => ?_)
 go_simp
 go_wp2_with (go_at_call 22; (with_reducible refine (qint0_any' _).mono ?_); rintro e w10 ⟨v10, rfl, hv10, hb10⟩; obtain ⟨z10, rfl⟩ := hv10.open3)
 refine hK.out _ _ (Sx.below hh hb10) (fun hh => ?_)
 clear hK K
 try simp only [nbs, Act.put]
 replace HS := Lib.hid (HS.out.below hb10)
 clear hb10
 replace HS := Lib.hid (HS.out.addQ hv10)
 clear hv10
 refine tkB (i := 6) (v := ?vk11) rfl ?hk11 ?rk11
 case hk11 => intro u hSu; go_simp <;> with_reducible rfl
 try simp only [nbs, Act.put]
 refine rdA (i := 7) rfl (fun K hK => ?_)
 have b1e := (HS.out.at 0 _ _ _ rfl)
 have b1c0 := blk_cell b1e 0 (.bool false) rfl
 have b1c1 := blk_cell b1e 1 (.slice none 0 0) rfl
 have b1c2 := blk_cell b1e 2 (.slice none 0 0) rfl
 have b1c3 := blk_cell b1e 3 (.bool false) rfl
 have b1c4 := blk_cell b1e 4 (.slice none 0 0) rfl
 have b1c5 := blk_cell b1e 5 (.slice none 0 0) rfl
 have b1f0 := blk_frozen b1e 0
 have b1f1 := blk_frozen b1e 1
 have b1f2 := blk_frozen b1e 2
 have b1f3 := blk_frozen b1e 3
 have b1f4 := blk_frozen b1e 4
 have b1f5 := blk_frozen b1e 5
 have b1l := blk_lt b1e
 clear b1e
 go_simp
 refine hK.out _ _ ((((HS.out).st_RR_0_1 0 r30 r30 z10 rfl)).erase 0) (fun hh => ?_)
 clear hK K b1c0 b1c1 b1c2 b1c3 b1c4 b1c5 b1f0 b1f1 b1f2 b1f3 b1f4 b1f5 b1l
 try simp only [nbs, Act.put]
 generalize hW12 : (((w10).setCell _ _).setCell _ _).setCell _ _ = W12 at *
 replace HS := Lib.hid (((HS.out).st_RR_0_1 0 r30 r30 z10 rfl).to hW12 (by (try simp only [nb5, nb6]); rfl))
 clear hW12
 refine wpAnyH_done (by kernel_rfl) ?_ _
 go_wp2_with fail
 rw [rounds_succ]
 go_wp2_with fail
 refine wp_region_held_drew (S := (fun w' => Sx w w' [(w.heap.size, #[.slice (some ⟨wm1.heap.size, 0, none⟩) 2 2, .slice none 0 0], 56)] [])) (by kernel_rfl) ((HS.out.drew).erase 0) (fun hh => ?_)
 replace HS := Lib.hid HS.out.drew
 refine tkB (i := 0) (v := ?vk14) rfl ?hk14 ?rk14
 case hk14 => intro u hSu; go_simp <;> with_reducible rfl
 try simp only [nbs, Act.put]
 refine tkB (i := 1) (v := ?vk15) rfl ?hk15 ?rk15
 case hk15 => intro u hSu; go_simp <;> with_reducible rfl
 try simp only [nbs, Act.put]
 refine tkB (i := 2) (v := ?vk16) rfl ?hk16 ?rk16
 case hk16 => intro u hSu; go_simp <;> with_reducible rfl
 try simp only [nbs, Act.put]
 refine tkB (i := 3) (v := ?vk17) rfl ?hk17 ?rk17
 case hk17 => intro u hSu; (try dsimp only at hSu); have qb0e := (hSu.at 0 _ _ _ rfl); have qb0c0 := blk_cell qb0e 0 (.slice (some ⟨wm1.heap.size, 0, none⟩) 2 2) rfl; have qb0c1 := blk_cell qb0e 1 (.slice none 0 0) rfl; clear qb0e; clear hSu; go_simp <;> with_reducible rfl
 try simp only [nbs, Act.put]
 refine tkB (i := 4) (v := ?vk18) rfl ?hk18 ?rk18
 case hk18 => intro u hSu; go_simp <;> with_reducible rfl
 try simp only [nbs, Act.put]
 refine rdA (i := 5) rfl (fun K hK => ?_)
 go_simp
 go_wp2_with (go_at_call 22; (with_reducible refine (qint0_any' _).mono ?_); rintro e w19 ⟨v19, rfl, hv19, hb19⟩; obtain ⟨z19, rfl⟩ := hv19.open3)
 refine hK.out _ _ (Sx.below hh hb19) (fun hh => ?_)
 clear hK K
 try simp only [nbs, Act.put]
 replace HS := Lib.hid (HS.out.below hb19)
 clear hb19
 replace HS := Lib.hid (HS.out.addQ hv19)
 clear hv19
 refine tkB (i := 6) (v := ?vk20) rfl ?hk20 ?rk20
 case hk20 => intro u hSu; go_simp <;> with_reducible rfl
 try simp only [nbs, Act.put]
 refine rdA (i := 7) rfl (fun K hK => ?_)
 have b1e := (HS.out.at 0 _ _ _ rfl)
 have b1c0 := blk_cell b1e 0 (.bool z10.b) rfl
 have b1c1 := blk_cell b1e 1 (.slice z10.a z10.n z10.c) rfl
 have b1c2 := blk_cell b1e 2 (.slice z10.d z10.m z10.e) rfl
 have b1c3 := blk_cell b1e 3 (.bool false) rfl
 have b1c4 := blk_cell b1e 4 (.slice none 0 0) rfl
 have b1c5 := blk_cell b1e 5 (.slice none 0 0) rfl
 have b1f0 := blk_frozen b1e 0
 have b1f1 := blk_frozen b1e 1
 have b1f2 := blk_frozen b1e 2
 have b1f3 := blk_frozen b1e 3
 have b1f4 := blk_frozen b1e 4
 have b1f5 := blk_frozen b1e 5
 have b1l := blk_lt b1e
 clear b1e
 go_simp
 refine hK.out _ _ ((((HS.out).st_RR_1_1 0 z10 r30 z19 rfl)).erase 0) (fun hh => ?_)
 clear hK K b1c0 b1c1 b1c2 b1c3 b1c4 b1c5 b1f0 b1f1 b1f2 b1f3 b1f4 b1f5 b1l
 try simp only [nbs, Act.put]
 generalize hW21 : (((w19).setCell _ _).setCell _ _).setCell _ _ = W21 at *
 replace HS := Lib.hid (((HS.out).st_RR_1_1 0 z10 r30 z19 rfl).to hW21 (by (try simp only [nb5, nb6]); rfl))
 clear hW21
 refine wpAnyH_done (by kernel_rfl) ?_ _
 go_wp2_with fail
 rw [rounds_succ]
 go_wp2_with fail
 rw [rounds_succ]
 go_upto_region 5 with fail
 obtain ⟨ii22, hi22, hz22, hs22, hy22⟩ := info_parts info_R
 go_wp2_with (at_make; refine wpList_make_full _ rfl _ _ 56 rfl W21.heap.size 37 ii22 _ 3 Tryz.underlying56 hi22 hz22 hs22 _ _ _ _ 2 rfl rfl (by rfl) (by rfl) (by rw [hy22]; omega) (by unfold maxLen; omega) (Nat.le_refl _) ?_)
 intro wm22 hown22 hgr22
 replace HS := Lib.hid (HS.out.made (cs := #[.bool false, .slice none 0 0, .slice none 0 0, .bool false, .slice none 0 0, .slice none 0 0]) hown22 hgr22 (by kernel_rfl) (by rfl))
 clear hown22 hgr22 hi22 hz22 hs22 hy22
 have b0e := (HS.out.at 2 _ _ _ rfl)
 have b0c0 := blk_cell b0e 0 (.slice (some ⟨wm1.heap.size, 0, none⟩) 2 2) rfl
 have b0c1 := blk_cell b0e 1 (.slice none 0 0) rfl
 have b0f0 := blk_frozen b0e 0
 have b0f1 := blk_frozen b0e 1
 have b0l := blk_lt b0e
 clear b0e
 go_wp2_with fail
 clear b0c0 b0c1 b0f0 b0f1 b0l
 generalize hW23 : (wm22).setCell _ _ = W23 at *
 replace HS := Lib.hid (((HS.out).st_LL_1_1 2 (some ⟨wm1.heap.size, 0, none⟩) 2 2 none 0 0 (some ⟨W21.heap.size, 0, none⟩) 2 2 rfl).to hW23 (by (try simp only [nb5, nb6]); rfl))
 clear hW23
 refine wp_loop_rounds 9 ?_
 rw [rounds_succ]
 go_wp2_with fail
 refine wp_region_held_drew (S := (fun w' => Sx w w' [(wm1.heap.size, arr6 z10 z19, 37), (w.heap.size, #[.slice (some ⟨wm1.heap.size, 0, none⟩) 2 2, .slice (some ⟨W21.heap.size, 0, none⟩) 2 2], 56)] [])) (by kernel_rfl) ((HS.out.drew).erase 0) (fun hh => ?_)
 replace HS := Lib.hid HS.out.drew
 refine tkB (i := 0) (v := ?vk25) rfl ?hk25 ?rk25
 case hk25 => intro u hSu; go_simp <;> with_reducible rfl
 try simp only [nbs, Act.put]
 refine tkB (i := 1) (v := ?vk26) rfl ?hk26 ?rk26
 case hk26 => intro u hSu; go_simp <;> with_reducible rfl
 try simp only [nbs, Act.put]
 refine tkB (i := 2) (v := ?vk27) rfl ?hk27 ?rk27
 case hk27 => intro u hSu; go_simp <;> with_reducible rfl
 try simp only [nbs, Act.put]
 refine tkB (i := 3) (v := ?vk28) rfl ?hk28 ?rk28
 case hk28 => intro u hSu; (try dsimp only at hSu); have qb0e := (hSu.at 1 _ _ _ rfl); have qb0c0 := blk_cell qb0e 0 (.slice (some ⟨wm1.heap.size, 0, none⟩) 2 2) rfl; have qb0c1 := blk_cell qb0e 1 (.slice (some ⟨W21.heap.size, 0, none⟩) 2 2) rfl; clear qb0e; clear hSu; go_simp <;> with_reducible rfl
 try simp only [nbs, Act.put]
 refine tkB (i := 4) (v := ?vk29) rfl ?hk29 ?rk29
 case hk29 => intro u hSu; go_simp <;> with_reducible rfl
 try simp only [nbs, Act.put]
 refine rdA (i := 5) rfl (fun K hK => ?_)
 go_simp
 go_wp2_with (go_at_call 22; (with_reducible refine (qint0_any' _).mono ?_); rintro e w30 ⟨v30, rfl, hv30, hb30⟩; obtain ⟨z30, rfl⟩ := hv30.open3)
 refine hK.out _ _ (Sx.below hh hb30) (fun hh => ?_)
 clear hK K
 try simp only [nbs, Act.put]
 replace HS := Lib.hid (HS.out.below hb30)
 clear hb30
 replace HS := Lib.hid (HS.out.addQ hv30)
 clear hv30
 refine tkB (i := 6) (v := ?vk31) rfl ?hk31 ?rk31
 case hk31 => intro u hSu; go_simp <;> with_reducible rfl
 try simp only [nbs, Act.put]
 refine rdA (i := 7) rfl (fun K hK => ?_)
 have b2e := (HS.out.at 0 _ _ _ rfl)
 have b2c0 := blk_cell b2e 0 (.bool false) rfl
 have b2c1 := blk_cell b2e 1 (.slice none 0 0) rfl
 have b2c2 := blk_cell b2e 2 (.slice none 0 0) rfl
 have b2c3 := blk_cell b2e 3 (.bool false) rfl
 have b2c4 := blk_cell b2e 4 (.slice none 0 0) rfl
 have b2c5 := blk_cell b2e 5 (.slice none 0 0) rfl
 have b2f0 := blk_frozen b2e 0
 have b2f1 := blk_frozen b2e 1
 have b2f2 := blk_frozen b2e 2
 have b2f3 := blk_frozen b2e 3
 have b2f4 := blk_frozen b2e 4
 have b2f5 := blk_frozen b2e 5
 have b2l := blk_lt b2e
 clear b2e
 go_simp
 refine hK.out _ _ ((((HS.out).st_RR_0_1 0 r30 r30 z30 rfl)).erase 0) (fun hh => ?_)
 clear hK K b2c0 b2c1 b2c2 b2c3 b2c4 b2c5 b2f0 b2f1 b2f2 b2f3 b2f4 b2f5 b2l
 try simp only [nbs, Act.put]
 generalize hW32 : (((w30).setCell _ _).setCell _ _).setCell _ _ = W32 at *
 replace HS := Lib.hid (((HS.out).st_RR_0_1 0 r30 r30 z30 rfl).to hW32 (by (try simp only [nb5, nb6]); rfl))
 clear hW32
 refine wpAnyH_done (by kernel_rfl) ?_ _
 go_wp2_with fail
 rw [rounds_succ]
 go_wp2_with fail
 refine wp_region_held_drew (S := (fun w' => Sx w w' [(wm1.heap.size, arr6 z10 z19, 37), (w.heap.size, #[.slice (some ⟨wm1.heap.size, 0, none⟩) 2 2, .slice (some ⟨W21.heap.size, 0, none⟩) 2 2], 56)] [])) (by kernel_rfl) ((HS.out.drew).erase 0) (fun hh => ?_)
 replace HS := Lib.hid HS.out.drew
 refine tkB (i := 0) (v := ?vk34) rfl ?hk34 ?rk34
 case hk34 => intro u hSu; go_simp <;> with_reducible rfl
 try simp only [nbs, Act.put]
 refine tkB (i := 1) (v := ?vk35) rfl ?hk35 ?rk35
 case hk35 => intro u hSu; go_simp <;> with_reducible rfl
 try simp only [nbs, Act.put]
 refine tkB (i := 2) (v := ?vk36) rfl ?hk36 ?rk36
 case hk36 => intro u hSu; go_simp <;> with_reducible rfl
 try simp only [nbs, Act.put]
 refine tkB (i := 3) (v := ?vk37) rfl ?hk37 ?rk37
 case hk37 => intro u hSu; (try dsimp only at hSu); have qb0e := (hSu.at 1 _ _ _ rfl); have qb0c0 := blk_cell qb0e 0 (.slice (some ⟨wm1.heap.size, 0, none⟩) 2 2) rfl; have qb0c1 := blk_cell qb0e 1 (.slice (some ⟨W21.heap.size, 0, none⟩) 2 2) rfl; clear qb0e; clear hSu; go_simp <;> with_reducible rfl
 try simp only [nbs, Act.put]
 refine tkB (i := 4) (v := ?vk38) rfl ?hk38 ?rk38
 case hk38 => intro u hSu; go_simp <;> with_reducible rfl
 try simp only [nbs, Act.put]
 refine rdA (i := 5) rfl (fun K hK => ?_)
 go_simp
 go_wp2_with (go_at_call 22; (with_reducible refine (qint0_any' _).mono ?_); rintro e w39 ⟨v39, rfl, hv39, hb39⟩; obtain ⟨z39, rfl⟩ := hv39.open3)
 refine hK.out _ _ (Sx.below hh hb39) (fun hh => ?_)
 clear hK K
 try simp only [nbs, Act.put]
 replace HS := Lib.hid (HS.out.below hb39)
 clear hb39
 replace HS := Lib.hid (HS.out.addQ hv39)
 clear hv39
 refine tkB (i := 6) (v := ?vk40) rfl ?hk40 ?rk40
 case hk40 => intro u hSu; go_simp <;> with_reducible rfl
 try simp only [nbs, Act.put]
 refine rdA (i := 7) rfl (fun K hK => ?_)
 have b2e := (HS.out.at 0 _ _ _ rfl)
 have b2c0 := blk_cell b2e 0 (.bool z30.b) rfl
 have b2c1 := blk_cell b2e 1 (.slice z30.a z30.n z30.c) rfl
 have b2c2 := blk_cell b2e 2 (.slice z30.d z30.m z30.e) rfl
 have b2c3 := blk_cell b2e 3 (.bool false) rfl
 have b2c4 := blk_cell b2e 4 (.slice none 0 0) rfl
 have b2c5 := blk_cell b2e 5 (.slice none 0 0) rfl
 have b2f0 := blk_frozen b2e 0
 have b2f1 := blk_frozen b2e 1
 have b2f2 := blk_frozen b2e 2
 have b2f3 := blk_frozen b2e 3
 have b2f4 := blk_frozen b2e 4
 have b2f5 := blk_frozen b2e 5
 have b2l := blk_lt b2e
 clear b2e
 go_simp
 refine hK.out _ _ ((((HS.out).st_RR_1_1 0 z30 r30 z39 rfl)).erase 0) (fun hh => ?_)
 clear hK K b2c0 b2c1 b2c2 b2c3 b2c4 b2c5 b2f0 b2f1 b2f2 b2f3 b2f4 b2f5 b2l
 try simp only [nbs, Act.put]
 generalize hW41 : (((w39).setCell _ _).setCell _ _).setCell _ _ = W41 at *
 replace HS := Lib.hid (((HS.out).st_RR_1_1 0 z30 r30 z39 rfl).to hW41 (by (try simp only [nb5, nb6]); rfl))
 clear hW41
 refine wpAnyH_done (by kernel_rfl) ?_ _
 go_wp2_with fail
 rw [rounds_succ]
 go_wp2_with fail
 rw [rounds_succ]
 go_wp2_with fail
 go_ret
 exact ⟨_, _, _, z10, z19, z30, z39, rfl, (HS.out.ge 2 _ _ _ rfl), (HS.out.ge 1 _ _ _ rfl), (HS.out.ge 0 _ _ _ rfl), (HS.out.ne 2 1 rfl rfl (by decide)), (HS.out.ne 2 0 rfl rfl (by decide)), (HS.out.ne 1 0 rfl rfl (by decide)), (HS.out.at 2 _ _ _ rfl), (HS.out.at 1 _ _ _ rfl), (HS.out.at 0 _ _ _ rfl), HS.out.bel⟩
set_option maxRecDepth 100000 in
set_option maxHeartbeats 8000000 in
theorem wrong2_any (q0 q1 q2 q3 : Rat) (v : Value) (w : World) (hm : MatAt w v q0 q1 q2 q3) : Calls Tryz.prog 68 #[v] w (RetInt 0 w) := by
 obtain ⟨MB, MB1, MB2, MT, MT1, MT2, m0, m1, m2, m3, rfl, hM0, hM1, hM2, f0, f1, f2, f3⟩ := hm
 have HS := Lib.hid (((((Sx.init w).addQ f0).addQ f1).addQ f2).addQ f3)
 have MO0 := Lib.hid (blk_cell hM0 0 (.slice (some ⟨MB1, 0, none⟩) 2 2) rfl)
 have MO1 := Lib.hid (blk_cell hM0 1 (.slice (some ⟨MB2, 0, none⟩) 2 2) rfl)
 have MOL := Lib.hid (blk_lt hM0)
 have MR00 := Lib.hid (blk_cell hM1 0 (.bool m0.b) rfl)
 have MR01 := Lib.hid (blk_cell hM1 1 (.slice m0.a m0.n m0.c) rfl)
 have MR02 := Lib.hid (blk_cell hM1 2 (.slice m0.d m0.m m0.e) rfl)
 have MR03 := Lib.hid (blk_cell hM1 3 (.bool m1.b) rfl)
 have MR04 := Lib.hid (blk_cell hM1 4 (.slice m1.a m1.n m1.c) rfl)
 have MR05 := Lib.hid (blk_cell hM1 5 (.slice m1.d m1.m m1.e) rfl)
 have MRL0 := Lib.hid (blk_lt hM1)
 have MR10 := Lib.hid (blk_cell hM2 0 (.bool m2.b) rfl)
 have MR11 := Lib.hid (blk_cell hM2 1 (.slice m2.a m2.n m2.c) rfl)
 have MR12 := Lib.hid (blk_cell hM2 2 (.slice m2.d m2.m m2.e) rfl)
 have MR13 := Lib.hid (blk_cell hM2 3 (.bool m3.b) rfl)
 have MR14 := Lib.hid (blk_cell hM2 4 (.slice m3.a m3.n m3.c) rfl)
 have MR15 := Lib.hid (blk_cell hM2 5 (.slice m3.d m3.m m3.e) rfl)
 have MRL1 := Lib.hid (blk_lt hM2)
 clear f0 f1 f2 f3 hM0 hM1 hM2
 go_enter Tryz.func68, Tryz.ntmps68
 go_wp2_with fail
 refine wp_loop_rounds 9 ?_
 rw [rounds_succ]
 go_wp2_with fail
 refine wp_region_held_drew (S := (fun w' => Sx w w' [] [])) (by kernel_rfl) ((HS.out.drew).bare) (fun hh => ?_)
 replace HS := Lib.hid HS.out.drew
 refine tkB (i := 0) (v := ?vk2) rfl ?hk2 ?rk2
 case hk2 => intro u hSu; go_simp <;> with_reducible rfl
 try simp only [nbs, Act.put]
 refine tkB (i := 1) (v := ?vk3) rfl ?hk3 ?rk3
 case hk3 => intro u hSu; go_simp <;> with_reducible rfl
 try simp only [nbs, Act.put]
 refine tkB (i := 2) (v := ?vk4) rfl ?hk4 ?rk4
 case hk4 => intro u hSu; go_simp <;> with_reducible rfl
 try simp only [nbs, Act.put]
 refine tkB (i := 3) (v := ?vk5) rfl ?hk5 ?rk5
 case hk5 => intro u hSu; (try dsimp only at hSu); have MOc0 := (hSu.bel.cell (p := ⟨MB, 0, none⟩) MOL.out).trans MO0.out; clear hSu; go_simp <;> with_reducible rfl
 try simp only [nbs, Act.put]
 refine tkB (i := 4) (v := ?vk6) rfl ?hk6 ?rk6
 case hk6 => intro u hSu; go_simp <;> with_reducible rfl
 try simp only [nbs, Act.put]
 refine tkB (i := 5) (v := ?vk7) rfl ?hk7 ?rk7
 case hk7 => intro u hSu; go_simp <;> with_reducible rfl
 try simp only [nbs, Act.put]
 refine tkB (i := 6) (v := ?vk8) rfl ?hk8 ?rk8
 case hk8 => intro u hSu; go_simp <;> with_reducible rfl
 try simp only [nbs, Act.put]
 refine tkB (i := 7) (v := ?vk9) rfl ?hk9 ?rk9
 case hk9 => intro u hSu; go_simp <;> with_reducible rfl
 try simp only [nbs, Act.put]
 refine tkB (i := 8) (v := ?vk10) rfl ?hk10 ?rk10
 case hk10 => intro u hSu; go_simp <;> with_reducible rfl
 try simp only [nbs, Act.put]
 refine tkB (i := 9) (v := ?vk11) rfl ?hk11 ?rk11
 case hk11 => intro u hSu; go_simp <;> with_reducible rfl
 try simp only [nbs, Act.put]
 refine tkB (i := 10) (v := ?vk12) rfl ?hk12 ?rk12
 case hk12 => intro u hSu; (try dsimp only at hSu); have MOc0 := (hSu.bel.cell (p := ⟨MB, 0, none⟩) MOL.out).trans MO0.out; clear hSu; go_simp <;> with_reducible rfl
 try simp only [nbs, Act.put]
 refine tkB (i := 11) (v := ?vk13) rfl ?hk13 ?rk13
 case hk13 => intro u hSu; go_simp <;> with_reducible rfl
 try simp only [nbs, Act.put]
 refine tkB (i := 12) (v := ?vk14) rfl ?hk14 ?rk14
 case hk14 => intro u hSu; go_simp <;> with_reducible rfl
 try simp only [nbs, Act.put]
 refine tkB (i := 13) (v := ?vk15) rfl ?hk15 ?rk15
 case hk15 => intro u hSu; go_simp <;> with_reducible rfl
 try simp only [nbs, Act.put]
 refine tkB (i := 14) (v := ?vk16) rfl ?hk16 ?rk16
 case hk16 => intro u hSu; go_simp <;> with_reducible rfl
 try simp only [nbs, Act.put]
 refine tkB (i := 15) (v := ?vk17) rfl ?hk17 ?rk17
 case hk17 => intro u hSu; go_simp <;> with_reducible rfl
 try simp only [nbs, Act.put]
 refine tkB (i := 16) (v := ?vk18) rfl ?hk18 ?rk18
 case hk18 => intro u hSu; go_simp <;> with_reducible rfl
 try simp only [nbs, Act.put]
 refine tkB (i := 17) (v := ?vk19) rfl ?hk19 ?rk19
 case hk19 => intro u hSu; go_simp <;> with_reducible rfl
 try simp only [nbs, Act.put]
 refine tkB (i := 18) (v := ?vk20) rfl ?hk20 ?rk20
 case hk20 => intro u hSu; (try dsimp only at hSu); have MOc0 := (hSu.bel.cell (p := ⟨MB, 0, none⟩) MOL.out).trans MO0.out; clear hSu; go_simp <;> with_reducible rfl
 try simp only [nbs, Act.put]
 refine tkB (i := 19) (v := ?vk21) rfl ?hk21 ?rk21
 case hk21 => intro u hSu; go_simp <;> with_reducible rfl
 try simp only [nbs, Act.put]
 refine tkB (i := 20) (v := ?vk22) rfl ?hk22 ?rk22
 case hk22 => intro u hSu; go_simp <;> with_reducible rfl
 try simp only [nbs, Act.put]
 refine tkB (i := 21) (v := ?vk23) rfl ?hk23 ?rk23
 case hk23 => intro u hSu; go_simp <;> with_reducible rfl
 try simp only [nbs, Act.put]
 refine tkB (i := 22) (v := ?vk24) rfl ?hk24 ?rk24
 case hk24 => intro u hSu; (try dsimp only at hSu); have MOc0 := (hSu.bel.cell (p := ⟨MB, 0, none⟩) MOL.out).trans MO0.out; clear hSu; go_simp <;> with_reducible rfl
 try simp only [nbs, Act.put]
 refine tkB (i := 23) (v := ?vk25) rfl ?hk25 ?rk25
 case hk25 => intro u hSu; go_simp <;> with_reducible rfl
 try simp only [nbs, Act.put]
 refine tkB (i := 24) (v := ?vk26) rfl ?hk26 ?rk26
 case hk26 => intro u hSu; go_simp <;> with_reducible rfl
 try simp only [nbs, Act.put]
 refine tkB (i := 25) (v := ?vk27) rfl ?hk27 ?rk27
 case hk27 => intro u hSu; go_simp <;> with_reducible rfl
 try simp only [nbs, Act.put]
 refine wpAnyH_done (by kernel_rfl) ?_ _
 generalize w.drew = Wd28 at *
 go_wp2_with fail
 rw [rounds_succ]
 go_wp2_with fail
 refine wp_region_held_drew (S := (fun w' => Sx w w' [] [])) (by kernel_rfl) ((HS.out.drew).bare) (fun hh => ?_)
 replace HS := Lib.hid HS.out.drew
 refine tkB (i := 0) (v := ?vk30) rfl ?hk30 ?rk30
 case hk30 => intro u hSu; go_simp <;> with_reducible rfl
 try simp only [nbs, Act.put]
 refine tkB (i := 1) (v := ?vk31) rfl ?hk31 ?rk31
 case hk31 => intro u hSu; go_simp <;> with_reducible rfl
 try simp only [nbs, Act.put]
 refine tkB (i := 2) (v := ?vk32) rfl ?hk32 ?rk32
 case hk32 => intro u hSu; go_simp <;> with_reducible rfl
 try simp only [nbs, Act.put]
 refine tkB (i := 3) (v := ?vk33) rfl ?hk33 ?rk33
 case hk33 => intro u hSu; (try dsimp only at hSu); have MOc1 := (hSu.bel.cell (p := ⟨MB, 1, none⟩) MOL.out).trans MO1.out; clear hSu; go_simp <;> with_reducible rfl
 try simp only [nbs, Act.put]
 refine tkB (i := 4) (v := ?vk34) rfl ?hk34 ?rk34
 case hk34 => intro u hSu; go_simp <;> with_reducible rfl
 try simp only [nbs, Act.put]
 refine tkB (i := 5) (v := ?vk35) rfl ?hk35 ?rk35
 case hk35 => intro u hSu; go_simp <;> with_reducible rfl
 try simp only [nbs, Act.put]
 refine tkB (i := 6) (v := ?vk36) rfl ?hk36 ?rk36
 case hk36 => intro u hSu; go_simp <;> with_reducible rfl
 try simp only [nbs, Act.put]
 refine tkB (i := 7) (v := ?vk37) rfl ?hk37 ?rk37
 case hk37 => intro u hSu; go_simp <;> with_reducible rfl
 try simp only [nbs, Act.put]
 refine tkB (i := 8) (v := ?vk38) rfl ?hk38 ?rk38
 case hk38 => intro u hSu; go_simp <;> with_reducible rfl
 try simp only [nbs, Act.put]
 refine tkB (i := 9) (v := ?vk39) rfl ?hk39 ?rk39
 case hk39 => intro u hSu; go_simp <;> with_reducible rfl
 try simp only [nbs, Act.put]
 refine tkB (i := 10) (v := ?vk40) rfl ?hk40 ?rk40
 case hk40 => intro u hSu; (try dsimp only at hSu); have MOc1 := (hSu.bel.cell (p := ⟨MB, 1, none⟩) MOL.out).trans MO1.out; clear hSu; go_simp <;> with_reducible rfl
 try simp only [nbs, Act.put]
 refine tkB (i := 11) (v := ?vk41) rfl ?hk41 ?rk41
 case hk41 => intro u hSu; go_simp <;> with_reducible rfl
 try simp only [nbs, Act.put]
 refine tkB (i := 12) (v := ?vk42) rfl ?hk42 ?rk42
 case hk42 => intro u hSu; go_simp <;> with_reducible rfl
 try simp only [nbs, Act.put]
 refine tkB (i := 13) (v := ?vk43) rfl ?hk43 ?rk43
 case hk43 => intro u hSu; go_simp <;> with_reducible rfl
 try simp only [nbs, Act.put]
 refine tkB (i := 14) (v := ?vk44) rfl ?hk44 ?rk44
 case hk44 => intro u hSu; go_simp <;> with_reducible rfl
 try simp only [nbs, Act.put]
 refine tkB (i := 15) (v := ?vk45) rfl ?hk45 ?rk45
 case hk45 => intro u hSu; go_simp <;> with_reducible rfl
 try simp only [nbs, Act.put]
 refine tkB (i := 16) (v := ?vk46) rfl ?hk46 ?rk46
 case hk46 => intro u hSu; go_simp <;> with_reducible rfl
 try simp only [nbs, Act.put]
 refine tkB (i := 17) (v := ?vk47) rfl ?hk47 ?rk47
 case hk47 => intro u hSu; go_simp <;> with_reducible rfl
 try simp only [nbs, Act.put]
 refine tkB (i := 18) (v := ?vk48) rfl ?hk48 ?rk48
 case hk48 => intro u hSu; (try dsimp only at hSu); have MOc1 := (hSu.bel.cell (p := ⟨MB, 1, none⟩) MOL.out).trans MO1.out; clear hSu; go_simp <;> with_reducible rfl
 try simp only [nbs, Act.put]
 refine tkB (i := 19) (v := ?vk49) rfl ?hk49 ?rk49
 case hk49 => intro u hSu; go_simp <;> with_reducible rfl
 try simp only [nbs, Act.put]
 refine tkB (i := 20) (v := ?vk50) rfl ?hk50 ?rk50
 case hk50 => intro u hSu; go_simp <;> with_reducible rfl
 try simp only [nbs, Act.put]
 refine tkB (i := 21) (v := ?vk51) rfl ?hk51 ?rk51
 case hk51 => intro u hSu; go_simp <;> with_reducible rfl
 try simp only [nbs, Act.put]
 refine tkB (i := 22) (v := ?vk52) rfl ?hk52 ?rk52
 case hk52 => intro u hSu; (try dsimp only at hSu); have MOc0 := (hSu.bel.cell (p := ⟨MB, 0, none⟩) MOL.out).trans MO0.out; clear hSu; go_simp <;> with_reducible rfl
 try simp only [nbs, Act.put]
 refine tkB (i := 23) (v := ?vk53) rfl ?hk53 ?rk53
 case hk53 => intro u hSu; go_simp <;> with_reducible rfl
 try simp only [nbs, Act.put]
 refine tkB (i := 24) (v := ?vk54) rfl ?hk54 ?rk54
 case hk54 => intro u hSu; go_simp <;> with_reducible rfl
 try simp only [nbs, Act.put]
 refine tkB (i := 25) (v := ?vk55) rfl ?hk55 ?rk55
 case hk55 => intro u hSu; go_simp <;> with_reducible rfl
 try simp only [nbs, Act.put]
 refine wpAnyH_done (by kernel_rfl) ?_ _
 generalize Wd28.drew = Wd56 at *
 go_wp2_with fail
 rw [rounds_succ]
 go_wp2_with fail
 go_ret
 exact ⟨rfl, HS.out.bel⟩
set_option maxRecDepth 100000 in
set_option maxHeartbeats 8000000 in
theorem wrongSq_any (q0 q1 q2 q3 : Rat) (v : Value) (w : World) (hm : MatAt w v q0 q1 q2 q3) : Calls Tryz.prog 44 #[v] w (RetInt 0 w) := by
 have HM := Lib.hid hm
 obtain ⟨MB, MB1, MB2, MT, MT1, MT2, m0, m1, m2, m3, rfl, hM0, hM1, hM2, f0, f1, f2, f3⟩ := hm
 have HS := Lib.hid (((((Sx.init w).addQ f0).addQ f1).addQ f2).addQ f3)
 have MO0 := Lib.hid (blk_cell hM0 0 (.slice (some ⟨MB1, 0, none⟩) 2 2) rfl)
 have MO1 := Lib.hid (blk_cell hM0 1 (.slice (some ⟨MB2, 0, none⟩) 2 2) rfl)
 have MOL := Lib.hid (blk_lt hM0)
 have MR00 := Lib.hid (blk_cell hM1 0 (.bool m0.b) rfl)
 have MR01 := Lib.hid (blk_cell hM1 1 (.slice m0.a m0.n m0.c) rfl)
 have MR02 := Lib.hid (blk_cell hM1 2 (.slice m0.d m0.m m0.e) rfl)
 have MR03 := Lib.hid (blk_cell hM1 3 (.bool m1.b) rfl)
 have MR04 := Lib.hid (blk_cell hM1 4 (.slice m1.a m1.n m1.c) rfl)
 have MR05 := Lib.hid (blk_cell hM1 5 (.slice m1.d m1.m m1.e) rfl)
 have MRL0 := Lib.hid (blk_lt hM1)
 have MR10 := Lib.hid (blk_cell hM2 0 (.bool m2.b) rfl)
 have MR11 := Lib.hid (blk_cell hM2 1 (.slice m2.a m2.n m2.c) rfl)
 have MR12 := Lib.hid (blk_cell hM2 2 (.slice m2.d m2.m m2.e) rfl)
 have MR13 := Lib.hid (blk_cell hM2 3 (.bool m3.b) rfl)
 have MR14 := Lib.hid (blk_cell hM2 4 (.slice m3.a m3.n m3.c) rfl)
 have MR15 := Lib.hid (blk_cell hM2 5 (.slice m3.d m3.m m3.e) rfl)
 have MRL1 := Lib.hid (blk_lt hM2)
 clear f0 f1 f2 f3 hM0 hM1 hM2
 go_enter Tryz.func44, Tryz.ntmps44
 go_wp2_with fail
 refine (wrong2_any q0 q1 q2 q3 _ _ (HM.out.below HS.out.bel)).mono ?_
 rintro e w1 ⟨rfl, hb1⟩
 replace HS := Lib.hid (HS.out.below hb1)
 clear hb1
 have MOc0 := (HS.out.bel.cell (p := ⟨MB, 0, none⟩) MOL.out).trans MO0.out
 go_wp2_with fail
 clear MOc0
 go_ret
 exact ⟨rfl, HS.out.bel⟩
set_option maxRecDepth 100000 in
set_option maxHeartbeats 8000000 in
theorem minors_any (q0 q1 q2 q3 : Rat) (v : Value) (w : World) (hm : MatAt w v q0 q1 q2 q3) (s0 : szR q0 1000) (s1 : szR q1 1000) (s2 : szR q2 1000) (s3 : szR q3 1000) : Calls Tryz.prog 45 #[v] w (RetR (det2 q0 q1 q2 q3) w) := by
 have Z0 := Lib.hid s0
 have Z1 := Lib.hid s1
 have Z2 := Lib.hid s2
 have Z3 := Lib.hid s3
 clear s0 s1 s2 s3
 obtain ⟨MB, MB1, MB2, MT, MT1, MT2, m0, m1, m2, m3, rfl, hM0, hM1, hM2, f0, f1, f2, f3⟩ := hm
 have HS := Lib.hid (((((Sx.init w).addQ f0).addQ f1).addQ f2).addQ f3)
 have MO0 := Lib.hid (blk_cell hM0 0 (.slice (some ⟨MB1, 0, none⟩) 2 2) rfl)
 have MO1 := Lib.hid (blk_cell hM0 1 (.slice (some ⟨MB2, 0, none⟩) 2 2) rfl)
 have MOL := Lib.hid (blk_lt hM0)
 have MR00 := Lib.hid (blk_cell hM1 0 (.bool m0.b) rfl)
 have MR01 := Lib.hid (blk_cell hM1 1 (.slice m0.a m0.n m0.c) rfl)
 have MR02 := Lib.hid (blk_cell hM1 2 (.slice m0.d m0.m m0.e) rfl)
 have MR03 := Lib.hid (blk_cell hM1 3 (.bool m1.b) rfl)
 have MR04 := Lib.hid (blk_cell hM1 4 (.slice m1.a m1.n m1.c) rfl)
 have MR05 := Lib.hid (blk_cell hM1 5 (.slice m1.d m1.m m1.e) rfl)
 have MRL0 := Lib.hid (blk_lt hM1)
 have MR10 := Lib.hid (blk_cell hM2 0 (.bool m2.b) rfl)
 have MR11 := Lib.hid (blk_cell hM2 1 (.slice m2.a m2.n m2.c) rfl)
 have MR12 := Lib.hid (blk_cell hM2 2 (.slice m2.d m2.m m2.e) rfl)
 have MR13 := Lib.hid (blk_cell hM2 3 (.bool m3.b) rfl)
 have MR14 := Lib.hid (blk_cell hM2 4 (.slice m3.a m3.n m3.c) rfl)
 have MR15 := Lib.hid (blk_cell hM2 5 (.slice m3.d m3.m m3.e) rfl)
 have MRL1 := Lib.hid (blk_lt hM2)
 clear f0 f1 f2 f3 hM0 hM1 hM2
 have hbt0 : bits BinOp.and IntKind.i64 0 1 = 0 := by kernel_rfl
 have hbt1 : bits BinOp.and IntKind.i64 1 1 = 1 := by kernel_rfl
 have hbt2 : bits BinOp.and IntKind.i64 2 1 = 0 := by kernel_rfl
 have hbt3 : bits BinOp.and IntKind.i64 3 1 = 1 := by kernel_rfl
 have hut0 : IntKind.u64.wrap 0 = 0 := by kernel_rfl
 have hut1 : IntKind.u64.wrap 1 = 1 := by kernel_rfl
 have hut2 : IntKind.u64.wrap 2 = 2 := by kernel_rfl
 have hwt0 : IntKind.i64.wrap 0 = 0 := by kernel_rfl
 have hwt1 : IntKind.i64.wrap 1 = 1 := by kernel_rfl
 have hwt2 : IntKind.i64.wrap 2 = 2 := by kernel_rfl
 have hwt3 : IntKind.i64.wrap 3 = 3 := by kernel_rfl
 have hwt4 : IntKind.i64.wrap 4 = 4 := by kernel_rfl
 have hm0 : min (Int.toNat 0) 64 = 0 := by decide
 have hm1 : min (Int.toNat 1) 64 = 1 := by decide
 go_enter Tryz.func45, Tryz.ntmps45
 go_upto_region 2 with fail
 generalize hW1 : (w).alloc (.cells _ _) = W1 at *
 replace HS := Lib.hid (((HS.out).alloc (B := w.heap.size) rfl (by rfl)).to hW1 (by (try simp only [nb5, nb6]); rfl))
 clear hW1
 obtain ⟨ii2, hi2, hz2, hs2, hy2⟩ := info_parts info_R
 go_wp2_with (at_make; refine wpList_make_full _ rfl _ _ 56 rfl W1.heap.size 37 ii2 _ 3 Tryz.underlying56 hi2 hz2 hs2 _ _ _ _ 4 rfl rfl (by rfl) (by rfl) (by rw [hy2]; omega) (by unfold maxLen; omega) (Nat.le_refl _) ?_)
 intro wm2 hown2 hgr2
 replace HS := Lib.hid (HS.out.made (cs := #[.bool false, .slice none 0 0, .slice none 0 0, .bool false, .slice none 0 0, .slice none 0 0, .bool false, .slice none 0 0, .slice none 0 0, .bool false, .slice none 0 0, .slice none 0 0]) hown2 hgr2 (by kernel_rfl) (by rfl))
 clear hown2 hgr2 hi2 hz2 hs2 hy2
 go_wp2_with fail
 refine (qint1_any _).mono ?_
 rintro e w3 ⟨v3, rfl, hv3, hb3⟩
 obtain ⟨z3, rfl⟩ := hv3.open3
 replace HS := Lib.hid (HS.out.below hb3)
 clear hb3
 replace HS := Lib.hid (HS.out.addQ hv3)
 clear hv3
 have b1e := (HS.out.at 0 _ _ _ rfl)
 have b1c0 := blk_cell b1e 0 (.bool false) rfl
 have b1c1 := blk_cell b1e 1 (.slice none 0 0) rfl
 have b1c2 := blk_cell b1e 2 (.slice none 0 0) rfl
 have b1c3 := blk_cell b1e 3 (.bool false) rfl
 have b1c4 := blk_cell b1e 4 (.slice none 0 0) rfl
 have b1c5 := blk_cell b1e 5 (.slice none 0 0) rfl
 have b1c6 := blk_cell b1e 6 (.bool false) rfl
 have b1c7 := blk_cell b1e 7 (.slice none 0 0) rfl
 have b1c8 := blk_cell b1e 8 (.slice none 0 0) rfl
 have b1c9 := blk_cell b1e 9 (.bool false) rfl
 have b1c10 := blk_cell b1e 10 (.slice none 0 0) rfl
 have b1c11 := blk_cell b1e 11 (.slice none 0 0) rfl
 have b1f0 := blk_frozen b1e 0
 have b1f1 := blk_frozen b1e 1
 have b1f2 := blk_frozen b1e 2
 have b1f3 := blk_frozen b1e 3
 have b1f4 := blk_frozen b1e 4
 have b1f5 := blk_frozen b1e 5
 have b1f6 := blk_frozen b1e 6
 have b1f7 := blk_frozen b1e 7
 have b1f8 := blk_frozen b1e 8
 have b1f9 := blk_frozen b1e 9
 have b1f10 := blk_frozen b1e 10
 have b1f11 := blk_frozen b1e 11
 have b1l := blk_lt b1e
 clear b1e
 go_wp2_with fail
 clear b1c0 b1c1 b1c2 b1c3 b1c4 b1c5 b1c6 b1c7 b1c8 b1c9 b1c10 b1c11 b1f0 b1f1 b1f2 b1f3 b1f4 b1f5 b1f6 b1f7 b1f8 b1f9 b1f10 b1f11 b1l
 generalize hW4 : (((w3).setCell _ _).setCell _ _).setCell _ _ = W4 at *
 replace HS := Lib.hid (((HS.out).st_RRRR_0_1 0 r30 r30 r30 r30 z3 rfl).to hW4 (by (try simp only [nb5, nb6]); rfl))
 clear hW4
 refine wp_loop_rounds 9 ?_
 rw [rounds_succ]
 go_wp2_with fail
 refine wp_loop_rounds 9 ?_
 rw [rounds_succ]
 go_wp2_with fail
 rw [rounds_succ]
 go_wp2_with fail
 rw [rounds_succ]
 go_wp2_with fail
 refine (qint0_any' _).mono ?_
 rintro e w5 ⟨v5, rfl, hv5, hb5⟩
 obtain ⟨z5, rfl⟩ := hv5.open3
 replace HS := Lib.hid (HS.out.below hb5)
 clear hb5
 replace HS := Lib.hid (HS.out.addQ hv5)
 clear hv5
 go_wp2_with fail
 generalize hW6 : (w5).alloc (.cells _ _) = W6 at *
 replace HS := Lib.hid (((HS.out).alloc (B := w5.heap.size) rfl (by rfl)).to hW6 (by (try simp only [nb5, nb6]); rfl))
 clear hW6
 refine wp_loop_rounds 9 ?_
 rw [rounds_succ]
 go_wp2_with fail
 refine wp_region_held_drew (S := (fun w' => Sx w w' [(w5.heap.size, z5.arr, 37), (W1.heap.size, #[.bool z3.b, .slice z3.a z3.n z3.c, .slice z3.d z3.m z3.e, .bool false, .slice none 0 0, .slice none 0 0, .bool false, .slice none 0 0, .slice none 0 0, .bool false, .slice none 0 0, .slice none 0 0], 37), (w.heap.size, #[.bool false, .slice none 0 0, .slice none 0 0], 37)] [])) (by kernel_rfl) ((HS.out.drew).bare) (fun hh => ?_)
 replace HS := Lib.hid HS.out.drew
 have HSW := Lib.hid HS.out.bel.size
 refine tkB (i := 0) (v := ?vk8) rfl ?hk8 ?rk8
 case hk8 => intro u hSu; go_simp <;> with_reducible rfl
 try simp only [nbs, Act.put]
 refine tkB (i := 1) (v := ?vk9) rfl ?hk9 ?rk9
 case hk9 => intro u hSu; go_simp <;> with_reducible rfl
 try simp only [nbs, Act.put]
 refine tkB (i := 2) (v := ?vk10) rfl ?hk10 ?rk10
 case hk10 => intro u hSu; go_simp <;> with_reducible rfl
 try simp only [nbs, Act.put]
 refine tkB (i := 3) (v := ?vk11) rfl ?hk11 ?rk11
 case hk11 => intro u hSu; (try dsimp only at hSu); have MOc0 := (hSu.bel.cell (p := ⟨MB, 0, none⟩) MOL.out).trans MO0.out; clear hSu; go_simp <;> with_reducible rfl
 try simp only [nbs, Act.put]
 refine tkB (i := 4) (v := ?vk12) rfl ?hk12 ?rk12
 case hk12 => intro u hSu; go_simp <;> with_reducible rfl
 try simp only [nbs, Act.put]
 refine tkB (i := 5) (v := ?vk13) rfl ?hk13 ?rk13
 case hk13 => intro u hSu; go_simp <;> with_reducible rfl
 try simp only [nbs, Act.put]
 refine tkB (i := 6) (v := ?vk14) rfl ?hk14 ?rk14
 case hk14 => intro u hSu; (try dsimp only at hSu); have MR0c0 := (hSu.bel.cell (p := ⟨MB1, 0, none⟩) MRL0.out).trans MR00.out; have MR0c1 := (hSu.bel.cell (p := ⟨MB1, 1, none⟩) MRL0.out).trans MR01.out; have MR0c2 := (hSu.bel.cell (p := ⟨MB1, 2, none⟩) MRL0.out).trans MR02.out; clear hSu; go_simp <;> with_reducible rfl
 try simp only [nbs, Act.put]
 refine tkB (i := 7) (v := ?vk15) rfl ?hk15 ?rk15
 case hk15 => intro u hSu; go_simp <;> with_reducible rfl
 try simp only [nbs, Act.put]
 refine tkB (i := 8) (v := ?vk16) rfl ?hk16 ?rk16
 case hk16 => intro u hSu; go_simp <;> with_reducible rfl
 try simp only [nbs, Act.put]
 refine tkB (i := 9) (v := ?vk17) rfl ?hk17 ?rk17
 case hk17 => intro u hSu; go_simp <;> with_reducible rfl
 try simp only [nbs, Act.put]
 refine tkB (i := 10) (v := ?vk18) rfl ?hk18 ?rk18
 case hk18 => intro u hSu; go_simp <;> with_reducible rfl
 try simp only [nbs, Act.put]
 refine tkB (i := 11) (v := ?vk19) rfl ?hk19 ?rk19
 case hk19 => intro u hSu; go_simp <;> with_reducible rfl
 try simp only [nbs, Act.put]
 refine tkB (i := 12) (v := ?vk20) rfl ?hk20 ?rk20
 case hk20 => intro u hSu; go_simp <;> with_reducible rfl
 try simp only [nbs, Act.put]
 refine tkB (i := 13) (v := ?vk21) rfl ?hk21 ?rk21
 case hk21 => intro u hSu; go_simp <;> with_reducible rfl
 try simp only [nbs, Act.put]
 refine tkB (i := 14) (v := ?vk22) rfl ?hk22 ?rk22
 case hk22 => intro u hSu; (try dsimp only at hSu); have qb1e := (hSu.at 1 _ _ _ rfl); have qb1c0 := blk_cell qb1e 0 (.bool z3.b) rfl; have qb1c1 := blk_cell qb1e 1 (.slice z3.a z3.n z3.c) rfl; have qb1c2 := blk_cell qb1e 2 (.slice z3.d z3.m z3.e) rfl; have qb1c3 := blk_cell qb1e 3 (.bool false) rfl; have qb1c4 := blk_cell qb1e 4 (.slice none 0 0) rfl; have qb1c5 := blk_cell qb1e 5 (.slice none 0 0) rfl; have qb1c6 := blk_cell qb1e 6 (.bool false) rfl; have qb1c7 := blk_cell qb1e 7 (.slice none 0 0) rfl; have qb1c8 := blk_cell qb1e 8 (.slice none 0 0) rfl; have qb1c9 := blk_cell qb1e 9 (.bool false) rfl; have qb1c10 := blk_cell qb1e 10 (.slice none 0 0) rfl; have qb1c11 := blk_cell qb1e 11 (.slice none 0 0) rfl; clear qb1e; clear hSu; go_simp <;> with_reducible rfl
 try simp only [nbs, Act.put]
 refine wpAnyH_modular [15, 16] [15, 16] [] [67, 11] #[true, true, true, true, true, true, true, true, true, true, true, true, true, true, true, true, true, false] 1 [(15, 67), (16, 11)] [(15, []), (16, [])] [16] [(15, fun v w => ∃ z23 : R3, v = z23.val ∧ Fr false w z23.val (q0 * 1)), (16, fun v w => ∃ Br7_16 : Nat, v = .pointer (some ⟨Br7_16, 0, none⟩) ∧ W6.drew.heap.size ≤ Br7_16 ∧ w.heap[Br7_16]? = some (.cells #[.bool false, .slice none 0 0, .slice none 0 0] 37 (0, 0)))]
  rfl (by kernel_rfl) (by decide) rfl ⟨(fun v w w' hb ⟨z0, e, h0⟩ => ⟨z0, e, Fr.below h0 hb⟩), ⟨(fun v w w' hb ⟨B, e, g, k⟩ => ⟨B, e, g, blk_keep k hb (blk_lt k)⟩), trivial⟩⟩ ⟨fun v w ⟨B, e, g, k⟩ => ⟨B, e, blk_lt k⟩, trivial⟩ (fun w' hb => Sx.below hh hb) ⟨?_, ?_, trivial⟩ trivial (by decide) ?_
 ·
  refine StepM.of rfl (fun f w' hb hp K hK => ?_)
  have HSB := HS
  replace HS := Lib.hid (HS.out.below hb)
  simp only [fillA, fillT, List.foldl_cons, List.foldl_nil, Act.put, nb4, nb5, nb6]
  have a24 := HS.out.q 5 _ _ rfl
  have a25 := HS.out.q 1 _ _ rfl
  go_simp
  go_wp2_with (go_at_call 69; (with_reducible refine (qmul_any q0 1 _ _ _ a24 a25 (szQ_mono (szQ_of Z0.out) (by omega)) (szQ_mono (szQ_of uno_szR) (by omega))).mono ?_); rintro e w23 ⟨v23, rfl, hv23, hb23⟩; obtain ⟨z23, rfl⟩ := hv23.open3)
  exact hK.out _ _ (z23.val) (by simp only [fillA, fillT, List.foldl_cons, List.foldl_nil, Act.put, nb4, nb5, nb6, nb1, nb2, nb3]) ⟨z23, rfl, hv23⟩ (fun h => absurd h (by decide)) hb23
 ·
  refine StepM.of rfl (fun f w' hb hp K hK => ?_)
  have HSB := HS
  replace HS := Lib.hid (HS.out.below hb)
  simp only [fillA, fillT, List.foldl_cons, List.foldl_nil, Act.put, nb4, nb5, nb6]
  go_simp
  exact hK.out _ _ (.pointer (some ⟨w'.heap.size, 0, none⟩)) (by simp only [fillA, fillT, List.foldl_cons, List.foldl_nil, Act.put, nb4, nb5, nb6, nb1, nb2, nb3]) ⟨_, rfl, hb.size, blk_new _ _ _⟩ (fun _ => rfl) (below1 w' _)
 ·
  intro f wr7 hb hp hd
  obtain ⟨z23, e15, h15_0⟩ : ∃ z23 : R3, f 67 = z23.val ∧ Fr false wr7 z23.val (q0 * 1) := hp 15 (by decide)
  obtain ⟨Br7_16, e16, g16, k16⟩ : ∃ Br7_16 : Nat, f 11 = .pointer (some ⟨Br7_16, 0, none⟩) ∧ W6.drew.heap.size ≤ Br7_16 ∧ wr7.heap[Br7_16]? = some (.cells #[.bool false, .slice none 0 0, .slice none 0 0] 37 (0, 0)) := hp 16 (by decide)
  replace hh := Sx.below hh hb
  have hlt := HS.out.lt
  replace HS := Lib.hid (HS.out.below hb)
  replace HS := Lib.hid (HS.out.addQ h15_0)
  have hge16 : w.heap.size ≤ Br7_16 := Nat.le_trans HSW.out g16
  have hne16 : ∀ b, b ∈ ([(w5.heap.size, z5.arr, 37), (W1.heap.size, #[.bool z3.b, .slice z3.a z3.n z3.c, .slice z3.d z3.m z3.e, .bool false, .slice none 0 0, .slice none 0 0, .bool false, .slice none 0 0, .slice none 0 0, .bool false, .slice none 0 0, .slice none 0 0], 37), (w.heap.size, #[.bool false, .slice none 0 0, .slice none 0 0], 37)] : List Bx) → b.1 ≠ Br7_16 := by
   intro b hb
   simp only [List.mem_cons, List.not_mem_nil, or_false] at hb
   rcases hb with rfl | rfl | rfl
   ·
    have := hlt _ (List.mem_iff_getElem?.2 ⟨0, rfl⟩); dsimp only at this ⊢; omega
   ·
    have := hlt _ (List.mem_iff_getElem?.2 ⟨1, rfl⟩); dsimp only at this ⊢; omega
   ·
    have := hlt _ (List.mem_iff_getElem?.2 ⟨2, rfl⟩); dsimp only at this ⊢; omega
  replace HS := Lib.hid (HS.out.addBox k16 hge16 (by rfl) hne16)
  simp only [fillA, fillT, List.foldl_cons, List.foldl_nil, Act.put, nb4, nb5, nb6, e15, e16]
  clear hp hd hb hlt e15 e16
  refine rdA (i := 17) rfl (fun K hK => ?_)
  have b3e := (HS.out.at 0 _ _ _ rfl)
  have b3c0 := blk_cell b3e 0 (.bool false) rfl
  have b3c1 := blk_cell b3e 1 (.slice none 0 0) rfl
  have b3c2 := blk_cell b3e 2 (.slice none 0 0) rfl
  have b3f0 := blk_frozen b3e 0
  have b3f1 := blk_frozen b3e 1
  have b3f2 := blk_frozen b3e 2
  have b3l := blk_lt b3e
  clear b3e
  go_simp
  refine hK.out _ _ ((((HS.out).st_R 0 r30 z23 rfl)).erase 0) (fun hh => ?_)
  clear hK K b3c0 b3c1 b3c2 b3f0 b3f1 b3f2 b3l
  try simp only [nbs, Act.put]
  generalize hW26 : (((wr7).setCell _ _).setCell _ _).setCell _ _ = W26 at *
  replace HS := Lib.hid (((HS.out).st_R 0 r30 z23 rfl).to hW26 (by (try simp only [nb5, nb6]); rfl))
  clear hW26
  refine wpAnyH_done (by kernel_rfl) ?_ _
  obtain ⟨b2c0, b2c1, b2c2, b2f0, b2f1, b2f2⟩ := fac3 (x := z5) (HS.out.at 1 _ _ _ rfl)
  have b2l := blk_lt (HS.out.at 1 _ _ _ rfl)
  obtain ⟨b3c0, b3c1, b3c2, b3f0, b3f1, b3f2⟩ := fac3 (x := z23) (HS.out.at 0 _ _ _ rfl)
  have b3l := blk_lt (HS.out.at 0 _ _ _ rfl)
  have bn2_3 := HS.out.ne 1 0 rfl rfl (by decide)
  go_wp2_with fail
  clear b2c0 b2c1 b2c2 b2f0 b2f1 b2f2 b2l b3c0 b3c1 b3c2 b3f0 b3f1 b3f2 b3l bn2_3
  refine (qadd_any 0 (q0 * 1) _ _ _ (HS.out.q 1 _ _ rfl) (HS.out.q 0 _ _ rfl) (szQ_mono (szQ_of nul_szR) (by omega)) (szQ_mono (szQ_of (szR_mul Z0.out uno_szR)) (by omega))).mono ?_
  rintro e w27 ⟨v27, rfl, hv27, hb27⟩
  obtain ⟨z27, rfl⟩ := hv27.open3
  replace HS := Lib.hid (HS.out.below hb27)
  clear hb27
  replace HS := Lib.hid (HS.out.addQ hv27)
  clear hv27
  obtain ⟨b2c0, b2c1, b2c2, b2f0, b2f1, b2f2⟩ := fac3 (x := z5) (HS.out.at 1 _ _ _ rfl)
  have b2l := blk_lt (HS.out.at 1 _ _ _ rfl)
  go_wp2_with fail
  clear b2c0 b2c1 b2c2 b2f0 b2f1 b2f2 b2l
  generalize hW28 : (((w27).setCell _ _).setCell _ _).setCell _ _ = W28 at *
  replace HS := Lib.hid (((HS.out).st_R 1 z5 z27 rfl).to hW28 (by (try simp only [nb5, nb6]); rfl))
  clear hW28
  rw [rounds_succ]
  go_wp2_with fail
  rw [rounds_succ]
  obtain ⟨b2c0, b2c1, b2c2, b2f0, b2f1, b2f2⟩ := fac3 (x := z27) (HS.out.at 1 _ _ _ rfl)
  have b2l := blk_lt (HS.out.at 1 _ _ _ rfl)
  have b1e := (HS.out.at 2 _ _ _ rfl)
  have b1c0 := blk_cell b1e 0 (.bool z3.b) rfl
  have b1c1 := blk_cell b1e 1 (.slice z3.a z3.n z3.c) rfl
  have b1c2 := blk_cell b1e 2 (.slice z3.d z3.m z3.e) rfl
  have b1c3 := blk_cell b1e 3 (.bool false) rfl
  have b1c4 := blk_cell b1e 4 (.slice none 0 0) rfl
  have b1c5 := blk_cell b1e 5 (.slice none 0 0) rfl
  have b1c6 := blk_cell b1e 6 (.bool false) rfl
  have b1c7 := blk_cell b1e 7 (.slice none 0 0) rfl
  have b1c8 := blk_cell b1e 8 (.slice none 0 0) rfl
  have b1c9 := blk_cell b1e 9 (.bool false) rfl
  have b1c10 := blk_cell b1e 10 (.slice none 0 0) rfl
  have b1c11 := blk_cell b1e 11 (.slice none 0 0) rfl
  have b1f0 := blk_frozen b1e 0
  have b1f1 := blk_frozen b1e 1
  have b1f2 := blk_frozen b1e 2
  have b1f3 := blk_frozen b1e 3
  have b1f4 := blk_frozen b1e 4
  have b1f5 := blk_frozen b1e 5
  have b1f6 := blk_frozen b1e 6
  have b1f7 := blk_frozen b1e 7
  have b1f8 := blk_frozen b1e 8
  have b1f9 := blk_frozen b1e 9
  have b1f10 := blk_frozen b1e 10
  have b1f11 := blk_frozen b1e 11
  have b1l := blk_lt b1e
  clear b1e
  go_wp2_with fail
  clear b2c0 b2c1 b2c2 b2f0 b2f1 b2f2 b2l b1c0 b1c1 b1c2 b1c3 b1c4 b1c5 b1c6 b1c7 b1c8 b1c9 b1c10 b1c11 b1f0 b1f1 b1f2 b1f3 b1f4 b1f5 b1f6 b1f7 b1f8 b1f9 b1f10 b1f11 b1l
  generalize hW29 : (((W28).setCell _ _).setCell _ _).setCell _ _ = W29 at *
  replace HS := Lib.hid (((HS.out).st_RRRR_1_1 2 z3 r30 r30 r30 z27 rfl).to hW29 (by (try simp only [nb5, nb6]); rfl))
  clear hW29
  rw [rounds_succ]
  go_wp2_with fail
  refine wp_loop_rounds 9 ?_
  rw [rounds_succ]
  go_wp2_with fail
  rw [rounds_succ]
  go_wp2_with fail
  rw [rounds_succ]
  go_wp2_with fail
  refine (qint0_any' _).mono ?_
  rintro e w30 ⟨v30, rfl, hv30, hb30⟩
  obtain ⟨z30, rfl⟩ := hv30.open3
  replace HS := Lib.hid (HS.out.below hb30)
  clear hb30
  replace HS := Lib.hid (HS.out.addQ hv30)
  clear hv30
  go_wp2_with fail
  generalize hW31 : (w30).alloc (.cells _ _) = W31 at *
  replace HS := Lib.hid (((HS.out).alloc (B := w30.heap.size) rfl (by rfl)).to hW31 (by (try simp only [nb5, nb6]); rfl))
  clear hW31
  refine wp_loop_rounds 9 ?_
  rw [rounds_succ]
  go_wp2_with fail
  rw [rounds_succ]
  go_wp2_with fail
  refine wp_region_held_drew (S := (fun w' => Sx w w' [(w30.heap.size, z30.arr, 37), (Br7_16, z23.arr, 37), (w5.heap.size, z27.arr, 37), (W1.heap.size, #[.bool z3.b, .slice z3.a z3.n z3.c, .slice z3.d z3.m z3.e, .bool z27.b, .slice z27.a z27.n z27.c, .slice z27.d z27.m z27.e, .bool false, .slice none 0 0, .slice none 0 0, .bool false, .slice none 0 0, .slice none 0 0], 37), (w.heap.size, #[.bool false, .slice none 0 0, .slice none 0 0], 37)] [])) (by kernel_rfl) ((HS.out.drew).bare) (fun hh => ?_)
  replace HS := Lib.hid HS.out.drew
  have HSW := Lib.hid HS.out.bel.size
  refine tkB (i := 0) (v := ?vk33) rfl ?hk33 ?rk33
  case hk33 => intro u hSu; go_simp <;> with_reducible rfl
  try simp only [nbs, Act.put]
  refine tkB (i := 1) (v := ?vk34) rfl ?hk34 ?rk34
  case hk34 => intro u hSu; go_simp <;> with_reducible rfl
  try simp only [nbs, Act.put]
  refine tkB (i := 2) (v := ?vk35) rfl ?hk35 ?rk35
  case hk35 => intro u hSu; go_simp <;> with_reducible rfl
  try simp only [nbs, Act.put]
  refine tkB (i := 3) (v := ?vk36) rfl ?hk36 ?rk36
  case hk36 => intro u hSu; (try dsimp only at hSu); have MOc0 := (hSu.bel.cell (p := ⟨MB, 0, none⟩) MOL.out).trans MO0.out; clear hSu; go_simp <;> with_reducible rfl
  try simp only [nbs, Act.put]
  refine tkB (i := 4) (v := ?vk37) rfl ?hk37 ?rk37
  case hk37 => intro u hSu; go_simp <;> with_reducible rfl
  try simp only [nbs, Act.put]
  refine tkB (i := 5) (v := ?vk38) rfl ?hk38 ?rk38
  case hk38 => intro u hSu; go_simp <;> with_reducible rfl
  try simp only [nbs, Act.put]
  refine tkB (i := 6) (v := ?vk39) rfl ?hk39 ?rk39
  case hk39 => intro u hSu; (try dsimp only at hSu); have MR0c3 := (hSu.bel.cell (p := ⟨MB1, 3, none⟩) MRL0.out).trans MR03.out; have MR0c4 := (hSu.bel.cell (p := ⟨MB1, 4, none⟩) MRL0.out).trans MR04.out; have MR0c5 := (hSu.bel.cell (p := ⟨MB1, 5, none⟩) MRL0.out).trans MR05.out; clear hSu; go_simp <;> with_reducible rfl
  try simp only [nbs, Act.put]
  refine tkB (i := 7) (v := ?vk40) rfl ?hk40 ?rk40
  case hk40 => intro u hSu; go_simp <;> with_reducible rfl
  try simp only [nbs, Act.put]
  refine tkB (i := 8) (v := ?vk41) rfl ?hk41 ?rk41
  case hk41 => intro u hSu; go_simp <;> with_reducible rfl
  try simp only [nbs, Act.put]
  refine tkB (i := 9) (v := ?vk42) rfl ?hk42 ?rk42
  case hk42 => intro u hSu; go_simp <;> with_reducible rfl
  try simp only [nbs, Act.put]
  refine tkB (i := 10) (v := ?vk43) rfl ?hk43 ?rk43
  case hk43 => intro u hSu; go_simp <;> with_reducible rfl
  try simp only [nbs, Act.put]
  refine tkB (i := 11) (v := ?vk44) rfl ?hk44 ?rk44
  case hk44 => intro u hSu; go_simp <;> with_reducible rfl
  try simp only [nbs, Act.put]
  refine tkB (i := 12) (v := ?vk45) rfl ?hk45 ?rk45
  case hk45 => intro u hSu; go_simp <;> with_reducible rfl
  try simp only [nbs, Act.put]
  refine tkB (i := 13) (v := ?vk46) rfl ?hk46 ?rk46
  case hk46 => intro u hSu; go_simp <;> with_reducible rfl
  try simp only [nbs, Act.put]
  refine tkB (i := 14) (v := ?vk47) rfl ?hk47 ?rk47
  case hk47 => intro u hSu; (try dsimp only at hSu); have qb1e := (hSu.at 3 _ _ _ rfl); have qb1c0 := blk_cell qb1e 0 (.bool z3.b) rfl; have qb1c1 := blk_cell qb1e 1 (.slice z3.a z3.n z3.c) rfl; have qb1c2 := blk_cell qb1e 2 (.slice z3.d z3.m z3.e) rfl; have qb1c3 := blk_cell qb1e 3 (.bool z27.b) rfl; have qb1c4 := blk_cell qb1e 4 (.slice z27.a z27.n z27.c) rfl; have qb1c5 := blk_cell qb1e 5 (.slice z27.d z27.m z27.e) rfl; have qb1c6 := blk_cell qb1e 6 (.bool false) rfl; have qb1c7 := blk_cell qb1e 7 (.slice none 0 0) rfl; have qb1c8 := blk_cell qb1e 8 (.slice none 0 0) rfl; have qb1c9 := blk_cell qb1e 9 (.bool false) rfl; have qb1c10 := blk_cell qb1e 10 (.slice none 0 0) rfl; have qb1c11 := blk_cell qb1e 11 (.slice none 0 0) rfl; clear qb1e; clear hSu; go_simp <;> with_reducible rfl
  try simp only [nbs, Act.put]
  refine wpAnyH_modular [15, 16] [15, 16] [] [67, 11] #[true, true, true, true, true, true, true, true, true, true, true, true, true, true, true, true, true, false] 1 [(15, 67), (16, 11)] [(15, []), (16, [])] [16] [(15, fun v w => ∃ z48 : R3, v = z48.val ∧ Fr false w z48.val (q1 * 1)), (16, fun v w => ∃ Br32_16 : Nat, v = .pointer (some ⟨Br32_16, 0, none⟩) ∧ W31.drew.heap.size ≤ Br32_16 ∧ w.heap[Br32_16]? = some (.cells #[.bool false, .slice none 0 0, .slice none 0 0] 37 (0, 0)))]
   rfl (by kernel_rfl) (by decide) rfl ⟨(fun v w w' hb ⟨z0, e, h0⟩ => ⟨z0, e, Fr.below h0 hb⟩), ⟨(fun v w w' hb ⟨B, e, g, k⟩ => ⟨B, e, g, blk_keep k hb (blk_lt k)⟩), trivial⟩⟩ ⟨fun v w ⟨B, e, g, k⟩ => ⟨B, e, blk_lt k⟩, trivial⟩ (fun w' hb => Sx.below hh hb) ⟨?_, ?_, trivial⟩ trivial (by decide) ?_
  ·
   refine StepM.of rfl (fun f w' hb hp K hK => ?_)
   have HSB := HS
   replace HS := Lib.hid (HS.out.below hb)
   simp only [fillA, fillT, List.foldl_cons, List.foldl_nil, Act.put, nb4, nb5, nb6]
   have a49 := HS.out.q 7 _ _ rfl
   have a50 := HS.out.q 4 _ _ rfl
   go_simp
   go_wp2_with (go_at_call 69; (with_reducible refine (qmul_any q1 1 _ _ _ a49 a50 (szQ_mono (szQ_of Z1.out) (by omega)) (szQ_mono (szQ_of uno_szR) (by omega))).mono ?_); rintro e w48 ⟨v48, rfl, hv48, hb48⟩; obtain ⟨z48, rfl⟩ := hv48.open3)
   exact hK.out _ _ (z48.val) (by simp only [fillA, fillT, List.foldl_cons, List.foldl_nil, Act.put, nb4, nb5, nb6, nb1, nb2, nb3]) ⟨z48, rfl, hv48⟩ (fun h => absurd h (by decide)) hb48
  ·
   refine StepM.of rfl (fun f w' hb hp K hK => ?_)
   have HSB := HS
   replace HS := Lib.hid (HS.out.below hb)
   simp only [fillA, fillT, List.foldl_cons, List.foldl_nil, Act.put, nb4, nb5, nb6]
   go_simp
   exact hK.out _ _ (.pointer (some ⟨w'.heap.size, 0, none⟩)) (by simp only [fillA, fillT, List.foldl_cons, List.foldl_nil, Act.put, nb4, nb5, nb6, nb1, nb2, nb3]) ⟨_, rfl, hb.size, blk_new _ _ _⟩ (fun _ => rfl) (below1 w' _)
  ·
   intro f wr32 hb hp hd
   obtain ⟨z48, e15, h15_0⟩ : ∃ z48 : R3, f 67 = z48.val ∧ Fr false wr32 z48.val (q1 * 1) := hp 15 (by decide)
   obtain ⟨Br32_16, e16, g16, k16⟩ : ∃ Br32_16 : Nat, f 11 = .pointer (some ⟨Br32_16, 0, none⟩) ∧ W31.drew.heap.size ≤ Br32_16 ∧ wr32.heap[Br32_16]? = some (.cells #[.bool false, .slice none 0 0, .slice none 0 0] 37 (0, 0)) := hp 16 (by decide)
   replace hh := Sx.below hh hb
   have hlt := HS.out.lt
   replace HS := Lib.hid (HS.out.below hb)
   replace HS := Lib.hid (HS.out.addQ h15_0)
   have hge16 : w.heap.size ≤ Br32_16 := Nat.le_trans HSW.out g16
   have hne16 : ∀ b, b ∈ ([(w30.heap.size, z30.arr, 37), (Br7_16, z23.arr, 37), (w5.heap.size, z27.arr, 37), (W1.heap.size, #[.bool z3.b, .slice z3.a z3.n z3.c, .slice z3.d z3.m z3.e, .bool z27.b, .slice z27.a z27.n z27.c, .slice z27.d z27.m z27.e, .bool false, .slice none 0 0, .slice none 0 0, .bool false, .slice none 0 0, .slice none 0 0], 37), (w.heap.size, #[.bool false, .slice none 0 0, .slice none 0 0], 37)] : List Bx) → b.1 ≠ Br32_16 := by
    intro b hb
    simp only [List.mem_cons, List.not_mem_nil, or_false] at hb
    rcases hb with rfl | rfl | rfl | rfl | rfl
    ·
     have := hlt _ (List.mem_iff_getElem?.2 ⟨0, rfl⟩); dsimp only at this ⊢; omega
    ·
     have := hlt _ (List.mem_iff_getElem?.2 ⟨1, rfl⟩); dsimp only at this ⊢; omega
    ·
     have := hlt _ (List.mem_iff_getElem?.2 ⟨2, rfl⟩); dsimp only at this ⊢; omega
    ·
     have := hlt _ (List.mem_iff_getElem?.2 ⟨3, rfl⟩); dsimp only at this ⊢; omega
    ·
     have := hlt _ (List.mem_iff_getElem?.2 ⟨4, rfl⟩); dsimp only at this ⊢; omega
   replace HS := Lib.hid (HS.out.addBox k16 hge16 (by rfl) hne16)
   simp only [fillA, fillT, List.foldl_cons, List.foldl_nil, Act.put, nb4, nb5, nb6, e15, e16]
   clear hp hd hb hlt e15 e16
   refine rdA (i := 17) rfl (fun K hK => ?_)
   have b5e := (HS.out.at 0 _ _ _ rfl)
   have b5c0 := blk_cell b5e 0 (.bool false) rfl
   have b5c1 := blk_cell b5e 1 (.slice none 0 0) rfl
   have b5c2 := blk_cell b5e 2 (.slice none 0 0) rfl
   have b5f0 := blk_frozen b5e 0
   have b5f1 := blk_frozen b5e 1
   have b5f2 := blk_frozen b5e 2
   have b5l := blk_lt b5e
   clear b5e
   go_simp
   refine hK.out _ _ ((((HS.out).st_R 0 r30 z48 rfl)).erase 0) (fun hh => ?_)
   clear hK K b5c0 b5c1 b5c2 b5f0 b5f1 b5f2 b5l
   try simp only [nbs, Act.put]
   generalize hW51 : (((wr32).setCell _ _).setCell _ _).setCell _ _ = W51 at *
   replace HS := Lib.hid (((HS.out).st_R 0 r30 z48 rfl).to hW51 (by (try simp only [nb5, nb6]); rfl))
   clear hW51
   refine wpAnyH_done (by kernel_rfl) ?_ _
   obtain ⟨b4c0, b4c1, b4c2, b4f0, b4f1, b4f2⟩ := fac3 (x := z30) (HS.out.at 1 _ _ _ rfl)
   have b4l := blk_lt (HS.out.at 1 _ _ _ rfl)
   obtain ⟨b5c0, b5c1, b5c2, b5f0, b5f1, b5f2⟩ := fac3 (x := z48) (HS.out.at 0 _ _ _ rfl)
   have b5l := blk_lt (HS.out.at 0 _ _ _ rfl)
   have bn4_5 := HS.out.ne 1 0 rfl rfl (by decide)
   go_wp2_with fail
   clear b4c0 b4c1 b4c2 b4f0 b4f1 b4f2 b4l b5c0 b5c1 b5c2 b5f0 b5f1 b5f2 b5l bn4_5
   refine (qadd_any 0 (q1 * 1) _ _ _ (HS.out.q 1 _ _ rfl) (HS.out.q 0 _ _ rfl) (szQ_mono (szQ_of nul_szR) (by omega)) (szQ_mono (szQ_of (szR_mul Z1.out uno_szR)) (by omega))).mono ?_
   rintro e w52 ⟨v52, rfl, hv52, hb52⟩
   obtain ⟨z52, rfl⟩ := hv52.open3
   replace HS := Lib.hid (HS.out.below hb52)
   clear hb52
   replace HS := Lib.hid (HS.out.addQ hv52)
   clear hv52
   obtain ⟨b4c0, b4c1, b4c2, b4f0, b4f1, b4f2⟩ := fac3 (x := z30) (HS.out.at 1 _ _ _ rfl)
   have b4l := blk_lt (HS.out.at 1 _ _ _ rfl)
   go_wp2_with fail
   clear b4c0 b4c1 b4c2 b4f0 b4f1 b4f2 b4l
   generalize hW53 : (((w52).setCell _ _).setCell _ _).setCell _ _ = W53 at *
   replace HS := Lib.hid (((HS.out).st_R 1 z30 z52 rfl).to hW53 (by (try simp only [nb5, nb6]); rfl))
   clear hW53
   rw [rounds_succ]
   obtain ⟨b4c0, b4c1, b4c2, b4f0, b4f1, b4f2⟩ := fac3 (x := z52) (HS.out.at 1 _ _ _ rfl)
   have b4l := blk_lt (HS.out.at 1 _ _ _ rfl)
   have b1e := (HS.out.at 4 _ _ _ rfl)
   have b1c0 := blk_cell b1e 0 (.bool z3.b) rfl
   have b1c1 := blk_cell b1e 1 (.slice z3.a z3.n z3.c) rfl
   have b1c2 := blk_cell b1e 2 (.slice z3.d z3.m z3.e) rfl
   have b1c3 := blk_cell b1e 3 (.bool z27.b) rfl
   have b1c4 := blk_cell b1e 4 (.slice z27.a z27.n z27.c) rfl
   have b1c5 := blk_cell b1e 5 (.slice z27.d z27.m z27.e) rfl
   have b1c6 := blk_cell b1e 6 (.bool false) rfl
   have b1c7 := blk_cell b1e 7 (.slice none 0 0) rfl
   have b1c8 := blk_cell b1e 8 (.slice none 0 0) rfl
   have b1c9 := blk_cell b1e 9 (.bool false) rfl
   have b1c10 := blk_cell b1e 10 (.slice none 0 0) rfl
   have b1c11 := blk_cell b1e 11 (.slice none 0 0) rfl
   have b1f0 := blk_frozen b1e 0
   have b1f1 := blk_frozen b1e 1
   have b1f2 := blk_frozen b1e 2
   have b1f3 := blk_frozen b1e 3
   have b1f4 := blk_frozen b1e 4
   have b1f5 := blk_frozen b1e 5
   have b1f6 := blk_frozen b1e 6
   have b1f7 := blk_frozen b1e 7
   have b1f8 := blk_frozen b1e 8
   have b1f9 := blk_frozen b1e 9
   have b1f10 := blk_frozen b1e 10
   have b1f11 := blk_frozen b1e 11
   have b1l := blk_lt b1e
   clear b1e
   go_wp2_with fail
   clear b4c0 b4c1 b4c2 b4f0 b4f1 b4f2 b4l b1c0 b1c1 b1c2 b1c3 b1c4 b1c5 b1c6 b1c7 b1c8 b1c9 b1c10 b1c11 b1f0 b1f1 b1f2 b1f3 b1f4 b1f5 b1f6 b1f7 b1f8 b1f9 b1f10 b1f11 b1l
   generalize hW54 : (((W53).setCell _ _).setCell _ _).setCell _ _ = W54 at *
   replace HS := Lib.hid (((HS.out).st_RRRR_2_1 4 z3 z27 r30 r30 z52 rfl).to hW54 (by (try simp only [nb5, nb6]); rfl))
   clear hW54
   rw [rounds_succ]
   go_wp2_with fail
   refine wp_loop_rounds 9 ?_
   rw [rounds_succ]
   go_wp2_with fail
   rw [rounds_succ]
   go_wp2_with fail
   rw [rounds_succ]
   go_wp2_with fail
   refine (qint0_any' _).mono ?_
   rintro e w55 ⟨v55, rfl, hv55, hb55⟩
   obtain ⟨z55, rfl⟩ := hv55.open3
   replace HS := Lib.hid (HS.out.below hb55)
   clear hb55
   replace HS := Lib.hid (HS.out.addQ hv55)
   clear hv55
   go_wp2_with fail
   generalize hW56 : (w55).alloc (.cells _ _) = W56 at *
   replace HS := Lib.hid (((HS.out).alloc (B := w55.heap.size) rfl (by rfl)).to hW56 (by (try simp only [nb5, nb6]); rfl))
   clear hW56
   refine wp_loop_rounds 9 ?_
   rw [rounds_succ]
   go_wp2_with fail
   refine wp_region_held_drew (S := (fun w' => Sx w w' [(w55.heap.size, z55.arr, 37), (Br32_16, z48.arr, 37), (w30.heap.size, z52.arr, 37), (Br7_16, z23.arr, 37), (w5.heap.size, z27.arr, 37), (W1.heap.size, #[.bool z3.b, .slice z3.a z3.n z3.c, .slice z3.d z3.m z3.e, .bool z27.b, .slice z27.a z27.n z27.c, .slice z27.d z27.m z27.e, .bool z52.b, .slice z52.a z52.n z52.c, .slice z52.d z52.m z52.e, .bool false, .slice none 0 0, .slice none 0 0], 37), (w.heap.size, #[.bool false, .slice none 0 0, .slice none 0 0], 37)] [])) (by kernel_rfl) ((HS.out.drew).bare) (fun hh => ?_)
   replace HS := Lib.hid HS.out.drew
   have HSW := Lib.hid HS.out.bel.size
   refine tkB (i := 0) (v := ?vk58) rfl ?hk58 ?rk58
   case hk58 => intro u hSu; go_simp <;> with_reducible rfl
   try simp only [nbs, Act.put]
   refine tkB (i := 1) (v := ?vk59) rfl ?hk59 ?rk59
   case hk59 => intro u hSu; go_simp <;> with_reducible rfl
   try simp only [nbs, Act.put]
   refine tkB (i := 2) (v := ?vk60) rfl ?hk60 ?rk60
   case hk60 => intro u hSu; go_simp <;> with_reducible rfl
   try simp only [nbs, Act.put]
   refine tkB (i := 3) (v := ?vk61) rfl ?hk61 ?rk61
   case hk61 => intro u hSu; (try dsimp only at hSu); have MOc1 := (hSu.bel.cell (p := ⟨MB, 1, none⟩) MOL.out).trans MO1.out; clear hSu; go_simp <;> with_reducible rfl
   try simp only [nbs, Act.put]
   refine tkB (i := 4) (v := ?vk62) rfl ?hk62 ?rk62
   case hk62 => intro u hSu; go_simp <;> with_reducible rfl
   try simp only [nbs, Act.put]
   refine tkB (i := 5) (v := ?vk63) rfl ?hk63 ?rk63
   case hk63 => intro u hSu; go_simp <;> with_reducible rfl
   try simp only [nbs, Act.put]
   refine tkB (i := 6) (v := ?vk64) rfl ?hk64 ?rk64
   case hk64 => intro u hSu; (try dsimp only at hSu); have MR1c0 := (hSu.bel.cell (p := ⟨MB2, 0, none⟩) MRL1.out).trans MR10.out; have MR1c1 := (hSu.bel.cell (p := ⟨MB2, 1, none⟩) MRL1.out).trans MR11.out; have MR1c2 := (hSu.bel.cell (p := ⟨MB2, 2, none⟩) MRL1.out).trans MR12.out; clear hSu; go_simp <;> with_reducible rfl
   try simp only [nbs, Act.put]
   refine tkB (i := 7) (v := ?vk65) rfl ?hk65 ?rk65
   case hk65 => intro u hSu; go_simp <;> with_reducible rfl
   try simp only [nbs, Act.put]
   refine tkB (i := 8) (v := ?vk66) rfl ?hk66 ?rk66
   case hk66 => intro u hSu; go_simp <;> with_reducible rfl
   try simp only [nbs, Act.put]
   refine tkB (i := 9) (v := ?vk67) rfl ?hk67 ?rk67
   case hk67 => intro u hSu; go_simp <;> with_reducible rfl
   try simp only [nbs, Act.put]
   refine tkB (i := 10) (v := ?vk68) rfl ?hk68 ?rk68
   case hk68 => intro u hSu; go_simp <;> with_reducible rfl
   try simp only [nbs, Act.put]
   refine tkB (i := 11) (v := ?vk69) rfl ?hk69 ?rk69
   case hk69 => intro u hSu; go_simp <;> with_reducible rfl
   try simp only [nbs, Act.put]
   refine tkB (i := 12) (v := ?vk70) rfl ?hk70 ?rk70
   case hk70 => intro u hSu; go_simp <;> with_reducible rfl
   try simp only [nbs, Act.put]
   refine tkB (i := 13) (v := ?vk71) rfl ?hk71 ?rk71
   case hk71 => intro u hSu; go_simp <;> with_reducible rfl
   try simp only [nbs, Act.put]
   refine tkB (i := 14) (v := ?vk72) rfl ?hk72 ?rk72
   case hk72 => intro u hSu; (try dsimp only at hSu); have qb1e := (hSu.at 5 _ _ _ rfl); have qb1c0 := blk_cell qb1e 0 (.bool z3.b) rfl; have qb1c1 := blk_cell qb1e 1 (.slice z3.a z3.n z3.c) rfl; have qb1c2 := blk_cell qb1e 2 (.slice z3.d z3.m z3.e) rfl; have qb1c3 := blk_cell qb1e 3 (.bool z27.b) rfl; have qb1c4 := blk_cell qb1e 4 (.slice z27.a z27.n z27.c) rfl; have qb1c5 := blk_cell qb1e 5 (.slice z27.d z27.m z27.e) rfl; have qb1c6 := blk_cell qb1e 6 (.bool z52.b) rfl; have qb1c7 := blk_cell qb1e 7 (.slice z52.a z52.n z52.c) rfl; have qb1c8 := blk_cell qb1e 8 (.slice z52.d z52.m z52.e) rfl; have qb1c9 := blk_cell qb1e 9 (.bool false) rfl; have qb1c10 := blk_cell qb1e 10 (.slice none 0 0) rfl; have qb1c11 := blk_cell qb1e 11 (.slice none 0 0) rfl; clear qb1e; clear hSu; go_simp <;> with_reducible rfl
   try simp only [nbs, Act.put]
   refine wpAnyH_modular [15, 16] [15, 16] [] [67, 11] #[true, true, true, true, true, true, true, true, true, true, true, true, true, true, true, true, true, false] 1 [(15, 67), (16, 11)] [(15, []), (16, [])] [16] [(15, fun v w => ∃ z73 : R3, v = z73.val ∧ Fr false w z73.val (q2 * (0 + (q1 * 1)))), (16, fun v w => ∃ Br57_16 : Nat, v = .pointer (some ⟨Br57_16, 0, none⟩) ∧ W56.drew.heap.size ≤ Br57_16 ∧ w.heap[Br57_16]? = some (.cells #[.bool false, .slice none 0 0, .slice none 0 0] 37 (0, 0)))]
    rfl (by kernel_rfl) (by decide) rfl ⟨(fun v w w' hb ⟨z0, e, h0⟩ => ⟨z0, e, Fr.below h0 hb⟩), ⟨(fun v w w' hb ⟨B, e, g, k⟩ => ⟨B, e, g, blk_keep k hb (blk_lt k)⟩), trivial⟩⟩ ⟨fun v w ⟨B, e, g, k⟩ => ⟨B, e, blk_lt k⟩, trivial⟩ (fun w' hb => Sx.below hh hb) ⟨?_, ?_, trivial⟩ trivial (by decide) ?_
   ·
    refine StepM.of rfl (fun f w' hb hp K hK => ?_)
    have HSB := HS
    replace HS := Lib.hid (HS.out.below hb)
    simp only [fillA, fillT, List.foldl_cons, List.foldl_nil, Act.put, nb4, nb5, nb6]
    have a74 := HS.out.q 9 _ _ rfl
    have a75 := HS.out.q 1 _ _ rfl
    go_simp
    go_wp2_with (go_at_call 69; (with_reducible refine (qmul_any q2 (0 + (q1 * 1)) _ _ _ a74 a75 (szQ_mono (szQ_of Z2.out) (by omega)) (szQ_mono (szQ_of (szR_add nul_szR (szR_mul Z1.out uno_szR))) (by omega))).mono ?_); rintro e w73 ⟨v73, rfl, hv73, hb73⟩; obtain ⟨z73, rfl⟩ := hv73.open3)
    exact hK.out _ _ (z73.val) (by simp only [fillA, fillT, List.foldl_cons, List.foldl_nil, Act.put, nb4, nb5, nb6, nb1, nb2, nb3]) ⟨z73, rfl, hv73⟩ (fun h => absurd h (by decide)) hb73
   ·
    refine StepM.of rfl (fun f w' hb hp K hK => ?_)
    have HSB := HS
    replace HS := Lib.hid (HS.out.below hb)
    simp only [fillA, fillT, List.foldl_cons, List.foldl_nil, Act.put, nb4, nb5, nb6]
    go_simp
    exact hK.out _ _ (.pointer (some ⟨w'.heap.size, 0, none⟩)) (by simp only [fillA, fillT, List.foldl_cons, List.foldl_nil, Act.put, nb4, nb5, nb6, nb1, nb2, nb3]) ⟨_, rfl, hb.size, blk_new _ _ _⟩ (fun _ => rfl) (below1 w' _)
   ·
    intro f wr57 hb hp hd
    obtain ⟨z73, e15, h15_0⟩ : ∃ z73 : R3, f 67 = z73.val ∧ Fr false wr57 z73.val (q2 * (0 + (q1 * 1))) := hp 15 (by decide)
    obtain ⟨Br57_16, e16, g16, k16⟩ : ∃ Br57_16 : Nat, f 11 = .pointer (some ⟨Br57_16, 0, none⟩) ∧ W56.drew.heap.size ≤ Br57_16 ∧ wr57.heap[Br57_16]? = some (.cells #[.bool false, .slice none 0 0, .slice none 0 0] 37 (0, 0)) := hp 16 (by decide)
    replace hh := Sx.below hh hb
    have hlt := HS.out.lt
    replace HS := Lib.hid (HS.out.below hb)
    replace HS := Lib.hid (HS.out.addQ h15_0)
    have hge16 : w.heap.size ≤ Br57_16 := Nat.le_trans HSW.out g16
    have hne16 : ∀ b, b ∈ ([(w55.heap.size, z55.arr, 37), (Br32_16, z48.arr, 37), (w30.heap.size, z52.arr, 37), (Br7_16, z23.arr, 37), (w5.heap.size, z27.arr, 37), (W1.heap.size, #[.bool z3.b, .slice z3.a z3.n z3.c, .slice z3.d z3.m z3.e, .bool z27.b, .slice z27.a z27.n z27.c, .slice z27.d z27.m z27.e, .bool z52.b, .slice z52.a z52.n z52.c, .slice z52.d z52.m z52.e, .bool false, .slice none 0 0, .slice none 0 0], 37), (w.heap.size, #[.bool false, .slice none 0 0, .slice none 0 0], 37)] : List Bx) → b.1 ≠ Br57_16 := by
     intro b hb
     simp only [List.mem_cons, List.not_mem_nil, or_false] at hb
     rcases hb with rfl | rfl | rfl | rfl | rfl | rfl | rfl
     ·
      have := hlt _ (List.mem_iff_getElem?.2 ⟨0, rfl⟩); dsimp only at this ⊢; omega
     ·
      have := hlt _ (List.mem_iff_getElem?.2 ⟨1, rfl⟩); dsimp only at this ⊢; omega
     ·
      have := hlt _ (List.mem_iff_getElem?.2 ⟨2, rfl⟩); dsimp only at this ⊢; omega
     ·
      have := hlt _ (List.mem_iff_getElem?.2 ⟨3, rfl⟩); dsimp only at this ⊢; omega
     ·
      have := hlt _ (List.mem_iff_getElem?.2 ⟨4, rfl⟩); dsimp only at this ⊢; omega
     ·
      have := hlt _ (List.mem_iff_getElem?.2 ⟨5, rfl⟩); dsimp only at this ⊢; omega
     ·
      have := hlt _ (List.mem_iff_getElem?.2 ⟨6, rfl⟩); dsimp only at this ⊢; omega
    replace HS := Lib.hid (HS.out.addBox k16 hge16 (by rfl) hne16)
    simp only [fillA, fillT, List.foldl_cons, List.foldl_nil, Act.put, nb4, nb5, nb6, e15, e16]
    clear hp hd hb hlt e15 e16
    refine rdA (i := 17) rfl (fun K hK => ?_)
    have b7e := (HS.out.at 0 _ _ _ rfl)
    have b7c0 := blk_cell b7e 0 (.bool false) rfl
    have b7c1 := blk_cell b7e 1 (.slice none 0 0) rfl
    have b7c2 := blk_cell b7e 2 (.slice none 0 0) rfl
    have b7f0 := blk_frozen b7e 0
    have b7f1 := blk_frozen b7e 1
    have b7f2 := blk_frozen b7e 2
    have b7l := blk_lt b7e
    clear b7e
    go_simp
    refine hK.out _ _ ((((HS.out).st_R 0 r30 z73 rfl)).erase 0) (fun hh => ?_)
    clear hK K b7c0 b7c1 b7c2 b7f0 b7f1 b7f2 b7l
    try simp only [nbs, Act.put]
    generalize hW76 : (((wr57).setCell _ _).setCell _ _).setCell _ _ = W76 at *
    replace HS := Lib.hid (((HS.out).st_R 0 r30 z73 rfl).to hW76 (by (try simp only [nb5, nb6]); rfl))
    clear hW76
    refine wpAnyH_done (by kernel_rfl) ?_ _
    obtain ⟨b7c0, b7c1, b7c2, b7f0, b7f1, b7f2⟩ := fac3 (x := z73) (HS.out.at 0 _ _ _ rfl)
    have b7l := blk_lt (HS.out.at 0 _ _ _ rfl)
    go_wp2_with fail
    clear b7c0 b7c1 b7c2 b7f0 b7f1 b7f2 b7l
    refine (qneg_any (q2 * (0 + (q1 * 1))) _ _ (HS.out.q 0 _ _ rfl)).mono ?_
    rintro e w77 ⟨v77, rfl, hv77, hb77⟩
    obtain ⟨z77, rfl⟩ := hv77.open3
    replace HS := Lib.hid (HS.out.below hb77)
    clear hb77
    replace HS := Lib.hid (HS.out.addQ hv77)
    clear hv77
    obtain ⟨b7c0, b7c1, b7c2, b7f0, b7f1, b7f2⟩ := fac3 (x := z73) (HS.out.at 0 _ _ _ rfl)
    have b7l := blk_lt (HS.out.at 0 _ _ _ rfl)
    obtain ⟨b6c0, b6c1, b6c2, b6f0, b6f1, b6f2⟩ := fac3 (x := z55) (HS.out.at 1 _ _ _ rfl)
    have b6l := blk_lt (HS.out.at 1 _ _ _ rfl)
    have bn7_6 := HS.out.ne 0 1 rfl rfl (by decide)
    go_wp2_with fail
    clear b7c0 b7c1 b7c2 b7f0 b7f1 b7f2 b7l b6c0 b6c1 b6c2 b6f0 b6f1 b6f2 b6l bn7_6
    generalize hW78 : (((w77).setCell _ _).setCell _ _).setCell _ _ = W78 at *
    replace HS := Lib.hid (((HS.out).st_R 0 z73 z77 rfl).to hW78 (by (try simp only [nb5, nb6]); rfl))
    clear hW78
    refine (qadd_any 0 (-(q2 * (0 + (q1 * 1)))) _ _ _ (HS.out.q 2 _ _ rfl) (HS.out.q 0 _ _ rfl) (szQ_mono (szQ_of nul_szR) (by omega)) (szQ_mono (szQ_of (szR_neg (szR_mul Z2.out (szR_add nul_szR (szR_mul Z1.out uno_szR))))) (by omega))).mono ?_
    rintro e w79 ⟨v79, rfl, hv79, hb79⟩
    obtain ⟨z79, rfl⟩ := hv79.open3
    replace HS := Lib.hid (HS.out.below hb79)
    clear hb79
    replace HS := Lib.hid (HS.out.addQ hv79)
    clear hv79
    obtain ⟨b6c0, b6c1, b6c2, b6f0, b6f1, b6f2⟩ := fac3 (x := z55) (HS.out.at 1 _ _ _ rfl)
    have b6l := blk_lt (HS.out.at 1 _ _ _ rfl)
    go_wp2_with fail
    clear b6c0 b6c1 b6c2 b6f0 b6f1 b6f2 b6l
    generalize hW80 : (((w79).setCell _ _).setCell _ _).setCell _ _ = W80 at *
    replace HS := Lib.hid (((HS.out).st_R 1 z55 z79 rfl).to hW80 (by (try simp only [nb5, nb6]); rfl))
    clear hW80
    rw [rounds_succ]
    go_wp2_with fail
    refine wp_region_held_drew (S := (fun w' => Sx w w' [(Br57_16, z77.arr, 37), (w55.heap.size, z79.arr, 37), (Br32_16, z48.arr, 37), (w30.heap.size, z52.arr, 37), (Br7_16, z23.arr, 37), (w5.heap.size, z27.arr, 37), (W1.heap.size, #[.bool z3.b, .slice z3.a z3.n z3.c, .slice z3.d z3.m z3.e, .bool z27.b, .slice z27.a z27.n z27.c, .slice z27.d z27.m z27.e, .bool z52.b, .slice z52.a z52.n z52.c, .slice z52.d z52.m z52.e, .bool false, .slice none 0 0, .slice none 0 0], 37), (w.heap.size, #[.bool false, .slice none 0 0, .slice none 0 0], 37)] [])) (by kernel_rfl) ((HS.out.drew).bare) (fun hh => ?_)
    replace HS := Lib.hid HS.out.drew
    have HSW := Lib.hid HS.out.bel.size
    refine tkB (i := 0) (v := ?vk82) rfl ?hk82 ?rk82
    case hk82 => intro u hSu; go_simp <;> with_reducible rfl
    try simp only [nbs, Act.put]
    refine tkB (i := 1) (v := ?vk83) rfl ?hk83 ?rk83
    case hk83 => intro u hSu; go_simp <;> with_reducible rfl
    try simp only [nbs, Act.put]
    refine tkB (i := 2) (v := ?vk84) rfl ?hk84 ?rk84
    case hk84 => intro u hSu; go_simp <;> with_reducible rfl
    try simp only [nbs, Act.put]
    refine tkB (i := 3) (v := ?vk85) rfl ?hk85 ?rk85
    case hk85 => intro u hSu; (try dsimp only at hSu); have MOc1 := (hSu.bel.cell (p := ⟨MB, 1, none⟩) MOL.out).trans MO1.out; clear hSu; go_simp <;> with_reducible rfl
    try simp only [nbs, Act.put]
    refine tkB (i := 4) (v := ?vk86) rfl ?hk86 ?rk86
    case hk86 => intro u hSu; go_simp <;> with_reducible rfl
    try simp only [nbs, Act.put]
    refine tkB (i := 5) (v := ?vk87) rfl ?hk87 ?rk87
    case hk87 => intro u hSu; go_simp <;> with_reducible rfl
    try simp only [nbs, Act.put]
    refine tkB (i := 6) (v := ?vk88) rfl ?hk88 ?rk88
    case hk88 => intro u hSu; (try dsimp only at hSu); have MR1c3 := (hSu.bel.cell (p := ⟨MB2, 3, none⟩) MRL1.out).trans MR13.out; have MR1c4 := (hSu.bel.cell (p := ⟨MB2, 4, none⟩) MRL1.out).trans MR14.out; have MR1c5 := (hSu.bel.cell (p := ⟨MB2, 5, none⟩) MRL1.out).trans MR15.out; clear hSu; go_simp <;> with_reducible rfl
    try simp only [nbs, Act.put]
    refine tkB (i := 7) (v := ?vk89) rfl ?hk89 ?rk89
    case hk89 => intro u hSu; go_simp <;> with_reducible rfl
    try simp only [nbs, Act.put]
    refine tkB (i := 8) (v := ?vk90) rfl ?hk90 ?rk90
    case hk90 => intro u hSu; go_simp <;> with_reducible rfl
    try simp only [nbs, Act.put]
    refine tkB (i := 9) (v := ?vk91) rfl ?hk91 ?rk91
    case hk91 => intro u hSu; go_simp <;> with_reducible rfl
    try simp only [nbs, Act.put]
    refine tkB (i := 10) (v := ?vk92) rfl ?hk92 ?rk92
    case hk92 => intro u hSu; go_simp <;> with_reducible rfl
    try simp only [nbs, Act.put]
    refine tkB (i := 11) (v := ?vk93) rfl ?hk93 ?rk93
    case hk93 => intro u hSu; go_simp <;> with_reducible rfl
    try simp only [nbs, Act.put]
    refine tkB (i := 12) (v := ?vk94) rfl ?hk94 ?rk94
    case hk94 => intro u hSu; go_simp <;> with_reducible rfl
    try simp only [nbs, Act.put]
    refine tkB (i := 13) (v := ?vk95) rfl ?hk95 ?rk95
    case hk95 => intro u hSu; go_simp <;> with_reducible rfl
    try simp only [nbs, Act.put]
    refine tkB (i := 14) (v := ?vk96) rfl ?hk96 ?rk96
    case hk96 => intro u hSu; (try dsimp only at hSu); have qb1e := (hSu.at 6 _ _ _ rfl); have qb1c0 := blk_cell qb1e 0 (.bool z3.b) rfl; have qb1c1 := blk_cell qb1e 1 (.slice z3.a z3.n z3.c) rfl; have qb1c2 := blk_cell qb1e 2 (.slice z3.d z3.m z3.e) rfl; have qb1c3 := blk_cell qb1e 3 (.bool z27.b) rfl; have qb1c4 := blk_cell qb1e 4 (.slice z27.a z27.n z27.c) rfl; have qb1c5 := blk_cell qb1e 5 (.slice z27.d z27.m z27.e) rfl; have qb1c6 := blk_cell qb1e 6 (.bool z52.b) rfl; have qb1c7 := blk_cell qb1e 7 (.slice z52.a z52.n z52.c) rfl; have qb1c8 := blk_cell qb1e 8 (.slice z52.d z52.m z52.e) rfl; have qb1c9 := blk_cell qb1e 9 (.bool false) rfl; have qb1c10 := blk_cell qb1e 10 (.slice none 0 0) rfl; have qb1c11 := blk_cell qb1e 11 (.slice none 0 0) rfl; clear qb1e; clear hSu; go_simp <;> with_reducible rfl
    try simp only [nbs, Act.put]
    refine wpAnyH_modular [15, 16] [15, 16] [] [67, 11] #[true, true, true, true, true, true, true, true, true, true, true, true, true, true, true, true, true, false] 1 [(15, 67), (16, 11)] [(15, []), (16, [])] [16] [(15, fun v w => ∃ z97 : R3, v = z97.val ∧ Fr false w z97.val (q3 * (0 + (q0 * 1)))), (16, fun v w => ∃ Br81_16 : Nat, v = .pointer (some ⟨Br81_16, 0, none⟩) ∧ W80.drew.heap.size ≤ Br81_16 ∧ w.heap[Br81_16]? = some (.cells #[.bool false, .slice none 0 0, .slice none 0 0] 37 (0, 0)))]
     rfl (by kernel_rfl) (by decide) rfl ⟨(fun v w w' hb ⟨z0, e, h0⟩ => ⟨z0, e, Fr.below h0 hb⟩), ⟨(fun v w w' hb ⟨B, e, g, k⟩ => ⟨B, e, g, blk_keep k hb (blk_lt k)⟩), trivial⟩⟩ ⟨fun v w ⟨B, e, g, k⟩ => ⟨B, e, blk_lt k⟩, trivial⟩ (fun w' hb => Sx.below hh hb) ⟨?_, ?_, trivial⟩ trivial (by decide) ?_
    ·
     refine StepM.of rfl (fun f w' hb hp K hK => ?_)
     have HSB := HS
     replace HS := Lib.hid (HS.out.below hb)
     simp only [fillA, fillT, List.foldl_cons, List.foldl_nil, Act.put, nb4, nb5, nb6]
     have a98 := HS.out.q 11 _ _ rfl
     have a99 := HS.out.q 7 _ _ rfl
     go_simp
     go_wp2_with (go_at_call 69; (with_reducible refine (qmul_any q3 (0 + (q0 * 1)) _ _ _ a98 a99 (szQ_mono (szQ_of Z3.out) (by omega)) (szQ_mono (szQ_of (szR_add nul_szR (szR_mul Z0.out uno_szR))) (by omega))).mono ?_); rintro e w97 ⟨v97, rfl, hv97, hb97⟩; obtain ⟨z97, rfl⟩ := hv97.open3)
     exact hK.out _ _ (z97.val) (by simp only [fillA, fillT, List.foldl_cons, List.foldl_nil, Act.put, nb4, nb5, nb6, nb1, nb2, nb3]) ⟨z97, rfl, hv97⟩ (fun h => absurd h (by decide)) hb97
    ·
     refine StepM.of rfl (fun f w' hb hp K hK => ?_)
     have HSB := HS
     replace HS := Lib.hid (HS.out.below hb)
     simp only [fillA, fillT, List.foldl_cons, List.foldl_nil, Act.put, nb4, nb5, nb6]
     go_simp
     exact hK.out _ _ (.pointer (some ⟨w'.heap.size, 0, none⟩)) (by simp only [fillA, fillT, List.foldl_cons, List.foldl_nil, Act.put, nb4, nb5, nb6, nb1, nb2, nb3]) ⟨_, rfl, hb.size, blk_new _ _ _⟩ (fun _ => rfl) (below1 w' _)
    ·
     intro f wr81 hb hp hd
     obtain ⟨z97, e15, h15_0⟩ : ∃ z97 : R3, f 67 = z97.val ∧ Fr false wr81 z97.val (q3 * (0 + (q0 * 1))) := hp 15 (by decide)
     obtain ⟨Br81_16, e16, g16, k16⟩ : ∃ Br81_16 : Nat, f 11 = .pointer (some ⟨Br81_16, 0, none⟩) ∧ W80.drew.heap.size ≤ Br81_16 ∧ wr81.heap[Br81_16]? = some (.cells #[.bool false, .slice none 0 0, .slice none 0 0] 37 (0, 0)) := hp 16 (by decide)
     replace hh := Sx.below hh hb
     have hlt := HS.out.lt
     replace HS := Lib.hid (HS.out.below hb)
     replace HS := Lib.hid (HS.out.addQ h15_0)
     have hge16 : w.heap.size ≤ Br81_16 := Nat.le_trans HSW.out g16
     have hne16 : ∀ b, b ∈ ([(Br57_16, z77.arr, 37), (w55.heap.size, z79.arr, 37), (Br32_16, z48.arr, 37), (w30.heap.size, z52.arr, 37), (Br7_16, z23.arr, 37), (w5.heap.size, z27.arr, 37), (W1.heap.size, #[.bool z3.b, .slice z3.a z3.n z3.c, .slice z3.d z3.m z3.e, .bool z27.b, .slice z27.a z27.n z27.c, .slice z27.d z27.m z27.e, .bool z52.b, .slice z52.a z52.n z52.c, .slice z52.d z52.m z52.e, .bool false, .slice none 0 0, .slice none 0 0], 37), (w.heap.size, #[.bool false, .slice none 0 0, .slice none 0 0], 37)] : List Bx) → b.1 ≠ Br81_16 := by
      intro b hb
      simp only [List.mem_cons, List.not_mem_nil, or_false] at hb
      rcases hb with rfl | rfl | rfl | rfl | rfl | rfl | rfl | rfl
      ·
       have := hlt _ (List.mem_iff_getElem?.2 ⟨0, rfl⟩); dsimp only at this ⊢; omega
      ·
       have := hlt _ (List.mem_iff_getElem?.2 ⟨1, rfl⟩); dsimp only at this ⊢; omega
      ·
       have := hlt _ (List.mem_iff_getElem?.2 ⟨2, rfl⟩); dsimp only at this ⊢; omega
      ·
       have := hlt _ (List.mem_iff_getElem?.2 ⟨3, rfl⟩); dsimp only at this ⊢; omega
      ·
       have := hlt _ (List.mem_iff_getElem?.2 ⟨4, rfl⟩); dsimp only at this ⊢; omega
      ·
       have := hlt _ (List.mem_iff_getElem?.2 ⟨5, rfl⟩); dsimp only at this ⊢; omega
      ·
       have := hlt _ (List.mem_iff_getElem?.2 ⟨6, rfl⟩); dsimp only at this ⊢; omega
      ·
       have := hlt _ (List.mem_iff_getElem?.2 ⟨7, rfl⟩); dsimp only at this ⊢; omega
     replace HS := Lib.hid (HS.out.addBox k16 hge16 (by rfl) hne16)
     simp only [fillA, fillT, List.foldl_cons, List.foldl_nil, Act.put, nb4, nb5, nb6, e15, e16]
     clear hp hd hb hlt e15 e16
     refine rdA (i := 17) rfl (fun K hK => ?_)
     have b8e := (HS.out.at 0 _ _ _ rfl)
     have b8c0 := blk_cell b8e 0 (.bool false) rfl
     have b8c1 := blk_cell b8e 1 (.slice none 0 0) rfl
     have b8c2 := blk_cell b8e 2 (.slice none 0 0) rfl
     have b8f0 := blk_frozen b8e 0
     have b8f1 := blk_frozen b8e 1
     have b8f2 := blk_frozen b8e 2
     have b8l := blk_lt b8e
     clear b8e
     go_simp
     refine hK.out _ _ ((((HS.out).st_R 0 r30 z97 rfl)).erase 0) (fun hh => ?_)
     clear hK K b8c0 b8c1 b8c2 b8f0 b8f1 b8f2 b8l
     try simp only [nbs, Act.put]
     generalize hW100 : (((wr81).setCell _ _).setCell _ _).setCell _ _ = W100 at *
     replace HS := Lib.hid (((HS.out).st_R 0 r30 z97 rfl).to hW100 (by (try simp only [nb5, nb6]); rfl))
     clear hW100
     refine wpAnyH_done (by kernel_rfl) ?_ _
     obtain ⟨b6c0, b6c1, b6c2, b6f0, b6f1, b6f2⟩ := fac3 (x := z79) (HS.out.at 2 _ _ _ rfl)
     have b6l := blk_lt (HS.out.at 2 _ _ _ rfl)
     obtain ⟨b8c0, b8c1, b8c2, b8f0, b8f1, b8f2⟩ := fac3 (x := z97) (HS.out.at 0 _ _ _ rfl)
     have b8l := blk_lt (HS.out.at 0 _ _ _ rfl)
     have bn6_8 := HS.out.ne 2 0 rfl rfl (by decide)
     go_wp2_with fail
     clear b6c0 b6c1 b6c2 b6f0 b6f1 b6f2 b6l b8c0 b8c1 b8c2 b8f0 b8f1 b8f2 b8l bn6_8
     refine (qadd_any (0 + (-(q2 * (0 + (q1 * 1))))) (q3 * (0 + (q0 * 1))) _ _ _ (HS.out.q 1 _ _ rfl) (HS.out.q 0 _ _ rfl) (szQ_mono (szQ_of (szR_add nul_szR (szR_neg (szR_mul Z2.out (szR_add nul_szR (szR_mul Z1.out uno_szR)))))) (by omega)) (szQ_mono (szQ_of (szR_mul Z3.out (szR_add nul_szR (szR_mul Z0.out uno_szR)))) (by omega))).mono ?_
     rintro e w101 ⟨v101, rfl, hv101, hb101⟩
     obtain ⟨z101, rfl⟩ := hv101.open3
     replace HS := Lib.hid (HS.out.below hb101)
     clear hb101
     replace HS := Lib.hid (HS.out.addQ hv101)
     clear hv101
     obtain ⟨b6c0, b6c1, b6c2, b6f0, b6f1, b6f2⟩ := fac3 (x := z79) (HS.out.at 2 _ _ _ rfl)
     have b6l := blk_lt (HS.out.at 2 _ _ _ rfl)
     go_wp2_with fail
     clear b6c0 b6c1 b6c2 b6f0 b6f1 b6f2 b6l
     generalize hW102 : (((w101).setCell _ _).setCell _ _).setCell _ _ = W102 at *
     replace HS := Lib.hid (((HS.out).st_R 2 z79 z101 rfl).to hW102 (by (try simp only [nb5, nb6]); rfl))
     clear hW102
     rw [rounds_succ]
     obtain ⟨b6c0, b6c1, b6c2, b6f0, b6f1, b6f2⟩ := fac3 (x := z101) (HS.out.at 2 _ _ _ rfl)
     have b6l := blk_lt (HS.out.at 2 _ _ _ rfl)
     have b1e := (HS.out.at 7 _ _ _ rfl)
     have b1c0 := blk_cell b1e 0 (.bool z3.b) rfl
     have b1c1 := blk_cell b1e 1 (.slice z3.a z3.n z3.c) rfl
     have b1c2 := blk_cell b1e 2 (.slice z3.d z3.m z3.e) rfl
     have b1c3 := blk_cell b1e 3 (.bool z27.b) rfl
     have b1c4 := blk_cell b1e 4 (.slice z27.a z27.n z27.c) rfl
     have b1c5 := blk_cell b1e 5 (.slice z27.d z27.m z27.e) rfl
     have b1c6 := blk_cell b1e 6 (.bool z52.b) rfl
     have b1c7 := blk_cell b1e 7 (.slice z52.a z52.n z52.c) rfl
     have b1c8 := blk_cell b1e 8 (.slice z52.d z52.m z52.e) rfl
     have b1c9 := blk_cell b1e 9 (.bool false) rfl
     have b1c10 := blk_cell b1e 10 (.slice none 0 0) rfl
     have b1c11 := blk_cell b1e 11 (.slice none 0 0) rfl
     have b1f0 := blk_frozen b1e 0
     have b1f1 := blk_frozen b1e 1
     have b1f2 := blk_frozen b1e 2
     have b1f3 := blk_frozen b1e 3
     have b1f4 := blk_frozen b1e 4
     have b1f5 := blk_frozen b1e 5
     have b1f6 := blk_frozen b1e 6
     have b1f7 := blk_frozen b1e 7
     have b1f8 := blk_frozen b1e 8
     have b1f9 := blk_frozen b1e 9
     have b1f10 := blk_frozen b1e 10
     have b1f11 := blk_frozen b1e 11
     have b1l := blk_lt b1e
     clear b1e
     go_wp2_with fail
     clear b6c0 b6c1 b6c2 b6f0 b6f1 b6f2 b6l b1c0 b1c1 b1c2 b1c3 b1c4 b1c5 b1c6 b1c7 b1c8 b1c9 b1c10 b1c11 b1f0 b1f1 b1f2 b1f3 b1f4 b1f5 b1f6 b1f7 b1f8 b1f9 b1f10 b1f11 b1l
     generalize hW103 : (((W102).setCell _ _).setCell _ _).setCell _ _ = W103 at *
     replace HS := Lib.hid (((HS.out).st_RRRR_3_1 7 z3 z27 z52 r30 z101 rfl).to hW103 (by (try simp only [nb5, nb6]); rfl))
     clear hW103
     rw [rounds_succ]
     have b1e := (HS.out.at 7 _ _ _ rfl)
     have b1c0 := blk_cell b1e 0 (.bool z3.b) rfl
     have b1c1 := blk_cell b1e 1 (.slice z3.a z3.n z3.c) rfl
     have b1c2 := blk_cell b1e 2 (.slice z3.d z3.m z3.e) rfl
     have b1c3 := blk_cell b1e 3 (.bool z27.b) rfl
     have b1c4 := blk_cell b1e 4 (.slice z27.a z27.n z27.c) rfl
     have b1c5 := blk_cell b1e 5 (.slice z27.d z27.m z27.e) rfl
     have b1c6 := blk_cell b1e 6 (.bool z52.b) rfl
     have b1c7 := blk_cell b1e 7 (.slice z52.a z52.n z52.c) rfl
     have b1c8 := blk_cell b1e 8 (.slice z52.d z52.m z52.e) rfl
     have b1c9 := blk_cell b1e 9 (.bool z101.b) rfl
     have b1c10 := blk_cell b1e 10 (.slice z101.a z101.n z101.c) rfl
     have b1c11 := blk_cell b1e 11 (.slice z101.d z101.m z101.e) rfl
     have b1f0 := blk_frozen b1e 0
     have b1f1 := blk_frozen b1e 1
     have b1f2 := blk_frozen b1e 2
     have b1f3 := blk_frozen b1e 3
     have b1f4 := blk_frozen b1e 4
     have b1f5 := blk_frozen b1e 5
     have b1f6 := blk_frozen b1e 6
     have b1f7 := blk_frozen b1e 7
     have b1f8 := blk_frozen b1e 8
     have b1f9 := blk_frozen b1e 9
     have b1f10 := blk_frozen b1e 10
     have b1f11 := blk_frozen b1e 11
     have b1l := blk_lt b1e
     clear b1e
     have b0e := (HS.out.at 8 _ _ _ rfl)
     have b0c0 := blk_cell b0e 0 (.bool false) rfl
     have b0c1 := blk_cell b0e 1 (.slice none 0 0) rfl
     have b0c2 := blk_cell b0e 2 (.slice none 0 0) rfl
     have b0f0 := blk_frozen b0e 0
     have b0f1 := blk_frozen b0e 1
     have b0f2 := blk_frozen b0e 2
     have b0l := blk_lt b0e
     clear b0e
     go_wp2_with fail
     clear b1c0 b1c1 b1c2 b1c3 b1c4 b1c5 b1c6 b1c7 b1c8 b1c9 b1c10 b1c11 b1f0 b1f1 b1f2 b1f3 b1f4 b1f5 b1f6 b1f7 b1f8 b1f9 b1f10 b1f11 b1l b0c0 b0c1 b0c2 b0f0 b0f1 b0f2 b0l
     generalize hW104 : (((W103).setCell _ _).setCell _ _).setCell _ _ = W104 at *
     replace HS := Lib.hid (((HS.out).st_R 8 r30 z101 rfl).to hW104 (by (try simp only [nb5, nb6]); rfl))
     clear hW104
     obtain ⟨b0c0, b0c1, b0c2, _⟩ := fac3 (x := z101) (HS.out.at 8 _ _ _ rfl)
     refine bodyPost_ret (v := z101.val) (by simp [results, Tryz.results45, go_sem, b0c0, b0c1, b0c2]) rfl ⟨_, rfl, by rw [← det_walk]; exact (HS.out.q 0 _ _ rfl), HS.out.bel⟩
end Go.Proofs.YtakempimcbofgaaGreat
