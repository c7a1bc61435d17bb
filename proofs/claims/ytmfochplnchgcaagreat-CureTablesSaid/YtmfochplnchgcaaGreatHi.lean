/- Part i of the lemmas and walks. -/
import Derived.Test.YtmfochplnchgcaaGreatHh

namespace Go.Proofs.YtmfochplnchgcaaGreat
open Go.RowKit

theorem pairsB {W : World} {B T : Nat} {n0 d0 n1 d1 : Int} (h : W.heap[B]? = some (.cells #[.int .i64 n0, .int .i64 d0, .int .i64 n1, .int .i64 d1] T (0, 0))) : PairsOf W (.slice (some ⟨B, 0, none⟩) 2 2) [(n0, d0), (n1, d1)] := by
  refine ⟨_, 2, rfl, fun _ => ⟨B, 0, rfl, blk_lt h, fun i hi => ?_⟩⟩
  match i, hi with
  | 0, _ => exact ⟨blk_cell h 0 _ rfl, blk_cell h 1 _ rfl⟩
  | 1, _ => exact ⟨blk_cell h 2 _ rfl, blk_cell h 3 _ rfl⟩
  | i + 2, hi => simp at hi; omega
theorem light2_any (n0 d0 n1 d1 : Int) (v : Value) (w : World) (h : PairsOf w v [(n0, d0), (n1, d1)]) : Calls Tryz.prog 8 #[v] w (RetBool (lightUp [(n0, d0), (n1, d1)] 2) w) := light_any [(n0, d0), (n1, d1)] v w h (by simp)
theorem entsE_get (rs : List RawE) {i : Nat} (hi : i < rs.length) : (entsE rs).getD i (0, 0, 0) = ((rs.getD i (0, (0, 0), (0, 0))).1, loE (rs.getD i (0, (0, 0), (0, 0))), hiE (rs.getD i (0, (0, 0), (0, 0)))) := by
  unfold entsE
  simp [List.getD, hi]
theorem loQ_sz {a b : Rat} {k : Nat} (h1 : szR a k) (h2 : szR b k) : szR (loQ a b) k := by unfold loQ; split <;> assumption
theorem hiQ_sz {a b : Rat} {k : Nat} (h1 : szR a k) (h2 : szR b k) : szR (hiQ a b) k := by unfold hiQ; split <;> assumption
theorem fracP_sz {n d : Int} (h : i64P (n, d)) : szR (fracQ n d) 100 := szR_mono (fracQ_szR n d h.1.1 h.1.2 h.2.1 h.2.2) (by omega)
theorem entsE_sz (rs : List RawE) (h : ∀ i, i < rs.length → rawR (rs.getD i (0, (0, 0), (0, 0)))) : entS (entsE rs) := fun i => by
  by_cases hi : i < rs.length
  · rw [entsE_get rs hi]
    obtain ⟨h1, h2⟩ := h i hi
    exact ⟨szR_mono (loQ_sz (fracP_sz h1) (fracP_sz h2)) (by omega), szR_mono (hiQ_sz (fracP_sz h1) (fracP_sz h2)) (by omega)⟩
  · have : (entsE rs).getD i (0, 0, 0) = (0, 0, 0) := by
      rw [List.getD_eq_getElem?_getD, List.getElem?_eq_none (by unfold entsE; rw [List.length_map]; omega)]
      rfl
    rw [this]
    exact ⟨szR_zero _ (by omega), szR_zero _ (by omega)⟩
theorem entsE_o (rs : List RawE) : entO (entsE rs) := fun i hi => by
  have hi' : i < rs.length := by simpa [entsE] using hi
  rw [entsE_get rs hi']
  exact lo_hi _ _
theorem entsE_i (rs : List RawE) (h : ∀ i, i < rs.length → -9223372036854775808 ≤ (rs.getD i (0, (0, 0), (0, 0))).1 ∧ (rs.getD i (0, (0, 0), (0, 0))).1 ≤ 9223372036854775807) : entI (entsE rs) := fun i hi => by
  have hi' : i < rs.length := by simpa [entsE] using hi
  rw [entsE_get rs hi']
  exact h i hi'
theorem downQ_sz {x : Rat} {k : Nat} (hk : k ≤ 256) (h : szR x 1000000) : szR (downQ x k) 2000100 := by
  rw [← floor_down]
  exact szR_mono (szR_mul (szR_floor (szR_mul h (szR_pw2 hk (show 0 ≤ 256 by omega))) (by omega)) (szR_pw2 (show 0 ≤ 256 by omega) hk)) (by omega)
theorem upQ_sz {x : Rat} {k : Nat} (hk : k ≤ 256) (h : szR x 1000000) : szR (upQ x k) 2000100 := szR_neg (downQ_sz hk (szR_neg h))
theorem entsE_len (rs : List RawE) : (entsE rs).length = rs.length := by simp [entsE]
theorem tabOk_len {rs : List RawE} (h : tabOk rs = true) : rs.length ≤ 20 := by
  unfold tabOk at h
  simp at h
  exact h.1
theorem stepQ_sz {a b p q : Rat} {k : Nat} (hk : k ≤ 256) (s0 : szR a 10000) (s1 : szR b 10000) (s2 : szR p 10000) (s3 : szR q 10000) : szR (stepQ a b p q k).1 400000000 ∧ szR (stepQ a b p q k).2.1 400000000 := by
  unfold stepQ
  split
  · exact ⟨szR_mono (downQ_sz hk (more_sz s0 s2)) (by omega), szR_mono (upQ_sz hk (more_sz s1 s3)) (by omega)⟩
  · exact ⟨szR_zero _ (by omega), szR_zero _ (by omega)⟩
theorem roOf_sz {es : List Ent} (h : entS es) (lo hi : Rat) : szR (roOf es lo hi).1 400000000 ∧ szR (roOf es lo hi).2.1 400000000 := by
  unfold roOf
  split
  · exact ⟨szR_mono (rtOf_sz h lo).1 (by omega), szR_mono (rtOf_sz h hi).2 (by omega)⟩
  · exact ⟨szR_zero _ (by omega), szR_zero _ (by omega)⟩
theorem tab_good {rs : List RawE} {w w' : World} {e : Ending} (h : tabOk rs = true) (hr : RetTabs rs w e w') : ∃ va vb, e = .returned (.tuple #[va, vb, .bool true]) ∧ TabOf IsRat w' va (entsE rs) ∧ TabOf IsR w' vb (entsE rs) ∧ Below w.heap.size w w' := by
  rcases hr with ⟨_, h⟩ | ⟨h0, _⟩
  · exact h
  · rw [h] at h0; exact absurd h0 (by simp)
theorem tab_bad {rs : List RawE} {w w' : World} {e : Ending} (h : tabOk rs = false) (hr : RetTabs rs w e w') : e = .returned (.tuple #[.slice none 0 0, .slice none 0 0, .bool false]) ∧ Below w.heap.size w w' := by
  rcases hr with ⟨h0, _⟩ | ⟨_, h⟩
  · rw [h] at h0; exact absurd h0 (by simp)
  · exact h
set_option maxRecDepth 100000 in
set_option maxHeartbeats 4000000 in
theorem cureTables_any (rs : List RawE) (tn0 td0 tn1 td1 cn0 cd0 cn1 cd1 rn0 rd0 rn1 rd1 z : Int) (vt : Value) (w : World) (h : RawsOf w vt rs) (hr : ∀ i, i < rs.length → rawR (rs.getD i (0, (0, 0), (0, 0))))
    (hi : ∀ i, i < rs.length → -9223372036854775808 ≤ (rs.getD i (0, (0, 0), (0, 0))).1 ∧ (rs.getD i (0, (0, 0), (0, 0))).1 ≤ 9223372036854775807) (ht0 : i64P (tn0, td0)) (ht1 : i64P (tn1, td1)) (hc0 : i64P (cn0, cd0)) (hc1 : i64P (cn1, cd1)) (hr0 : i64P (rn0, rd0)) (hr1 : i64P (rn1, rd1)) :
    Calls Tryz.prog 4 #[vt, .agg #[.int .i64 tn0, .int .i64 td0, .int .i64 tn1, .int .i64 td1], .agg #[.int .i64 cn0, .int .i64 cd0, .int .i64 cn1, .int .i64 cd1], .agg #[.int .i64 rn0, .int .i64 rd0, .int .i64 rn1, .int .i64 rd1], .int .i64 z] w (RetBool true w) := by
  have HS := Lib.hid (Sx.init w)
  have HRW := Lib.hid h
  have HRR := Lib.hid hr
  have HRI := Lib.hid hi
  obtain ⟨ao, cap, rfl, _⟩ := h
  clear hr hi
  obtain ⟨k, hk⟩ : ∃ k : Nat, min (max z 0) 256 = (k : Int) := ⟨(min (max z 0) 256).toNat, by omega⟩
  have hk2 : k ≤ 256 := by omega
  obtain ⟨tlo, htlo⟩ : ∃ x, x = (loQ (fracQ tn0 td0) (fracQ tn1 td1)) := ⟨_, rfl⟩
  obtain ⟨thi, hthi⟩ : ∃ x, x = (hiQ (fracQ tn0 td0) (fracQ tn1 td1)) := ⟨_, rfl⟩
  have HRPt : Hid (∀ W, Calls Tryz.prog 16 #[.agg #[.int .i64 tn0, .int .i64 td0, .int .i64 tn1, .int .i64 td1]] W (RetRng tlo thi W)) := fun W => by rw [htlo, hthi]; exact lrange_any tn0 td0 tn1 td1 W ht0 ht1
  have HRQt : Hid (∀ W, Calls Tryz.prog 18 #[.agg #[.int .i64 tn0, .int .i64 td0, .int .i64 tn1, .int .i64 td1]] W (RetRngQ tlo thi W)) := fun W => by rw [htlo, hthi]; exact refrange_any tn0 td0 tn1 td1 W ht0 ht1
  have zt1 : szR tlo 10000 := by rw [htlo]; exact szR_mono (loQ_sz (fracP_sz ht0) (fracP_sz ht1)) (by omega)
  have zt2 : szR thi 10000 := by rw [hthi]; exact szR_mono (hiQ_sz (fracP_sz ht0) (fracP_sz ht1)) (by omega)
  have ot : tlo ≤ thi := by rw [htlo, hthi]; exact lo_hi _ _
  obtain ⟨clo, hclo⟩ : ∃ x, x = (loQ (fracQ cn0 cd0) (fracQ cn1 cd1)) := ⟨_, rfl⟩
  obtain ⟨chi, hchi⟩ : ∃ x, x = (hiQ (fracQ cn0 cd0) (fracQ cn1 cd1)) := ⟨_, rfl⟩
  have HRPc : Hid (∀ W, Calls Tryz.prog 16 #[.agg #[.int .i64 cn0, .int .i64 cd0, .int .i64 cn1, .int .i64 cd1]] W (RetRng clo chi W)) := fun W => by rw [hclo, hchi]; exact lrange_any cn0 cd0 cn1 cd1 W hc0 hc1
  have HRQc : Hid (∀ W, Calls Tryz.prog 18 #[.agg #[.int .i64 cn0, .int .i64 cd0, .int .i64 cn1, .int .i64 cd1]] W (RetRngQ clo chi W)) := fun W => by rw [hclo, hchi]; exact refrange_any cn0 cd0 cn1 cd1 W hc0 hc1
  have zc1 : szR clo 10000 := by rw [hclo]; exact szR_mono (loQ_sz (fracP_sz hc0) (fracP_sz hc1)) (by omega)
  have zc2 : szR chi 10000 := by rw [hchi]; exact szR_mono (hiQ_sz (fracP_sz hc0) (fracP_sz hc1)) (by omega)
  have oc : clo ≤ chi := by rw [hclo, hchi]; exact lo_hi _ _
  obtain ⟨rlo, hrlo⟩ : ∃ x, x = (loQ (fracQ rn0 rd0) (fracQ rn1 rd1)) := ⟨_, rfl⟩
  obtain ⟨rhi, hrhi⟩ : ∃ x, x = (hiQ (fracQ rn0 rd0) (fracQ rn1 rd1)) := ⟨_, rfl⟩
  have HRPr : Hid (∀ W, Calls Tryz.prog 16 #[.agg #[.int .i64 rn0, .int .i64 rd0, .int .i64 rn1, .int .i64 rd1]] W (RetRng rlo rhi W)) := fun W => by rw [hrlo, hrhi]; exact lrange_any rn0 rd0 rn1 rd1 W hr0 hr1
  have HRQr : Hid (∀ W, Calls Tryz.prog 18 #[.agg #[.int .i64 rn0, .int .i64 rd0, .int .i64 rn1, .int .i64 rd1]] W (RetRngQ rlo rhi W)) := fun W => by rw [hrlo, hrhi]; exact refrange_any rn0 rd0 rn1 rd1 W hr0 hr1
  have zr1 : szR rlo 10000 := by rw [hrlo]; exact szR_mono (loQ_sz (fracP_sz hr0) (fracP_sz hr1)) (by omega)
  have zr2 : szR rhi 10000 := by rw [hrhi]; exact szR_mono (hiQ_sz (fracP_sz hr0) (fracP_sz hr1)) (by omega)
  have or : rlo ≤ rhi := by rw [hrlo, hrhi]; exact lo_hi _ _
  have HOT := Lib.hid ot
  have ZT1 := Lib.hid zt1
  have ZT2 := Lib.hid zt2
  have HSP : Hid (∀ W vx vy, IsRng W vx clo chi → IsRng W vy rlo rhi → Calls Tryz.prog 19 #[vx, vy, .int .i64 z] W (RetRngE (stepQ clo chi rlo rhi k).1 (stepQ clo chi rlo rhi k).2.1 (stepQ clo chi rlo rhi k).2.2 W)) := fun W vx vy h1 h2 => cStep_any clo chi rlo rhi k vx vy W h1 h2 hk2 z hk oc or zc1 zc2 zr1 zr2
  have HSQ : Hid (∀ W vx vy, IsRngQ W vx clo chi → IsRngQ W vy rlo rhi → Calls Tryz.prog 20 #[vx, vy, .int .i64 z] W (RetRngQE (stepQ clo chi rlo rhi k).1 (stepQ clo chi rlo rhi k).2.1 (stepQ clo chi rlo rhi k).2.2 W)) := fun W vx vy h1 h2 => qStep_any clo chi rlo rhi k vx vy W h1 h2 hk2 z hk zc1 zc2 zr1 zr2
  have hz1 := stepQ_sz hk2 zc1 zc2 zr1 zr2
  have ZS1 := Lib.hid hz1.1
  have ZS2 := Lib.hid hz1.2
  generalize stepQ clo chi rlo rhi k = stq at *
  obtain ⟨st1, st2, st3⟩ := stq
  clear hz1 hk hk2 ot oc or zt1 zt2 zc1 zc2 zr1 zr2 htlo hthi hclo hchi hrlo hrhi ht0 ht1 hc0 hc1 hr0 hr1
  go_enter Tryz.func4, Tryz.ntmps4
  go_wp2_with fail
  generalize hW1 : (((w).alloc (.cells _ _)).alloc (.cells _ _)).alloc (.cells _ _) = W1 at *
  replace HS : Hid (Sx w W1 [(w.heap.size + 2, #[.int .i64 rn0, .int .i64 rd0, .int .i64 rn1, .int .i64 rd1], 49), (w.heap.size + 1, #[.int .i64 cn0, .int .i64 cd0, .int .i64 cn1, .int .i64 cd1], 49), (w.heap.size, #[.int .i64 tn0, .int .i64 td0, .int .i64 tn1, .int .i64 td1], 49)] []) := by subst hW1; exact (((HS.out).alloc (B := w.heap.size) rfl (by rfl)).alloc (B := w.heap.size + 1) (by simp) (by rfl)).alloc (B := w.heap.size + 2) (by simp) (by rfl)
  clear hW1
  by_cases htab : tabOk rs = true
  ·
    have HTAB := Lib.hid htab
    clear htab
    refine (table5_any rs _ _ (HRW.out.below HS.out.bel) HRR.out).mono ?_
    rintro e w2 hq2
    obtain ⟨va, vb, rfl, hta, htb, hb2⟩ := tab_good HTAB.out hq2
    have HTA := Lib.hid hta
    have HTB := Lib.hid htb
    clear hta htb hq2
    have hl : (entsE rs).length ≤ 1000 := by rw [entsE_len]; have := tabOk_len HTAB.out; omega
    have hS := entsE_sz rs HRR.out
    have hI := entsE_i rs HRI.out
    have hO := entsE_o rs
    have HRO : Hid (∀ W vt vx, TabOf IsRat W vt (entsE rs) → IsRng W vx tlo thi → Calls Tryz.prog 15 #[vt, vx] W (RetRngE (roOf (entsE rs) tlo thi).1 (roOf (entsE rs) tlo thi).2.1 (roOf (entsE rs) tlo thi).2.2 W)) := fun W vt vx h1 h2 => rateOver_any (entsE rs) tlo thi vt vx W h1 h2 hl hI hS hO HOT.out ZT1.out ZT2.out
    have HROQ : Hid (∀ W vt vx, TabOf IsR W vt (entsE rs) → IsRngQ W vx tlo thi → Calls Tryz.prog 17 #[vt, vx] W (RetRngQE (roOf (entsE rs) tlo thi).1 (roOf (entsE rs) tlo thi).2.1 (roOf (entsE rs) tlo thi).2.2 W)) := fun W vt vx h1 h2 => qrateOver_any (entsE rs) tlo thi vt vx W h1 h2 hl hI hS hO ZT1.out ZT2.out
    have HCT : Hid (∀ W vt, TabOf IsRat W vt (entsE rs) → Calls Tryz.prog 21 #[vt] W (RetInt (ctErr (entsE rs)) W)) := fun W vt h1 => ctable_any (entsE rs) vt W h1 hl hI hS
    have HCTQ : Hid (∀ W vt, TabOf IsR W vt (entsE rs) → Calls Tryz.prog 22 #[vt] W (RetInt (ctErr (entsE rs)) W)) := fun W vt h1 => qctable_any (entsE rs) vt W h1 hl hI hS hO
    have hz1 := roOf_sz hS tlo thi
    have ZR1 := Lib.hid hz1.1
    have ZR2 := Lib.hid hz1.2
    clear hz1 hl hS hI hO
    generalize roOf (entsE rs) tlo thi = ro at *
    generalize ctErr (entsE rs) = ct at *
    obtain ⟨ro1, ro2, ro3⟩ := ro
    generalize entsE rs = es at *
    replace HS := Lib.hid (HS.out.below hb2)
    clear hb2
    have HMK := Lib.hid (Below.refl w2.heap.size w2)
    go_wp2_with fail
    cases t3 : lightUp [(tn0, td0), (tn1, td1)] 2 with
    | true =>
      refine (light2_any tn0 td0 tn1 td1 _ _ (pairsB (HS.out.at 2 _ _ _ rfl))).mono ?_
      rw [t3]
      rintro e w4 ⟨rfl, hb4⟩
      replace HS := Lib.hid (HS.out.below hb4)
      replace HMK := Lib.hid (ext_trans HMK.out hb4)
      clear hb4
      go_wp2_with fail
      cases t5 : lightUp [(cn0, cd0), (cn1, cd1)] 2 with
      | true =>
        refine (light2_any cn0 cd0 cn1 cd1 _ _ (pairsB (HS.out.at 1 _ _ _ rfl))).mono ?_
        rw [t5]
        rintro e w6 ⟨rfl, hb6⟩
        replace HS := Lib.hid (HS.out.below hb6)
        replace HMK := Lib.hid (ext_trans HMK.out hb6)
        clear hb6
        go_wp2_with fail
        cases t7 : lightUp [(rn0, rd0), (rn1, rd1)] 2 with
        | true =>
          refine (light2_any rn0 rd0 rn1 rd1 _ _ (pairsB (HS.out.at 0 _ _ _ rfl))).mono ?_
          rw [t7]
          rintro e w8 ⟨rfl, hb8⟩
          replace HS := Lib.hid (HS.out.below hb8)
          replace HMK := Lib.hid (ext_trans HMK.out hb8)
          clear hb8
          have b0e := (HS.out.at 2 _ _ _ rfl)
          have b0c0 := blk_cell b0e 0 (.int .i64 tn0) rfl
          have b0c1 := blk_cell b0e 1 (.int .i64 td0) rfl
          have b0c2 := blk_cell b0e 2 (.int .i64 tn1) rfl
          have b0c3 := blk_cell b0e 3 (.int .i64 td1) rfl
          have b0f0 := blk_frozen b0e 0
          have b0f1 := blk_frozen b0e 1
          have b0f2 := blk_frozen b0e 2
          have b0f3 := blk_frozen b0e 3
          have b0l := blk_lt b0e
          clear b0e
          go_wp2_with fail
          clear b0c0 b0c1 b0c2 b0c3 b0f0 b0f1 b0f2 b0f3 b0l
          refine (HRPt.out _).mono ?_
          rintro e w9 ⟨v9, rfl, ⟨z9a, z9b, rfl, hv9, hw9⟩, hb9⟩
          replace HS := Lib.hid (HS.out.below hb9)
          replace HMK := Lib.hid (ext_trans HMK.out hb9)
          clear hb9
          replace HS := Lib.hid (HS.out.addP hv9)
          clear hv9
          replace HS := Lib.hid (HS.out.addP hw9)
          clear hw9
          go_wp2_with fail
          refine (HRO.out _ _ _ (HTA.out.bP HMK.out) (rngP (HS.out.p 1 _ _ rfl) (HS.out.p 0 _ _ rfl))).mono ?_
          rintro e w10 ⟨v10, rfl, ⟨z10a, z10b, rfl, hv10, hw10⟩, hb10⟩
          replace HS := Lib.hid (HS.out.below hb10)
          replace HMK := Lib.hid (ext_trans HMK.out hb10)
          clear hb10
          replace HS := Lib.hid (HS.out.addP hv10)
          clear hv10
          replace HS := Lib.hid (HS.out.addP hw10)
          clear hw10
          have b0e := (HS.out.at 2 _ _ _ rfl)
          have b0c0 := blk_cell b0e 0 (.int .i64 tn0) rfl
          have b0c1 := blk_cell b0e 1 (.int .i64 td0) rfl
          have b0c2 := blk_cell b0e 2 (.int .i64 tn1) rfl
          have b0c3 := blk_cell b0e 3 (.int .i64 td1) rfl
          have b0f0 := blk_frozen b0e 0
          have b0f1 := blk_frozen b0e 1
          have b0f2 := blk_frozen b0e 2
          have b0f3 := blk_frozen b0e 3
          have b0l := blk_lt b0e
          clear b0e
          go_wp2_with fail
          clear b0c0 b0c1 b0c2 b0c3 b0f0 b0f1 b0f2 b0f3 b0l
          have HG12 : Hid (w2.heap.size ≤ w10.heap.size) := by first | exact HMK.out.size | (show _ ≤ _; have := HMK.out.size; omega)
          generalize hW11 : (w10).alloc (.cells _ _) = W11 at *
          replace HS : Hid (Sx w W11 [(w10.heap.size, arr6 z10a z10b, 55), (w.heap.size + 2, #[.int .i64 rn0, .int .i64 rd0, .int .i64 rn1, .int .i64 rd1], 49), (w.heap.size + 1, #[.int .i64 cn0, .int .i64 cd0, .int .i64 cn1, .int .i64 cd1], 49), (w.heap.size, #[.int .i64 tn0, .int .i64 td0, .int .i64 tn1, .int .i64 td1], 49)] [(true, z10b.val, ro2), (true, z10a.val, ro1), (true, z9b.val, thi), (true, z9a.val, tlo)]) := by subst hW11; exact (HS.out).alloc (B := w10.heap.size) rfl (by rfl)
          replace HMK : Hid (Below w2.heap.size w2 W11) := by subst hW11; exact Lib.hid ((mk_alloc HMK.out))
          clear hW11
          refine (HRQt.out _).mono ?_
          rintro e w13 ⟨v13, rfl, ⟨z13a, z13b, rfl, hv13, hw13⟩, hb13⟩
          replace HS := Lib.hid (HS.out.below hb13)
          replace HMK := Lib.hid (ext_trans HMK.out hb13)
          clear hb13
          replace HS := Lib.hid (HS.out.addQ hv13)
          clear hv13
          replace HS := Lib.hid (HS.out.addQ hw13)
          clear hw13
          go_wp2_with fail
          refine (HROQ.out _ _ _ (HTB.out.bQ HMK.out) (rngQ (HS.out.q 1 _ _ rfl) (HS.out.q 0 _ _ rfl))).mono ?_
          rintro e w14 ⟨v14, rfl, ⟨z14a, z14b, rfl, hv14, hw14⟩, hb14⟩
          replace HS := Lib.hid (HS.out.below hb14)
          replace HMK := Lib.hid (ext_trans HMK.out hb14)
          clear hb14
          replace HS := Lib.hid (HS.out.addQ hv14)
          clear hv14
          replace HS := Lib.hid (HS.out.addQ hw14)
          clear hw14
          go_wp2_with fail
          have HG16 : Hid (w2.heap.size ≤ w14.heap.size) := by first | exact HMK.out.size | (show _ ≤ _; have := HMK.out.size; omega)
          generalize hW15 : (w14).alloc (.cells _ _) = W15 at *
          replace HS : Hid (Sx w W15 [(w14.heap.size, arr6 z14a z14b, 60), (w10.heap.size, arr6 z10a z10b, 55), (w.heap.size + 2, #[.int .i64 rn0, .int .i64 rd0, .int .i64 rn1, .int .i64 rd1], 49), (w.heap.size + 1, #[.int .i64 cn0, .int .i64 cd0, .int .i64 cn1, .int .i64 cd1], 49), (w.heap.size, #[.int .i64 tn0, .int .i64 td0, .int .i64 tn1, .int .i64 td1], 49)] [(false, z14b.val, ro2), (false, z14a.val, ro1), (false, z13b.val, thi), (false, z13a.val, tlo), (true, z10b.val, ro2), (true, z10a.val, ro1), (true, z9b.val, thi), (true, z9a.val, tlo)]) := by subst hW15; exact (HS.out).alloc (B := w14.heap.size) rfl (by rfl)
          replace HMK : Hid (Below w2.heap.size w2 W15) := by subst hW15; exact Lib.hid ((mk_alloc HMK.out))
          clear hW15
          go_cut [18, 19] from 60 to 68 (fun s18 s19 wx => Hid (∃ (B17_5 : Nat) (y17_0 y17_1 : R3), s18 = .pointer (some ⟨B17_5, 0, none⟩) ∧ s19 = .int .i64 st3 ∧ Hid (Sx w wx [(B17_5, arr6 y17_0 y17_1, 55), (w14.heap.size, arr6 z14a z14b, 60), (w10.heap.size, arr6 z10a z10b, 55), (w.heap.size + 2, #[.int .i64 rn0, .int .i64 rd0, .int .i64 rn1, .int .i64 rd1], 49), (w.heap.size + 1, #[.int .i64 cn0, .int .i64 cd0, .int .i64 cn1, .int .i64 cd1], 49), (w.heap.size, #[.int .i64 tn0, .int .i64 td0, .int .i64 tn1, .int .i64 td1], 49)] [(true, y17_1.val, st2), (true, y17_0.val, st1), (false, z14b.val, ro2), (false, z14a.val, ro1), (false, z13b.val, thi), (false, z13a.val, tlo), (true, z10b.val, ro2), (true, z10a.val, ro1), (true, z9b.val, thi), (true, z9a.val, tlo)]) ∧ Hid (Below w2.heap.size w2 wx) ∧ Hid (w2.heap.size ≤ B17_5)))
          case first =>
            refine wp_region_held_drew (S := (fun w' => Sx w w' [(w14.heap.size, arr6 z14a z14b, 60), (w10.heap.size, arr6 z10a z10b, 55), (w.heap.size + 2, #[.int .i64 rn0, .int .i64 rd0, .int .i64 rn1, .int .i64 rd1], 49), (w.heap.size + 1, #[.int .i64 cn0, .int .i64 cd0, .int .i64 cn1, .int .i64 cd1], 49), (w.heap.size, #[.int .i64 tn0, .int .i64 td0, .int .i64 tn1, .int .i64 td1], 49)] [])) (by kernel_rfl) ((HS.out.drew).bare) (fun hh => ?_)
            replace HS := Lib.hid HS.out.drew
            replace HMK := Lib.hid (ext_trans HMK.out (Below.refl _ _).drew)
            refine tkA (i := 0) (v := ?vpr18_0_k20) rfl (Or.inl ⟨by first | rfl | kernel_rfl, ?hypr18_0_k20⟩) (by assumption) ?repr18_0_k20
            case hypr18_0_k20 => (intro u hSu; (try dsimp only at hSu); have qb1e := (hSu.at 3 _ _ _ rfl); have qb1c0 := blk_cell qb1e 0 (.int .i64 cn0) rfl; have qb1c1 := blk_cell qb1e 1 (.int .i64 cd0) rfl; have qb1c2 := blk_cell qb1e 2 (.int .i64 cn1) rfl; have qb1c3 := blk_cell qb1e 3 (.int .i64 cd1) rfl; clear qb1e; clear hSu; (first | (go_simp; done) | (go_simp; with_reducible rfl)))
            try simp only [nb1, nb2, nb3, Act.put, nb4, nb5, nb6]
            refine tkA (i := 2) (v := ?vpr18_2_k22) rfl (Or.inl ⟨by first | rfl | kernel_rfl, ?hypr18_2_k22⟩) (by assumption) ?repr18_2_k22
            case hypr18_2_k22 => (intro u hSu; (try dsimp only at hSu); have qb2e := (hSu.at 2 _ _ _ rfl); have qb2c0 := blk_cell qb2e 0 (.int .i64 rn0) rfl; have qb2c1 := blk_cell qb2e 1 (.int .i64 rd0) rfl; have qb2c2 := blk_cell qb2e 2 (.int .i64 rn1) rfl; have qb2c3 := blk_cell qb2e 3 (.int .i64 rd1) rfl; clear qb2e; clear hSu; (first | (go_simp; done) | (go_simp; with_reducible rfl)))
            try simp only [nb1, nb2, nb3, Act.put, nb4, nb5, nb6]
            refine tkA (i := 4) (v := ?vpr18_4_k24) rfl (Or.inl ⟨by first | rfl | kernel_rfl, ?hypr18_4_k24⟩) (by assumption) ?repr18_4_k24
            case hypr18_4_k24 => (intro u hSu; (first | (go_simp; done) | (go_simp; with_reducible rfl)))
            try simp only [nb1, nb2, nb3, Act.put, nb4, nb5, nb6]
            refine wpAnyH_ready (rs := [1, 9]) (by kernel_rfl) (by simp) ?_
            refine AllReadyH.cons rfl (fun K hK => ?_) ?_
            ·
              go_simp
              go_wp2_with (go_at_call 16; (with_reducible refine (HRPc.out _).mono ?_); rintro e w25 ⟨v25, rfl, ⟨z25a, z25b, rfl, hv25, hw25⟩, hb25⟩)
              refine hK.out _ _ (Sx.below hh hb25) (fun hh => ?_)
              clear hK K
              try simp only [nb1, nb2, nb3, Act.put, nb4, nb5, nb6]
              replace HS := Lib.hid (HS.out.below hb25)
              replace HMK := Lib.hid (ext_trans HMK.out hb25)
              clear hb25
              replace HS := Lib.hid (HS.out.addP hv25)
              clear hv25
              replace HS := Lib.hid (HS.out.addP hw25)
              clear hw25
              refine wpAnyH_ready (rs := [3, 9]) (by kernel_rfl) (by simp) ?_
              refine AllReadyH.cons rfl (fun K hK => ?_) ?_
              ·
                go_simp
                go_wp2_with (go_at_call 16; (with_reducible refine (HRPr.out _).mono ?_); rintro e w26 ⟨v26, rfl, ⟨z26a, z26b, rfl, hv26, hw26⟩, hb26⟩)
                refine hK.out _ _ (Sx.below hh hb26) (fun hh => ?_)
                clear hK K
                try simp only [nb1, nb2, nb3, Act.put, nb4, nb5, nb6]
                replace HS := Lib.hid (HS.out.below hb26)
                replace HMK := Lib.hid (ext_trans HMK.out hb26)
                clear hb26
                replace HS := Lib.hid (HS.out.addP hv26)
                clear hv26
                replace HS := Lib.hid (HS.out.addP hw26)
                clear hw26
                refine wpAnyH_ready (rs := [5, 9]) (by kernel_rfl) (by simp) ?_
                refine AllReadyH.cons rfl (fun K hK => ?_) ?_
                ·
                  go_simp
                  have a28 := HS.out.p 3 _ _ rfl
                  have a29 := HS.out.p 2 _ _ rfl
                  have a30 := HS.out.p 1 _ _ rfl
                  have a31 := HS.out.p 0 _ _ rfl
                  go_wp2_with (go_at_call 19; (with_reducible refine (HSP.out _ _ _ (rngP a28 a29) (rngP a30 a31)).mono ?_); rintro e w27 ⟨v27, rfl, ⟨z27a, z27b, rfl, hv27, hw27⟩, hb27⟩)
                  refine hK.out _ _ (Sx.below hh hb27) (fun hh => ?_)
                  clear hK K
                  try simp only [nb1, nb2, nb3, Act.put, nb4, nb5, nb6]
                  replace HS := Lib.hid (HS.out.below hb27)
                  replace HMK := Lib.hid (ext_trans HMK.out hb27)
                  clear hb27 a28 a29 a30 a31
                  replace HS := Lib.hid (HS.out.addP hv27)
                  clear hv27
                  replace HS := Lib.hid (HS.out.addP hw27)
                  clear hw27
                  refine tkA (i := 6) (v := ?vpr18_6_k33) rfl (Or.inl ⟨by first | rfl | kernel_rfl, ?hypr18_6_k33⟩) (by assumption) ?repr18_6_k33
                  case hypr18_6_k33 => (intro u hSu; (first | (go_simp; done) | (go_simp; with_reducible rfl)))
                  try simp only [nb1, nb2, nb3, Act.put, nb4, nb5, nb6]
                  refine tkA (i := 7) (v := ?vpr18_7_k35) rfl (Or.inl ⟨by first | rfl | kernel_rfl, ?hypr18_7_k35⟩) (by assumption) ?repr18_7_k35
                  case hypr18_7_k35 => (intro u hSu; (first | (go_simp; done) | (go_simp; with_reducible rfl)))
                  try simp only [nb1, nb2, nb3, Act.put, nb4, nb5, nb6]
                  refine tkA (i := 8) (v := ?vpr18_8_k37) rfl (Or.inl ⟨by first | rfl | kernel_rfl, ?hypr18_8_k37⟩) (by assumption) ?repr18_8_k37
                  case hypr18_8_k37 => (intro u hSu; (first | (go_simp; done) | (go_simp; with_reducible rfl)))
                  try simp only [nb1, nb2, nb3, Act.put, nb4, nb5, nb6]
                  refine rdA (i := 9) rfl (fun K hK => ?_)
                  go_simp
                  refine hK.out _ _ (Sx.below hh ((Below.refl _ _).alloc (Nat.le_refl _) _)) (fun hh => ?_)
                  clear hK K
                  try simp only [nb1, nb2, nb3, Act.put, nb4, nb5, nb6]
                  have HG39 : Hid (w2.heap.size ≤ w27.heap.size) := by first | exact HMK.out.size | (show _ ≤ _; have := HMK.out.size; omega)
                  generalize hW38 : (w27).alloc (.cells _ _) = W38 at *
                  replace HS : Hid (Sx w W38 [(w27.heap.size, #[.bool false, .slice none 0 0, .slice none 0 0, .bool false, .slice none 0 0, .slice none 0 0], 55), (w14.heap.size, arr6 z14a z14b, 60), (w10.heap.size, arr6 z10a z10b, 55), (w.heap.size + 2, #[.int .i64 rn0, .int .i64 rd0, .int .i64 rn1, .int .i64 rd1], 49), (w.heap.size + 1, #[.int .i64 cn0, .int .i64 cd0, .int .i64 cn1, .int .i64 cd1], 49), (w.heap.size, #[.int .i64 tn0, .int .i64 td0, .int .i64 tn1, .int .i64 td1], 49)] [(true, z27b.val, st2), (true, z27a.val, st1), (true, z26b.val, rhi), (true, z26a.val, rlo), (true, z25b.val, chi), (true, z25a.val, clo), (false, z14b.val, ro2), (false, z14a.val, ro1), (false, z13b.val, thi), (false, z13a.val, tlo), (true, z10b.val, ro2), (true, z10a.val, ro1), (true, z9b.val, thi), (true, z9a.val, tlo)]) := by subst hW38; exact HS.out.alloc (B := w27.heap.size) rfl (by rfl)
                  replace HMK : Hid (Below w2.heap.size w2 W38) := by subst hW38; exact Lib.hid (mk_alloc HMK.out)
                  clear hW38
                  refine rdA (i := 10) rfl (fun K hK => ?_)
                  have b5e := (HS.out.at 0 _ _ _ rfl)
                  have b5c0 := blk_cell b5e 0 (.bool false) rfl
                  have b5c1 := blk_cell b5e 1 (.slice none 0 0) rfl
                  have b5c2 := blk_cell b5e 2 (.slice none 0 0) rfl
                  have b5c3 := blk_cell b5e 3 (.bool false) rfl
                  have b5c4 := blk_cell b5e 4 (.slice none 0 0) rfl
                  have b5c5 := blk_cell b5e 5 (.slice none 0 0) rfl
                  have b5f0 := blk_frozen b5e 0
                  have b5f1 := blk_frozen b5e 1
                  have b5f2 := blk_frozen b5e 2
                  have b5f3 := blk_frozen b5e 3
                  have b5f4 := blk_frozen b5e 4
                  have b5f5 := blk_frozen b5e 5
                  have b5l := blk_lt b5e
                  clear b5e
                  go_simp
                  refine hK.out _ _ ((((HS.out).st_RR 0 r30 r30 z27a z27b rfl)).erase 0) (fun hh => ?_)
                  clear hK K b5c0 b5c1 b5c2 b5c3 b5c4 b5c5 b5f0 b5f1 b5f2 b5f3 b5f4 b5f5 b5l
                  try simp only [nb1, nb2, nb3, Act.put, nb4, nb5, nb6]
                  generalize hW40 : ((((((W38).setCell _ _).setCell _ _).setCell _ _).setCell _ _).setCell _ _).setCell _ _ = W40 at *
                  replace HS : Hid (Sx w W40 [(w27.heap.size, arr6 z27a z27b, 55), (w14.heap.size, arr6 z14a z14b, 60), (w10.heap.size, arr6 z10a z10b, 55), (w.heap.size + 2, #[.int .i64 rn0, .int .i64 rd0, .int .i64 rn1, .int .i64 rd1], 49), (w.heap.size + 1, #[.int .i64 cn0, .int .i64 cd0, .int .i64 cn1, .int .i64 cd1], 49), (w.heap.size, #[.int .i64 tn0, .int .i64 td0, .int .i64 tn1, .int .i64 td1], 49)] [(true, z27b.val, st2), (true, z27a.val, st1), (true, z26b.val, rhi), (true, z26a.val, rlo), (true, z25b.val, chi), (true, z25a.val, clo), (false, z14b.val, ro2), (false, z14a.val, ro1), (false, z13b.val, thi), (false, z13a.val, tlo), (true, z10b.val, ro2), (true, z10a.val, ro1), (true, z9b.val, thi), (true, z9a.val, tlo)]) := by subst hW40; exact (HS.out).st_RR 0 r30 r30 z27a z27b rfl
                  replace HMK : Hid (Below w2.heap.size w2 W40) := by subst hW40; exact Lib.hid (mk_set (mk_set (mk_set (mk_set (mk_set (mk_set HMK.out HG39.out) HG39.out) HG39.out) HG39.out) HG39.out) HG39.out)
                  clear hW40
                  refine tkA (i := 11) (v := ?vpr18_11_k42) rfl (Or.inl ⟨by first | rfl | kernel_rfl, ?hypr18_11_k42⟩) (by assumption) ?repr18_11_k42
                  case hypr18_11_k42 => (intro u hSu; (first | (go_simp; done) | (go_simp; with_reducible rfl)))
                  try simp only [nb1, nb2, nb3, Act.put, nb4, nb5, nb6]
                  refine wpAnyH_done (by kernel_rfl) ?_ _
                  go_wp2_with fail
                  go_meet
                  exact Lib.hid ⟨w27.heap.size, z27a, z27b, rfl, rfl, Lib.hid (((((((((((HS.out.bare).addP (HS.out.p 13 _ _ rfl)).addP (HS.out.p 12 _ _ rfl)).addP (HS.out.p 11 _ _ rfl)).addP (HS.out.p 10 _ _ rfl)).addQ (HS.out.q 9 _ _ rfl)).addQ (HS.out.q 8 _ _ rfl)).addQ (HS.out.q 7 _ _ rfl)).addQ (HS.out.q 6 _ _ rfl)).addP (HS.out.p 1 _ _ rfl)).addP (HS.out.p 0 _ _ rfl)), HMK, HG39⟩
                refine AllReadyH.cons rfl (fun K hK => ?_) AllReadyH.nil
                go_simp
                refine hK.out _ _ (Sx.below hh ((Below.refl _ _).alloc (Nat.le_refl _) _)) (fun hh => ?_)
                clear hK K
                try simp only [nb1, nb2, nb3, Act.put, nb4, nb5, nb6]
                have HG44 : Hid (w2.heap.size ≤ w26.heap.size) := by first | exact HMK.out.size | (show _ ≤ _; have := HMK.out.size; omega)
                generalize hW43 : (w26).alloc (.cells _ _) = W43 at *
                replace HS : Hid (Sx w W43 [(w26.heap.size, #[.bool false, .slice none 0 0, .slice none 0 0, .bool false, .slice none 0 0, .slice none 0 0], 55), (w14.heap.size, arr6 z14a z14b, 60), (w10.heap.size, arr6 z10a z10b, 55), (w.heap.size + 2, #[.int .i64 rn0, .int .i64 rd0, .int .i64 rn1, .int .i64 rd1], 49), (w.heap.size + 1, #[.int .i64 cn0, .int .i64 cd0, .int .i64 cn1, .int .i64 cd1], 49), (w.heap.size, #[.int .i64 tn0, .int .i64 td0, .int .i64 tn1, .int .i64 td1], 49)] [(true, z26b.val, rhi), (true, z26a.val, rlo), (true, z25b.val, chi), (true, z25a.val, clo), (false, z14b.val, ro2), (false, z14a.val, ro1), (false, z13b.val, thi), (false, z13a.val, tlo), (true, z10b.val, ro2), (true, z10a.val, ro1), (true, z9b.val, thi), (true, z9a.val, tlo)]) := by subst hW43; exact HS.out.alloc (B := w26.heap.size) rfl (by rfl)
                replace HMK : Hid (Below w2.heap.size w2 W43) := by subst hW43; exact Lib.hid (mk_alloc HMK.out)
                clear hW43
                refine rdA (i := 5) rfl (fun K hK => ?_)
                go_simp
                have a46 := HS.out.p 3 _ _ rfl
                have a47 := HS.out.p 2 _ _ rfl
                have a48 := HS.out.p 1 _ _ rfl
                have a49 := HS.out.p 0 _ _ rfl
                go_wp2_with (go_at_call 19; (with_reducible refine (HSP.out _ _ _ (rngP a46 a47) (rngP a48 a49)).mono ?_); rintro e w45 ⟨v45, rfl, ⟨z45a, z45b, rfl, hv45, hw45⟩, hb45⟩)
                refine hK.out _ _ (Sx.below hh hb45) (fun hh => ?_)
                clear hK K
                try simp only [nb1, nb2, nb3, Act.put, nb4, nb5, nb6]
                replace HS := Lib.hid (HS.out.below hb45)
                replace HMK := Lib.hid (ext_trans HMK.out hb45)
                clear hb45 a46 a47 a48 a49
                replace HS := Lib.hid (HS.out.addP hv45)
                clear hv45
                replace HS := Lib.hid (HS.out.addP hw45)
                clear hw45
                refine tkA (i := 6) (v := ?vpr18_6_k51) rfl (Or.inl ⟨by first | rfl | kernel_rfl, ?hypr18_6_k51⟩) (by assumption) ?repr18_6_k51
                case hypr18_6_k51 => (intro u hSu; (first | (go_simp; done) | (go_simp; with_reducible rfl)))
                try simp only [nb1, nb2, nb3, Act.put, nb4, nb5, nb6]
                refine tkA (i := 7) (v := ?vpr18_7_k53) rfl (Or.inl ⟨by first | rfl | kernel_rfl, ?hypr18_7_k53⟩) (by assumption) ?repr18_7_k53
                case hypr18_7_k53 => (intro u hSu; (first | (go_simp; done) | (go_simp; with_reducible rfl)))
                try simp only [nb1, nb2, nb3, Act.put, nb4, nb5, nb6]
                refine tkA (i := 8) (v := ?vpr18_8_k55) rfl (Or.inl ⟨by first | rfl | kernel_rfl, ?hypr18_8_k55⟩) (by assumption) ?repr18_8_k55
                case hypr18_8_k55 => (intro u hSu; (first | (go_simp; done) | (go_simp; with_reducible rfl)))
                try simp only [nb1, nb2, nb3, Act.put, nb4, nb5, nb6]
                refine rdA (i := 10) rfl (fun K hK => ?_)
                have b5e := (HS.out.at 0 _ _ _ rfl)
                have b5c0 := blk_cell b5e 0 (.bool false) rfl
                have b5c1 := blk_cell b5e 1 (.slice none 0 0) rfl
                have b5c2 := blk_cell b5e 2 (.slice none 0 0) rfl
                have b5c3 := blk_cell b5e 3 (.bool false) rfl
                have b5c4 := blk_cell b5e 4 (.slice none 0 0) rfl
                have b5c5 := blk_cell b5e 5 (.slice none 0 0) rfl
                have b5f0 := blk_frozen b5e 0
                have b5f1 := blk_frozen b5e 1
                have b5f2 := blk_frozen b5e 2
                have b5f3 := blk_frozen b5e 3
                have b5f4 := blk_frozen b5e 4
                have b5f5 := blk_frozen b5e 5
                have b5l := blk_lt b5e
                clear b5e
                go_simp
                refine hK.out _ _ ((((HS.out).st_RR 0 r30 r30 z45a z45b rfl)).erase 0) (fun hh => ?_)
                clear hK K b5c0 b5c1 b5c2 b5c3 b5c4 b5c5 b5f0 b5f1 b5f2 b5f3 b5f4 b5f5 b5l
                try simp only [nb1, nb2, nb3, Act.put, nb4, nb5, nb6]
                generalize hW56 : ((((((w45).setCell _ _).setCell _ _).setCell _ _).setCell _ _).setCell _ _).setCell _ _ = W56 at *
                replace HS : Hid (Sx w W56 [(w26.heap.size, arr6 z45a z45b, 55), (w14.heap.size, arr6 z14a z14b, 60), (w10.heap.size, arr6 z10a z10b, 55), (w.heap.size + 2, #[.int .i64 rn0, .int .i64 rd0, .int .i64 rn1, .int .i64 rd1], 49), (w.heap.size + 1, #[.int .i64 cn0, .int .i64 cd0, .int .i64 cn1, .int .i64 cd1], 49), (w.heap.size, #[.int .i64 tn0, .int .i64 td0, .int .i64 tn1, .int .i64 td1], 49)] [(true, z45b.val, st2), (true, z45a.val, st1), (true, z26b.val, rhi), (true, z26a.val, rlo), (true, z25b.val, chi), (true, z25a.val, clo), (false, z14b.val, ro2), (false, z14a.val, ro1), (false, z13b.val, thi), (false, z13a.val, tlo), (true, z10b.val, ro2), (true, z10a.val, ro1), (true, z9b.val, thi), (true, z9a.val, tlo)]) := by subst hW56; exact (HS.out).st_RR 0 r30 r30 z45a z45b rfl
                replace HMK : Hid (Below w2.heap.size w2 W56) := by subst hW56; exact Lib.hid (mk_set (mk_set (mk_set (mk_set (mk_set (mk_set HMK.out HG44.out) HG44.out) HG44.out) HG44.out) HG44.out) HG44.out)
                clear hW56
                refine tkA (i := 11) (v := ?vpr18_11_k58) rfl (Or.inl ⟨by first | rfl | kernel_rfl, ?hypr18_11_k58⟩) (by assumption) ?repr18_11_k58
                case hypr18_11_k58 => (intro u hSu; (first | (go_simp; done) | (go_simp; with_reducible rfl)))
                try simp only [nb1, nb2, nb3, Act.put, nb4, nb5, nb6]
                refine wpAnyH_done (by kernel_rfl) ?_ _
                go_wp2_with fail
                go_meet
                exact Lib.hid ⟨w26.heap.size, z45a, z45b, rfl, rfl, Lib.hid (((((((((((HS.out.bare).addP (HS.out.p 13 _ _ rfl)).addP (HS.out.p 12 _ _ rfl)).addP (HS.out.p 11 _ _ rfl)).addP (HS.out.p 10 _ _ rfl)).addQ (HS.out.q 9 _ _ rfl)).addQ (HS.out.q 8 _ _ rfl)).addQ (HS.out.q 7 _ _ rfl)).addQ (HS.out.q 6 _ _ rfl)).addP (HS.out.p 1 _ _ rfl)).addP (HS.out.p 0 _ _ rfl)), HMK, HG44⟩
              refine AllReadyH.cons rfl (fun K hK => ?_) AllReadyH.nil
              go_simp
              refine hK.out _ _ (Sx.below hh ((Below.refl _ _).alloc (Nat.le_refl _) _)) (fun hh => ?_)
              clear hK K
              try simp only [nb1, nb2, nb3, Act.put, nb4, nb5, nb6]
              have HG60 : Hid (w2.heap.size ≤ w25.heap.size) := by first | exact HMK.out.size | (show _ ≤ _; have := HMK.out.size; omega)
              generalize hW59 : (w25).alloc (.cells _ _) = W59 at *
              replace HS : Hid (Sx w W59 [(w25.heap.size, #[.bool false, .slice none 0 0, .slice none 0 0, .bool false, .slice none 0 0, .slice none 0 0], 55), (w14.heap.size, arr6 z14a z14b, 60), (w10.heap.size, arr6 z10a z10b, 55), (w.heap.size + 2, #[.int .i64 rn0, .int .i64 rd0, .int .i64 rn1, .int .i64 rd1], 49), (w.heap.size + 1, #[.int .i64 cn0, .int .i64 cd0, .int .i64 cn1, .int .i64 cd1], 49), (w.heap.size, #[.int .i64 tn0, .int .i64 td0, .int .i64 tn1, .int .i64 td1], 49)] [(true, z25b.val, chi), (true, z25a.val, clo), (false, z14b.val, ro2), (false, z14a.val, ro1), (false, z13b.val, thi), (false, z13a.val, tlo), (true, z10b.val, ro2), (true, z10a.val, ro1), (true, z9b.val, thi), (true, z9a.val, tlo)]) := by subst hW59; exact HS.out.alloc (B := w25.heap.size) rfl (by rfl)
              replace HMK : Hid (Below w2.heap.size w2 W59) := by subst hW59; exact Lib.hid (mk_alloc HMK.out)
              clear hW59
              refine rdA (i := 3) rfl (fun K hK => ?_)
              go_simp
              go_wp2_with (go_at_call 16; (with_reducible refine (HRPr.out _).mono ?_); rintro e w61 ⟨v61, rfl, ⟨z61a, z61b, rfl, hv61, hw61⟩, hb61⟩)
              refine hK.out _ _ (Sx.below hh hb61) (fun hh => ?_)
              clear hK K
              try simp only [nb1, nb2, nb3, Act.put, nb4, nb5, nb6]
              replace HS := Lib.hid (HS.out.below hb61)
              replace HMK := Lib.hid (ext_trans HMK.out hb61)
              clear hb61
              replace HS := Lib.hid (HS.out.addP hv61)
              clear hv61
              replace HS := Lib.hid (HS.out.addP hw61)
              clear hw61
              refine rdA (i := 5) rfl (fun K hK => ?_)
              go_simp
              have a63 := HS.out.p 3 _ _ rfl
              have a64 := HS.out.p 2 _ _ rfl
              have a65 := HS.out.p 1 _ _ rfl
              have a66 := HS.out.p 0 _ _ rfl
              go_wp2_with (go_at_call 19; (with_reducible refine (HSP.out _ _ _ (rngP a63 a64) (rngP a65 a66)).mono ?_); rintro e w62 ⟨v62, rfl, ⟨z62a, z62b, rfl, hv62, hw62⟩, hb62⟩)
              refine hK.out _ _ (Sx.below hh hb62) (fun hh => ?_)
              clear hK K
              try simp only [nb1, nb2, nb3, Act.put, nb4, nb5, nb6]
              replace HS := Lib.hid (HS.out.below hb62)
              replace HMK := Lib.hid (ext_trans HMK.out hb62)
              clear hb62 a63 a64 a65 a66
              replace HS := Lib.hid (HS.out.addP hv62)
              clear hv62
              replace HS := Lib.hid (HS.out.addP hw62)
              clear hw62
              refine tkA (i := 6) (v := ?vpr18_6_k68) rfl (Or.inl ⟨by first | rfl | kernel_rfl, ?hypr18_6_k68⟩) (by assumption) ?repr18_6_k68
              case hypr18_6_k68 => (intro u hSu; (first | (go_simp; done) | (go_simp; with_reducible rfl)))
              try simp only [nb1, nb2, nb3, Act.put, nb4, nb5, nb6]
              refine tkA (i := 7) (v := ?vpr18_7_k70) rfl (Or.inl ⟨by first | rfl | kernel_rfl, ?hypr18_7_k70⟩) (by assumption) ?repr18_7_k70
              case hypr18_7_k70 => (intro u hSu; (first | (go_simp; done) | (go_simp; with_reducible rfl)))
              try simp only [nb1, nb2, nb3, Act.put, nb4, nb5, nb6]
              refine tkA (i := 8) (v := ?vpr18_8_k72) rfl (Or.inl ⟨by first | rfl | kernel_rfl, ?hypr18_8_k72⟩) (by assumption) ?repr18_8_k72
              case hypr18_8_k72 => (intro u hSu; (first | (go_simp; done) | (go_simp; with_reducible rfl)))
              try simp only [nb1, nb2, nb3, Act.put, nb4, nb5, nb6]
              refine rdA (i := 10) rfl (fun K hK => ?_)
              have b5e := (HS.out.at 0 _ _ _ rfl)
              have b5c0 := blk_cell b5e 0 (.bool false) rfl
              have b5c1 := blk_cell b5e 1 (.slice none 0 0) rfl
              have b5c2 := blk_cell b5e 2 (.slice none 0 0) rfl
              have b5c3 := blk_cell b5e 3 (.bool false) rfl
              have b5c4 := blk_cell b5e 4 (.slice none 0 0) rfl
              have b5c5 := blk_cell b5e 5 (.slice none 0 0) rfl
              have b5f0 := blk_frozen b5e 0
              have b5f1 := blk_frozen b5e 1
              have b5f2 := blk_frozen b5e 2
              have b5f3 := blk_frozen b5e 3
              have b5f4 := blk_frozen b5e 4
              have b5f5 := blk_frozen b5e 5
              have b5l := blk_lt b5e
              clear b5e
              go_simp
              refine hK.out _ _ ((((HS.out).st_RR 0 r30 r30 z62a z62b rfl)).erase 0) (fun hh => ?_)
              clear hK K b5c0 b5c1 b5c2 b5c3 b5c4 b5c5 b5f0 b5f1 b5f2 b5f3 b5f4 b5f5 b5l
              try simp only [nb1, nb2, nb3, Act.put, nb4, nb5, nb6]
              generalize hW73 : ((((((w62).setCell _ _).setCell _ _).setCell _ _).setCell _ _).setCell _ _).setCell _ _ = W73 at *
              replace HS : Hid (Sx w W73 [(w25.heap.size, arr6 z62a z62b, 55), (w14.heap.size, arr6 z14a z14b, 60), (w10.heap.size, arr6 z10a z10b, 55), (w.heap.size + 2, #[.int .i64 rn0, .int .i64 rd0, .int .i64 rn1, .int .i64 rd1], 49), (w.heap.size + 1, #[.int .i64 cn0, .int .i64 cd0, .int .i64 cn1, .int .i64 cd1], 49), (w.heap.size, #[.int .i64 tn0, .int .i64 td0, .int .i64 tn1, .int .i64 td1], 49)] [(true, z62b.val, st2), (true, z62a.val, st1), (true, z61b.val, rhi), (true, z61a.val, rlo), (true, z25b.val, chi), (true, z25a.val, clo), (false, z14b.val, ro2), (false, z14a.val, ro1), (false, z13b.val, thi), (false, z13a.val, tlo), (true, z10b.val, ro2), (true, z10a.val, ro1), (true, z9b.val, thi), (true, z9a.val, tlo)]) := by subst hW73; exact (HS.out).st_RR 0 r30 r30 z62a z62b rfl
              replace HMK : Hid (Below w2.heap.size w2 W73) := by subst hW73; exact Lib.hid (mk_set (mk_set (mk_set (mk_set (mk_set (mk_set HMK.out HG60.out) HG60.out) HG60.out) HG60.out) HG60.out) HG60.out)
              clear hW73
              refine tkA (i := 11) (v := ?vpr18_11_k75) rfl (Or.inl ⟨by first | rfl | kernel_rfl, ?hypr18_11_k75⟩) (by assumption) ?repr18_11_k75
              case hypr18_11_k75 => (intro u hSu; (first | (go_simp; done) | (go_simp; with_reducible rfl)))
              try simp only [nb1, nb2, nb3, Act.put, nb4, nb5, nb6]
              refine wpAnyH_done (by kernel_rfl) ?_ _
              go_wp2_with fail
              go_meet
              exact Lib.hid ⟨w25.heap.size, z62a, z62b, rfl, rfl, Lib.hid (((((((((((HS.out.bare).addP (HS.out.p 13 _ _ rfl)).addP (HS.out.p 12 _ _ rfl)).addP (HS.out.p 11 _ _ rfl)).addP (HS.out.p 10 _ _ rfl)).addQ (HS.out.q 9 _ _ rfl)).addQ (HS.out.q 8 _ _ rfl)).addQ (HS.out.q 7 _ _ rfl)).addQ (HS.out.q 6 _ _ rfl)).addP (HS.out.p 1 _ _ rfl)).addP (HS.out.p 0 _ _ rfl)), HMK, HG60⟩
            refine AllReadyH.cons rfl (fun K hK => ?_) AllReadyH.nil
            go_simp
            refine hK.out _ _ (Sx.below hh ((Below.refl _ _).alloc (Nat.le_refl _) _)) (fun hh => ?_)
            clear hK K
            try simp only [nb1, nb2, nb3, Act.put, nb4, nb5, nb6]
            have HG77 : Hid (w2.heap.size ≤ W15.heap.size) := by first | exact HMK.out.size | (show _ ≤ _; have := HMK.out.size; omega)
            generalize hW76 : (W15.alloc (.cells _ _)).drew = W76 at *
            replace HS : Hid (Sx w W76 [(W15.heap.size, #[.bool false, .slice none 0 0, .slice none 0 0, .bool false, .slice none 0 0, .slice none 0 0], 55), (w14.heap.size, arr6 z14a z14b, 60), (w10.heap.size, arr6 z10a z10b, 55), (w.heap.size + 2, #[.int .i64 rn0, .int .i64 rd0, .int .i64 rn1, .int .i64 rd1], 49), (w.heap.size + 1, #[.int .i64 cn0, .int .i64 cd0, .int .i64 cn1, .int .i64 cd1], 49), (w.heap.size, #[.int .i64 tn0, .int .i64 td0, .int .i64 tn1, .int .i64 td1], 49)] [(false, z14b.val, ro2), (false, z14a.val, ro1), (false, z13b.val, thi), (false, z13a.val, tlo), (true, z10b.val, ro2), (true, z10a.val, ro1), (true, z9b.val, thi), (true, z9a.val, tlo)]) := by subst hW76; exact HS.out.alloc (B := W15.heap.size) rfl (by rfl)
            replace HMK : Hid (Below w2.heap.size w2 W76) := by subst hW76; exact Lib.hid (mk_alloc HMK.out)
            clear hW76
            refine rdA (i := 1) rfl (fun K hK => ?_)
            go_simp
            go_wp2_with (go_at_call 16; (with_reducible refine (HRPc.out _).mono ?_); rintro e w78 ⟨v78, rfl, ⟨z78a, z78b, rfl, hv78, hw78⟩, hb78⟩)
            refine hK.out _ _ (Sx.below hh hb78) (fun hh => ?_)
            clear hK K
            try simp only [nb1, nb2, nb3, Act.put, nb4, nb5, nb6]
            replace HS := Lib.hid (HS.out.below hb78)
            replace HMK := Lib.hid (ext_trans HMK.out hb78)
            clear hb78
            replace HS := Lib.hid (HS.out.addP hv78)
            clear hv78
            replace HS := Lib.hid (HS.out.addP hw78)
            clear hw78
            refine rdA (i := 3) rfl (fun K hK => ?_)
            go_simp
            go_wp2_with (go_at_call 16; (with_reducible refine (HRPr.out _).mono ?_); rintro e w79 ⟨v79, rfl, ⟨z79a, z79b, rfl, hv79, hw79⟩, hb79⟩)
            refine hK.out _ _ (Sx.below hh hb79) (fun hh => ?_)
            clear hK K
            try simp only [nb1, nb2, nb3, Act.put, nb4, nb5, nb6]
            replace HS := Lib.hid (HS.out.below hb79)
            replace HMK := Lib.hid (ext_trans HMK.out hb79)
            clear hb79
            replace HS := Lib.hid (HS.out.addP hv79)
            clear hv79
            replace HS := Lib.hid (HS.out.addP hw79)
            clear hw79
            refine rdA (i := 5) rfl (fun K hK => ?_)
            go_simp
            have a81 := HS.out.p 3 _ _ rfl
            have a82 := HS.out.p 2 _ _ rfl
            have a83 := HS.out.p 1 _ _ rfl
            have a84 := HS.out.p 0 _ _ rfl
            go_wp2_with (go_at_call 19; (with_reducible refine (HSP.out _ _ _ (rngP a81 a82) (rngP a83 a84)).mono ?_); rintro e w80 ⟨v80, rfl, ⟨z80a, z80b, rfl, hv80, hw80⟩, hb80⟩)
            refine hK.out _ _ (Sx.below hh hb80) (fun hh => ?_)
            clear hK K
            try simp only [nb1, nb2, nb3, Act.put, nb4, nb5, nb6]
            replace HS := Lib.hid (HS.out.below hb80)
            replace HMK := Lib.hid (ext_trans HMK.out hb80)
            clear hb80 a81 a82 a83 a84
            replace HS := Lib.hid (HS.out.addP hv80)
            clear hv80
            replace HS := Lib.hid (HS.out.addP hw80)
            clear hw80
            refine tkA (i := 6) (v := ?vpr18_6_k86) rfl (Or.inl ⟨by first | rfl | kernel_rfl, ?hypr18_6_k86⟩) (by assumption) ?repr18_6_k86
            case hypr18_6_k86 => (intro u hSu; (first | (go_simp; done) | (go_simp; with_reducible rfl)))
            try simp only [nb1, nb2, nb3, Act.put, nb4, nb5, nb6]
            refine tkA (i := 7) (v := ?vpr18_7_k88) rfl (Or.inl ⟨by first | rfl | kernel_rfl, ?hypr18_7_k88⟩) (by assumption) ?repr18_7_k88
            case hypr18_7_k88 => (intro u hSu; (first | (go_simp; done) | (go_simp; with_reducible rfl)))
            try simp only [nb1, nb2, nb3, Act.put, nb4, nb5, nb6]
            refine tkA (i := 8) (v := ?vpr18_8_k90) rfl (Or.inl ⟨by first | rfl | kernel_rfl, ?hypr18_8_k90⟩) (by assumption) ?repr18_8_k90
            case hypr18_8_k90 => (intro u hSu; (first | (go_simp; done) | (go_simp; with_reducible rfl)))
            try simp only [nb1, nb2, nb3, Act.put, nb4, nb5, nb6]
            refine rdA (i := 10) rfl (fun K hK => ?_)
            have b5e := (HS.out.at 0 _ _ _ rfl)
            have b5c0 := blk_cell b5e 0 (.bool false) rfl
            have b5c1 := blk_cell b5e 1 (.slice none 0 0) rfl
            have b5c2 := blk_cell b5e 2 (.slice none 0 0) rfl
            have b5c3 := blk_cell b5e 3 (.bool false) rfl
            have b5c4 := blk_cell b5e 4 (.slice none 0 0) rfl
            have b5c5 := blk_cell b5e 5 (.slice none 0 0) rfl
            have b5f0 := blk_frozen b5e 0
            have b5f1 := blk_frozen b5e 1
            have b5f2 := blk_frozen b5e 2
            have b5f3 := blk_frozen b5e 3
            have b5f4 := blk_frozen b5e 4
            have b5f5 := blk_frozen b5e 5
            have b5l := blk_lt b5e
            clear b5e
            go_simp
            refine hK.out _ _ ((((HS.out).st_RR 0 r30 r30 z80a z80b rfl)).erase 0) (fun hh => ?_)
            clear hK K b5c0 b5c1 b5c2 b5c3 b5c4 b5c5 b5f0 b5f1 b5f2 b5f3 b5f4 b5f5 b5l
            try simp only [nb1, nb2, nb3, Act.put, nb4, nb5, nb6]
            generalize hW91 : ((((((w80).setCell _ _).setCell _ _).setCell _ _).setCell _ _).setCell _ _).setCell _ _ = W91 at *
            replace HS : Hid (Sx w W91 [(W15.heap.size, arr6 z80a z80b, 55), (w14.heap.size, arr6 z14a z14b, 60), (w10.heap.size, arr6 z10a z10b, 55), (w.heap.size + 2, #[.int .i64 rn0, .int .i64 rd0, .int .i64 rn1, .int .i64 rd1], 49), (w.heap.size + 1, #[.int .i64 cn0, .int .i64 cd0, .int .i64 cn1, .int .i64 cd1], 49), (w.heap.size, #[.int .i64 tn0, .int .i64 td0, .int .i64 tn1, .int .i64 td1], 49)] [(true, z80b.val, st2), (true, z80a.val, st1), (true, z79b.val, rhi), (true, z79a.val, rlo), (true, z78b.val, chi), (true, z78a.val, clo), (false, z14b.val, ro2), (false, z14a.val, ro1), (false, z13b.val, thi), (false, z13a.val, tlo), (true, z10b.val, ro2), (true, z10a.val, ro1), (true, z9b.val, thi), (true, z9a.val, tlo)]) := by subst hW91; exact (HS.out).st_RR 0 r30 r30 z80a z80b rfl
            replace HMK : Hid (Below w2.heap.size w2 W91) := by subst hW91; exact Lib.hid (mk_set (mk_set (mk_set (mk_set (mk_set (mk_set HMK.out HG77.out) HG77.out) HG77.out) HG77.out) HG77.out) HG77.out)
            clear hW91
            refine tkA (i := 11) (v := ?vpr18_11_k93) rfl (Or.inl ⟨by first | rfl | kernel_rfl, ?hypr18_11_k93⟩) (by assumption) ?repr18_11_k93
            case hypr18_11_k93 => (intro u hSu; (first | (go_simp; done) | (go_simp; with_reducible rfl)))
            try simp only [nb1, nb2, nb3, Act.put, nb4, nb5, nb6]
            refine wpAnyH_done (by kernel_rfl) ?_ _
            go_wp2_with fail
            go_meet
            exact Lib.hid ⟨W15.heap.size, z80a, z80b, rfl, rfl, Lib.hid (((((((((((HS.out.bare).addP (HS.out.p 13 _ _ rfl)).addP (HS.out.p 12 _ _ rfl)).addP (HS.out.p 11 _ _ rfl)).addP (HS.out.p 10 _ _ rfl)).addQ (HS.out.q 9 _ _ rfl)).addQ (HS.out.q 8 _ _ rfl)).addQ (HS.out.q 7 _ _ rfl)).addQ (HS.out.q 6 _ _ rfl)).addP (HS.out.p 1 _ _ rfl)).addP (HS.out.p 0 _ _ rfl)), HMK, HG77⟩
          case rest =>
            clear HS HMK
            obtain ⟨B17_5, y17_0, y17_1, rfl, rfl, HS, HMK, HMKB17_5⟩ := hcut.out
            clear hcut
            obtain ⟨wk94, hwk94⟩ : ∃ z, z = wc := ⟨_, rfl⟩
            subst hwk94
            go_wp2_with fail
            go_cut [20, 21] from 69 to 77 (fun s20 s21 wx => Hid (∃ (B95_6 : Nat) (y95_0 y95_1 : R3), s20 = .pointer (some ⟨B95_6, 0, none⟩) ∧ s21 = .int .i64 st3 ∧ Hid (Sx w wx [(B95_6, arr6 y95_0 y95_1, 60), (B17_5, arr6 y17_0 y17_1, 55), (w14.heap.size, arr6 z14a z14b, 60), (w10.heap.size, arr6 z10a z10b, 55), (w.heap.size + 2, #[.int .i64 rn0, .int .i64 rd0, .int .i64 rn1, .int .i64 rd1], 49), (w.heap.size + 1, #[.int .i64 cn0, .int .i64 cd0, .int .i64 cn1, .int .i64 cd1], 49), (w.heap.size, #[.int .i64 tn0, .int .i64 td0, .int .i64 tn1, .int .i64 td1], 49)] [(false, y95_1.val, st2), (false, y95_0.val, st1), (true, y17_1.val, st2), (true, y17_0.val, st1), (false, z14b.val, ro2), (false, z14a.val, ro1), (false, z13b.val, thi), (false, z13a.val, tlo), (true, z10b.val, ro2), (true, z10a.val, ro1), (true, z9b.val, thi), (true, z9a.val, tlo)]) ∧ Hid (Below w2.heap.size w2 wx) ∧ Hid (w2.heap.size ≤ B95_6)))
            case first =>
              refine wp_region_held_drew (S := (fun w' => Sx w w' [(B17_5, arr6 y17_0 y17_1, 55), (w14.heap.size, arr6 z14a z14b, 60), (w10.heap.size, arr6 z10a z10b, 55), (w.heap.size + 2, #[.int .i64 rn0, .int .i64 rd0, .int .i64 rn1, .int .i64 rd1], 49), (w.heap.size + 1, #[.int .i64 cn0, .int .i64 cd0, .int .i64 cn1, .int .i64 cd1], 49), (w.heap.size, #[.int .i64 tn0, .int .i64 td0, .int .i64 tn1, .int .i64 td1], 49)] [])) (by kernel_rfl) ((HS.out.drew).bare) (fun hh => ?_)
              replace HS := Lib.hid HS.out.drew
              replace HMK := Lib.hid (ext_trans HMK.out (Below.refl _ _).drew)
              refine tkA (i := 0) (v := ?vpr96_0_k98) rfl (Or.inl ⟨by first | rfl | kernel_rfl, ?hypr96_0_k98⟩) (by assumption) ?repr96_0_k98
              case hypr96_0_k98 => (intro u hSu; (try dsimp only at hSu); have qb1e := (hSu.at 4 _ _ _ rfl); have qb1c0 := blk_cell qb1e 0 (.int .i64 cn0) rfl; have qb1c1 := blk_cell qb1e 1 (.int .i64 cd0) rfl; have qb1c2 := blk_cell qb1e 2 (.int .i64 cn1) rfl; have qb1c3 := blk_cell qb1e 3 (.int .i64 cd1) rfl; clear qb1e; clear hSu; (first | (go_simp; done) | (go_simp; with_reducible rfl)))
              try simp only [nb1, nb2, nb3, Act.put, nb4, nb5, nb6]
              refine tkA (i := 2) (v := ?vpr96_2_k100) rfl (Or.inl ⟨by first | rfl | kernel_rfl, ?hypr96_2_k100⟩) (by assumption) ?repr96_2_k100
              case hypr96_2_k100 => (intro u hSu; (try dsimp only at hSu); have qb2e := (hSu.at 3 _ _ _ rfl); have qb2c0 := blk_cell qb2e 0 (.int .i64 rn0) rfl; have qb2c1 := blk_cell qb2e 1 (.int .i64 rd0) rfl; have qb2c2 := blk_cell qb2e 2 (.int .i64 rn1) rfl; have qb2c3 := blk_cell qb2e 3 (.int .i64 rd1) rfl; clear qb2e; clear hSu; (first | (go_simp; done) | (go_simp; with_reducible rfl)))
              try simp only [nb1, nb2, nb3, Act.put, nb4, nb5, nb6]
              refine tkA (i := 4) (v := ?vpr96_4_k102) rfl (Or.inl ⟨by first | rfl | kernel_rfl, ?hypr96_4_k102⟩) (by assumption) ?repr96_4_k102
              case hypr96_4_k102 => (intro u hSu; (first | (go_simp; done) | (go_simp; with_reducible rfl)))
              try simp only [nb1, nb2, nb3, Act.put, nb4, nb5, nb6]
              refine wpAnyH_ready (rs := [1, 9]) (by kernel_rfl) (by simp) ?_
              refine AllReadyH.cons rfl (fun K hK => ?_) ?_
              ·
                go_simp
                go_wp2_with (go_at_call 18; (with_reducible refine (HRQc.out _).mono ?_); rintro e w103 ⟨v103, rfl, ⟨z103a, z103b, rfl, hv103, hw103⟩, hb103⟩)
                refine hK.out _ _ (Sx.below hh hb103) (fun hh => ?_)
                clear hK K
                try simp only [nb1, nb2, nb3, Act.put, nb4, nb5, nb6]
                replace HS := Lib.hid (HS.out.below hb103)
                replace HMK := Lib.hid (ext_trans HMK.out hb103)
                clear hb103
                replace HS := Lib.hid (HS.out.addQ hv103)
                clear hv103
                replace HS := Lib.hid (HS.out.addQ hw103)
                clear hw103
                refine wpAnyH_ready (rs := [3, 9]) (by kernel_rfl) (by simp) ?_
                refine AllReadyH.cons rfl (fun K hK => ?_) ?_
                ·
                  go_simp
                  go_wp2_with (go_at_call 18; (with_reducible refine (HRQr.out _).mono ?_); rintro e w104 ⟨v104, rfl, ⟨z104a, z104b, rfl, hv104, hw104⟩, hb104⟩)
                  refine hK.out _ _ (Sx.below hh hb104) (fun hh => ?_)
                  clear hK K
                  try simp only [nb1, nb2, nb3, Act.put, nb4, nb5, nb6]
                  replace HS := Lib.hid (HS.out.below hb104)
                  replace HMK := Lib.hid (ext_trans HMK.out hb104)
                  clear hb104
                  replace HS := Lib.hid (HS.out.addQ hv104)
                  clear hv104
                  replace HS := Lib.hid (HS.out.addQ hw104)
                  clear hw104
                  refine wpAnyH_ready (rs := [5, 9]) (by kernel_rfl) (by simp) ?_
                  refine AllReadyH.cons rfl (fun K hK => ?_) ?_
                  ·
                    go_simp
                    have a106 := HS.out.q 3 _ _ rfl
                    have a107 := HS.out.q 2 _ _ rfl
                    have a108 := HS.out.q 1 _ _ rfl
                    have a109 := HS.out.q 0 _ _ rfl
                    go_wp2_with (go_at_call 20; (with_reducible refine (HSQ.out _ _ _ (rngQ a106 a107) (rngQ a108 a109)).mono ?_); rintro e w105 ⟨v105, rfl, ⟨z105a, z105b, rfl, hv105, hw105⟩, hb105⟩)
                    refine hK.out _ _ (Sx.below hh hb105) (fun hh => ?_)
                    clear hK K
                    try simp only [nb1, nb2, nb3, Act.put, nb4, nb5, nb6]
                    replace HS := Lib.hid (HS.out.below hb105)
                    replace HMK := Lib.hid (ext_trans HMK.out hb105)
                    clear hb105 a106 a107 a108 a109
                    replace HS := Lib.hid (HS.out.addQ hv105)
                    clear hv105
                    replace HS := Lib.hid (HS.out.addQ hw105)
                    clear hw105
                    refine tkA (i := 6) (v := ?vpr96_6_k111) rfl (Or.inl ⟨by first | rfl | kernel_rfl, ?hypr96_6_k111⟩) (by assumption) ?repr96_6_k111
                    case hypr96_6_k111 => (intro u hSu; (first | (go_simp; done) | (go_simp; with_reducible rfl)))
                    try simp only [nb1, nb2, nb3, Act.put, nb4, nb5, nb6]
                    refine tkA (i := 7) (v := ?vpr96_7_k113) rfl (Or.inl ⟨by first | rfl | kernel_rfl, ?hypr96_7_k113⟩) (by assumption) ?repr96_7_k113
                    case hypr96_7_k113 => (intro u hSu; (first | (go_simp; done) | (go_simp; with_reducible rfl)))
                    try simp only [nb1, nb2, nb3, Act.put, nb4, nb5, nb6]
                    refine tkA (i := 8) (v := ?vpr96_8_k115) rfl (Or.inl ⟨by first | rfl | kernel_rfl, ?hypr96_8_k115⟩) (by assumption) ?repr96_8_k115
                    case hypr96_8_k115 => (intro u hSu; (first | (go_simp; done) | (go_simp; with_reducible rfl)))
                    try simp only [nb1, nb2, nb3, Act.put, nb4, nb5, nb6]
                    refine rdA (i := 9) rfl (fun K hK => ?_)
                    go_simp
                    refine hK.out _ _ (Sx.below hh ((Below.refl _ _).alloc (Nat.le_refl _) _)) (fun hh => ?_)
                    clear hK K
                    try simp only [nb1, nb2, nb3, Act.put, nb4, nb5, nb6]
                    have HG117 : Hid (w2.heap.size ≤ w105.heap.size) := by first | exact HMK.out.size | (show _ ≤ _; have := HMK.out.size; omega)
                    generalize hW116 : (w105).alloc (.cells _ _) = W116 at *
                    replace HS : Hid (Sx w W116 [(w105.heap.size, #[.bool false, .slice none 0 0, .slice none 0 0, .bool false, .slice none 0 0, .slice none 0 0], 60), (B17_5, arr6 y17_0 y17_1, 55), (w14.heap.size, arr6 z14a z14b, 60), (w10.heap.size, arr6 z10a z10b, 55), (w.heap.size + 2, #[.int .i64 rn0, .int .i64 rd0, .int .i64 rn1, .int .i64 rd1], 49), (w.heap.size + 1, #[.int .i64 cn0, .int .i64 cd0, .int .i64 cn1, .int .i64 cd1], 49), (w.heap.size, #[.int .i64 tn0, .int .i64 td0, .int .i64 tn1, .int .i64 td1], 49)] [(false, z105b.val, st2), (false, z105a.val, st1), (false, z104b.val, rhi), (false, z104a.val, rlo), (false, z103b.val, chi), (false, z103a.val, clo), (true, y17_1.val, st2), (true, y17_0.val, st1), (false, z14b.val, ro2), (false, z14a.val, ro1), (false, z13b.val, thi), (false, z13a.val, tlo), (true, z10b.val, ro2), (true, z10a.val, ro1), (true, z9b.val, thi), (true, z9a.val, tlo)]) := by subst hW116; exact HS.out.alloc (B := w105.heap.size) rfl (by rfl)
                    replace HMK : Hid (Below w2.heap.size w2 W116) := by subst hW116; exact Lib.hid (mk_alloc HMK.out)
                    clear hW116
                    refine rdA (i := 10) rfl (fun K hK => ?_)
                    have b6e := (HS.out.at 0 _ _ _ rfl)
                    have b6c0 := blk_cell b6e 0 (.bool false) rfl
                    have b6c1 := blk_cell b6e 1 (.slice none 0 0) rfl
                    have b6c2 := blk_cell b6e 2 (.slice none 0 0) rfl
                    have b6c3 := blk_cell b6e 3 (.bool false) rfl
                    have b6c4 := blk_cell b6e 4 (.slice none 0 0) rfl
                    have b6c5 := blk_cell b6e 5 (.slice none 0 0) rfl
                    have b6f0 := blk_frozen b6e 0
                    have b6f1 := blk_frozen b6e 1
                    have b6f2 := blk_frozen b6e 2
                    have b6f3 := blk_frozen b6e 3
                    have b6f4 := blk_frozen b6e 4
                    have b6f5 := blk_frozen b6e 5
                    have b6l := blk_lt b6e
                    clear b6e
                    go_simp
                    refine hK.out _ _ ((((HS.out).st_RR 0 r30 r30 z105a z105b rfl)).erase 0) (fun hh => ?_)
                    clear hK K b6c0 b6c1 b6c2 b6c3 b6c4 b6c5 b6f0 b6f1 b6f2 b6f3 b6f4 b6f5 b6l
                    try simp only [nb1, nb2, nb3, Act.put, nb4, nb5, nb6]
                    generalize hW118 : ((((((W116).setCell _ _).setCell _ _).setCell _ _).setCell _ _).setCell _ _).setCell _ _ = W118 at *
                    replace HS : Hid (Sx w W118 [(w105.heap.size, arr6 z105a z105b, 60), (B17_5, arr6 y17_0 y17_1, 55), (w14.heap.size, arr6 z14a z14b, 60), (w10.heap.size, arr6 z10a z10b, 55), (w.heap.size + 2, #[.int .i64 rn0, .int .i64 rd0, .int .i64 rn1, .int .i64 rd1], 49), (w.heap.size + 1, #[.int .i64 cn0, .int .i64 cd0, .int .i64 cn1, .int .i64 cd1], 49), (w.heap.size, #[.int .i64 tn0, .int .i64 td0, .int .i64 tn1, .int .i64 td1], 49)] [(false, z105b.val, st2), (false, z105a.val, st1), (false, z104b.val, rhi), (false, z104a.val, rlo), (false, z103b.val, chi), (false, z103a.val, clo), (true, y17_1.val, st2), (true, y17_0.val, st1), (false, z14b.val, ro2), (false, z14a.val, ro1), (false, z13b.val, thi), (false, z13a.val, tlo), (true, z10b.val, ro2), (true, z10a.val, ro1), (true, z9b.val, thi), (true, z9a.val, tlo)]) := by subst hW118; exact (HS.out).st_RR 0 r30 r30 z105a z105b rfl
                    replace HMK : Hid (Below w2.heap.size w2 W118) := by subst hW118; exact Lib.hid (mk_set (mk_set (mk_set (mk_set (mk_set (mk_set HMK.out HG117.out) HG117.out) HG117.out) HG117.out) HG117.out) HG117.out)
                    clear hW118
                    refine tkA (i := 11) (v := ?vpr96_11_k120) rfl (Or.inl ⟨by first | rfl | kernel_rfl, ?hypr96_11_k120⟩) (by assumption) ?repr96_11_k120
                    case hypr96_11_k120 => (intro u hSu; (first | (go_simp; done) | (go_simp; with_reducible rfl)))
                    try simp only [nb1, nb2, nb3, Act.put, nb4, nb5, nb6]
                    refine wpAnyH_done (by kernel_rfl) ?_ _
                    go_wp2_with fail
                    go_meet
                    exact Lib.hid ⟨w105.heap.size, z105a, z105b, rfl, rfl, Lib.hid (((((((((((((HS.out.bare).addP (HS.out.p 15 _ _ rfl)).addP (HS.out.p 14 _ _ rfl)).addP (HS.out.p 13 _ _ rfl)).addP (HS.out.p 12 _ _ rfl)).addQ (HS.out.q 11 _ _ rfl)).addQ (HS.out.q 10 _ _ rfl)).addQ (HS.out.q 9 _ _ rfl)).addQ (HS.out.q 8 _ _ rfl)).addP (HS.out.p 7 _ _ rfl)).addP (HS.out.p 6 _ _ rfl)).addQ (HS.out.q 1 _ _ rfl)).addQ (HS.out.q 0 _ _ rfl)), HMK, HG117⟩
                  refine AllReadyH.cons rfl (fun K hK => ?_) AllReadyH.nil
                  go_simp
                  refine hK.out _ _ (Sx.below hh ((Below.refl _ _).alloc (Nat.le_refl _) _)) (fun hh => ?_)
                  clear hK K
                  try simp only [nb1, nb2, nb3, Act.put, nb4, nb5, nb6]
                  have HG122 : Hid (w2.heap.size ≤ w104.heap.size) := by first | exact HMK.out.size | (show _ ≤ _; have := HMK.out.size; omega)
                  generalize hW121 : (w104).alloc (.cells _ _) = W121 at *
                  replace HS : Hid (Sx w W121 [(w104.heap.size, #[.bool false, .slice none 0 0, .slice none 0 0, .bool false, .slice none 0 0, .slice none 0 0], 60), (B17_5, arr6 y17_0 y17_1, 55), (w14.heap.size, arr6 z14a z14b, 60), (w10.heap.size, arr6 z10a z10b, 55), (w.heap.size + 2, #[.int .i64 rn0, .int .i64 rd0, .int .i64 rn1, .int .i64 rd1], 49), (w.heap.size + 1, #[.int .i64 cn0, .int .i64 cd0, .int .i64 cn1, .int .i64 cd1], 49), (w.heap.size, #[.int .i64 tn0, .int .i64 td0, .int .i64 tn1, .int .i64 td1], 49)] [(false, z104b.val, rhi), (false, z104a.val, rlo), (false, z103b.val, chi), (false, z103a.val, clo), (true, y17_1.val, st2), (true, y17_0.val, st1), (false, z14b.val, ro2), (false, z14a.val, ro1), (false, z13b.val, thi), (false, z13a.val, tlo), (true, z10b.val, ro2), (true, z10a.val, ro1), (true, z9b.val, thi), (true, z9a.val, tlo)]) := by subst hW121; exact HS.out.alloc (B := w104.heap.size) rfl (by rfl)
                  replace HMK : Hid (Below w2.heap.size w2 W121) := by subst hW121; exact Lib.hid (mk_alloc HMK.out)
                  clear hW121
                  refine rdA (i := 5) rfl (fun K hK => ?_)
                  go_simp
                  have a124 := HS.out.q 3 _ _ rfl
                  have a125 := HS.out.q 2 _ _ rfl
                  have a126 := HS.out.q 1 _ _ rfl
                  have a127 := HS.out.q 0 _ _ rfl
                  go_wp2_with (go_at_call 20; (with_reducible refine (HSQ.out _ _ _ (rngQ a124 a125) (rngQ a126 a127)).mono ?_); rintro e w123 ⟨v123, rfl, ⟨z123a, z123b, rfl, hv123, hw123⟩, hb123⟩)
                  refine hK.out _ _ (Sx.below hh hb123) (fun hh => ?_)
                  clear hK K
                  try simp only [nb1, nb2, nb3, Act.put, nb4, nb5, nb6]
                  replace HS := Lib.hid (HS.out.below hb123)
                  replace HMK := Lib.hid (ext_trans HMK.out hb123)
                  clear hb123 a124 a125 a126 a127
                  replace HS := Lib.hid (HS.out.addQ hv123)
                  clear hv123
                  replace HS := Lib.hid (HS.out.addQ hw123)
                  clear hw123
                  refine tkA (i := 6) (v := ?vpr96_6_k129) rfl (Or.inl ⟨by first | rfl | kernel_rfl, ?hypr96_6_k129⟩) (by assumption) ?repr96_6_k129
                  case hypr96_6_k129 => (intro u hSu; (first | (go_simp; done) | (go_simp; with_reducible rfl)))
                  try simp only [nb1, nb2, nb3, Act.put, nb4, nb5, nb6]
                  refine tkA (i := 7) (v := ?vpr96_7_k131) rfl (Or.inl ⟨by first | rfl | kernel_rfl, ?hypr96_7_k131⟩) (by assumption) ?repr96_7_k131
                  case hypr96_7_k131 => (intro u hSu; (first | (go_simp; done) | (go_simp; with_reducible rfl)))
                  try simp only [nb1, nb2, nb3, Act.put, nb4, nb5, nb6]
                  refine tkA (i := 8) (v := ?vpr96_8_k133) rfl (Or.inl ⟨by first | rfl | kernel_rfl, ?hypr96_8_k133⟩) (by assumption) ?repr96_8_k133
                  case hypr96_8_k133 => (intro u hSu; (first | (go_simp; done) | (go_simp; with_reducible rfl)))
                  try simp only [nb1, nb2, nb3, Act.put, nb4, nb5, nb6]
                  refine rdA (i := 10) rfl (fun K hK => ?_)
                  have b6e := (HS.out.at 0 _ _ _ rfl)
                  have b6c0 := blk_cell b6e 0 (.bool false) rfl
                  have b6c1 := blk_cell b6e 1 (.slice none 0 0) rfl
                  have b6c2 := blk_cell b6e 2 (.slice none 0 0) rfl
                  have b6c3 := blk_cell b6e 3 (.bool false) rfl
                  have b6c4 := blk_cell b6e 4 (.slice none 0 0) rfl
                  have b6c5 := blk_cell b6e 5 (.slice none 0 0) rfl
                  have b6f0 := blk_frozen b6e 0
                  have b6f1 := blk_frozen b6e 1
                  have b6f2 := blk_frozen b6e 2
                  have b6f3 := blk_frozen b6e 3
                  have b6f4 := blk_frozen b6e 4
                  have b6f5 := blk_frozen b6e 5
                  have b6l := blk_lt b6e
                  clear b6e
                  go_simp
                  refine hK.out _ _ ((((HS.out).st_RR 0 r30 r30 z123a z123b rfl)).erase 0) (fun hh => ?_)
                  clear hK K b6c0 b6c1 b6c2 b6c3 b6c4 b6c5 b6f0 b6f1 b6f2 b6f3 b6f4 b6f5 b6l
                  try simp only [nb1, nb2, nb3, Act.put, nb4, nb5, nb6]
                  generalize hW134 : ((((((w123).setCell _ _).setCell _ _).setCell _ _).setCell _ _).setCell _ _).setCell _ _ = W134 at *
                  replace HS : Hid (Sx w W134 [(w104.heap.size, arr6 z123a z123b, 60), (B17_5, arr6 y17_0 y17_1, 55), (w14.heap.size, arr6 z14a z14b, 60), (w10.heap.size, arr6 z10a z10b, 55), (w.heap.size + 2, #[.int .i64 rn0, .int .i64 rd0, .int .i64 rn1, .int .i64 rd1], 49), (w.heap.size + 1, #[.int .i64 cn0, .int .i64 cd0, .int .i64 cn1, .int .i64 cd1], 49), (w.heap.size, #[.int .i64 tn0, .int .i64 td0, .int .i64 tn1, .int .i64 td1], 49)] [(false, z123b.val, st2), (false, z123a.val, st1), (false, z104b.val, rhi), (false, z104a.val, rlo), (false, z103b.val, chi), (false, z103a.val, clo), (true, y17_1.val, st2), (true, y17_0.val, st1), (false, z14b.val, ro2), (false, z14a.val, ro1), (false, z13b.val, thi), (false, z13a.val, tlo), (true, z10b.val, ro2), (true, z10a.val, ro1), (true, z9b.val, thi), (true, z9a.val, tlo)]) := by subst hW134; exact (HS.out).st_RR 0 r30 r30 z123a z123b rfl
                  replace HMK : Hid (Below w2.heap.size w2 W134) := by subst hW134; exact Lib.hid (mk_set (mk_set (mk_set (mk_set (mk_set (mk_set HMK.out HG122.out) HG122.out) HG122.out) HG122.out) HG122.out) HG122.out)
                  clear hW134
                  refine tkA (i := 11) (v := ?vpr96_11_k136) rfl (Or.inl ⟨by first | rfl | kernel_rfl, ?hypr96_11_k136⟩) (by assumption) ?repr96_11_k136
                  case hypr96_11_k136 => (intro u hSu; (first | (go_simp; done) | (go_simp; with_reducible rfl)))
                  try simp only [nb1, nb2, nb3, Act.put, nb4, nb5, nb6]
                  refine wpAnyH_done (by kernel_rfl) ?_ _
                  go_wp2_with fail
                  go_meet
                  exact Lib.hid ⟨w104.heap.size, z123a, z123b, rfl, rfl, Lib.hid (((((((((((((HS.out.bare).addP (HS.out.p 15 _ _ rfl)).addP (HS.out.p 14 _ _ rfl)).addP (HS.out.p 13 _ _ rfl)).addP (HS.out.p 12 _ _ rfl)).addQ (HS.out.q 11 _ _ rfl)).addQ (HS.out.q 10 _ _ rfl)).addQ (HS.out.q 9 _ _ rfl)).addQ (HS.out.q 8 _ _ rfl)).addP (HS.out.p 7 _ _ rfl)).addP (HS.out.p 6 _ _ rfl)).addQ (HS.out.q 1 _ _ rfl)).addQ (HS.out.q 0 _ _ rfl)), HMK, HG122⟩
                refine AllReadyH.cons rfl (fun K hK => ?_) AllReadyH.nil
                go_simp
                refine hK.out _ _ (Sx.below hh ((Below.refl _ _).alloc (Nat.le_refl _) _)) (fun hh => ?_)
                clear hK K
                try simp only [nb1, nb2, nb3, Act.put, nb4, nb5, nb6]
                have HG138 : Hid (w2.heap.size ≤ w103.heap.size) := by first | exact HMK.out.size | (show _ ≤ _; have := HMK.out.size; omega)
                generalize hW137 : (w103).alloc (.cells _ _) = W137 at *
                replace HS : Hid (Sx w W137 [(w103.heap.size, #[.bool false, .slice none 0 0, .slice none 0 0, .bool false, .slice none 0 0, .slice none 0 0], 60), (B17_5, arr6 y17_0 y17_1, 55), (w14.heap.size, arr6 z14a z14b, 60), (w10.heap.size, arr6 z10a z10b, 55), (w.heap.size + 2, #[.int .i64 rn0, .int .i64 rd0, .int .i64 rn1, .int .i64 rd1], 49), (w.heap.size + 1, #[.int .i64 cn0, .int .i64 cd0, .int .i64 cn1, .int .i64 cd1], 49), (w.heap.size, #[.int .i64 tn0, .int .i64 td0, .int .i64 tn1, .int .i64 td1], 49)] [(false, z103b.val, chi), (false, z103a.val, clo), (true, y17_1.val, st2), (true, y17_0.val, st1), (false, z14b.val, ro2), (false, z14a.val, ro1), (false, z13b.val, thi), (false, z13a.val, tlo), (true, z10b.val, ro2), (true, z10a.val, ro1), (true, z9b.val, thi), (true, z9a.val, tlo)]) := by subst hW137; exact HS.out.alloc (B := w103.heap.size) rfl (by rfl)
                replace HMK : Hid (Below w2.heap.size w2 W137) := by subst hW137; exact Lib.hid (mk_alloc HMK.out)
                clear hW137
                refine rdA (i := 3) rfl (fun K hK => ?_)
                go_simp
                go_wp2_with (go_at_call 18; (with_reducible refine (HRQr.out _).mono ?_); rintro e w139 ⟨v139, rfl, ⟨z139a, z139b, rfl, hv139, hw139⟩, hb139⟩)
                refine hK.out _ _ (Sx.below hh hb139) (fun hh => ?_)
                clear hK K
                try simp only [nb1, nb2, nb3, Act.put, nb4, nb5, nb6]
                replace HS := Lib.hid (HS.out.below hb139)
                replace HMK := Lib.hid (ext_trans HMK.out hb139)
                clear hb139
                replace HS := Lib.hid (HS.out.addQ hv139)
                clear hv139
                replace HS := Lib.hid (HS.out.addQ hw139)
                clear hw139
                refine rdA (i := 5) rfl (fun K hK => ?_)
                go_simp
                have a141 := HS.out.q 3 _ _ rfl
                have a142 := HS.out.q 2 _ _ rfl
                have a143 := HS.out.q 1 _ _ rfl
                have a144 := HS.out.q 0 _ _ rfl
                go_wp2_with (go_at_call 20; (with_reducible refine (HSQ.out _ _ _ (rngQ a141 a142) (rngQ a143 a144)).mono ?_); rintro e w140 ⟨v140, rfl, ⟨z140a, z140b, rfl, hv140, hw140⟩, hb140⟩)
                refine hK.out _ _ (Sx.below hh hb140) (fun hh => ?_)
                clear hK K
                try simp only [nb1, nb2, nb3, Act.put, nb4, nb5, nb6]
                replace HS := Lib.hid (HS.out.below hb140)
                replace HMK := Lib.hid (ext_trans HMK.out hb140)
                clear hb140 a141 a142 a143 a144
                replace HS := Lib.hid (HS.out.addQ hv140)
                clear hv140
                replace HS := Lib.hid (HS.out.addQ hw140)
                clear hw140
                refine tkA (i := 6) (v := ?vpr96_6_k146) rfl (Or.inl ⟨by first | rfl | kernel_rfl, ?hypr96_6_k146⟩) (by assumption) ?repr96_6_k146
                case hypr96_6_k146 => (intro u hSu; (first | (go_simp; done) | (go_simp; with_reducible rfl)))
                try simp only [nb1, nb2, nb3, Act.put, nb4, nb5, nb6]
                refine tkA (i := 7) (v := ?vpr96_7_k148) rfl (Or.inl ⟨by first | rfl | kernel_rfl, ?hypr96_7_k148⟩) (by assumption) ?repr96_7_k148
                case hypr96_7_k148 => (intro u hSu; (first | (go_simp; done) | (go_simp; with_reducible rfl)))
                try simp only [nb1, nb2, nb3, Act.put, nb4, nb5, nb6]
                refine tkA (i := 8) (v := ?vpr96_8_k150) rfl (Or.inl ⟨by first | rfl | kernel_rfl, ?hypr96_8_k150⟩) (by assumption) ?repr96_8_k150
                case hypr96_8_k150 => (intro u hSu; (first | (go_simp; done) | (go_simp; with_reducible rfl)))
                try simp only [nb1, nb2, nb3, Act.put, nb4, nb5, nb6]
                refine rdA (i := 10) rfl (fun K hK => ?_)
                have b6e := (HS.out.at 0 _ _ _ rfl)
                have b6c0 := blk_cell b6e 0 (.bool false) rfl
                have b6c1 := blk_cell b6e 1 (.slice none 0 0) rfl
                have b6c2 := blk_cell b6e 2 (.slice none 0 0) rfl
                have b6c3 := blk_cell b6e 3 (.bool false) rfl
                have b6c4 := blk_cell b6e 4 (.slice none 0 0) rfl
                have b6c5 := blk_cell b6e 5 (.slice none 0 0) rfl
                have b6f0 := blk_frozen b6e 0
                have b6f1 := blk_frozen b6e 1
                have b6f2 := blk_frozen b6e 2
                have b6f3 := blk_frozen b6e 3
                have b6f4 := blk_frozen b6e 4
                have b6f5 := blk_frozen b6e 5
                have b6l := blk_lt b6e
                clear b6e
                go_simp
                refine hK.out _ _ ((((HS.out).st_RR 0 r30 r30 z140a z140b rfl)).erase 0) (fun hh => ?_)
                clear hK K b6c0 b6c1 b6c2 b6c3 b6c4 b6c5 b6f0 b6f1 b6f2 b6f3 b6f4 b6f5 b6l
                try simp only [nb1, nb2, nb3, Act.put, nb4, nb5, nb6]
                generalize hW151 : ((((((w140).setCell _ _).setCell _ _).setCell _ _).setCell _ _).setCell _ _).setCell _ _ = W151 at *
                replace HS : Hid (Sx w W151 [(w103.heap.size, arr6 z140a z140b, 60), (B17_5, arr6 y17_0 y17_1, 55), (w14.heap.size, arr6 z14a z14b, 60), (w10.heap.size, arr6 z10a z10b, 55), (w.heap.size + 2, #[.int .i64 rn0, .int .i64 rd0, .int .i64 rn1, .int .i64 rd1], 49), (w.heap.size + 1, #[.int .i64 cn0, .int .i64 cd0, .int .i64 cn1, .int .i64 cd1], 49), (w.heap.size, #[.int .i64 tn0, .int .i64 td0, .int .i64 tn1, .int .i64 td1], 49)] [(false, z140b.val, st2), (false, z140a.val, st1), (false, z139b.val, rhi), (false, z139a.val, rlo), (false, z103b.val, chi), (false, z103a.val, clo), (true, y17_1.val, st2), (true, y17_0.val, st1), (false, z14b.val, ro2), (false, z14a.val, ro1), (false, z13b.val, thi), (false, z13a.val, tlo), (true, z10b.val, ro2), (true, z10a.val, ro1), (true, z9b.val, thi), (true, z9a.val, tlo)]) := by subst hW151; exact (HS.out).st_RR 0 r30 r30 z140a z140b rfl
                replace HMK : Hid (Below w2.heap.size w2 W151) := by subst hW151; exact Lib.hid (mk_set (mk_set (mk_set (mk_set (mk_set (mk_set HMK.out HG138.out) HG138.out) HG138.out) HG138.out) HG138.out) HG138.out)
                clear hW151
                refine tkA (i := 11) (v := ?vpr96_11_k153) rfl (Or.inl ⟨by first | rfl | kernel_rfl, ?hypr96_11_k153⟩) (by assumption) ?repr96_11_k153
                case hypr96_11_k153 => (intro u hSu; (first | (go_simp; done) | (go_simp; with_reducible rfl)))
                try simp only [nb1, nb2, nb3, Act.put, nb4, nb5, nb6]
                refine wpAnyH_done (by kernel_rfl) ?_ _
                go_wp2_with fail
                go_meet
                exact Lib.hid ⟨w103.heap.size, z140a, z140b, rfl, rfl, Lib.hid (((((((((((((HS.out.bare).addP (HS.out.p 15 _ _ rfl)).addP (HS.out.p 14 _ _ rfl)).addP (HS.out.p 13 _ _ rfl)).addP (HS.out.p 12 _ _ rfl)).addQ (HS.out.q 11 _ _ rfl)).addQ (HS.out.q 10 _ _ rfl)).addQ (HS.out.q 9 _ _ rfl)).addQ (HS.out.q 8 _ _ rfl)).addP (HS.out.p 7 _ _ rfl)).addP (HS.out.p 6 _ _ rfl)).addQ (HS.out.q 1 _ _ rfl)).addQ (HS.out.q 0 _ _ rfl)), HMK, HG138⟩
              refine AllReadyH.cons rfl (fun K hK => ?_) AllReadyH.nil
              go_simp
              refine hK.out _ _ (Sx.below hh ((Below.refl _ _).alloc (Nat.le_refl _) _)) (fun hh => ?_)
              clear hK K
              try simp only [nb1, nb2, nb3, Act.put, nb4, nb5, nb6]
              have HG155 : Hid (w2.heap.size ≤ wk94.heap.size) := by first | exact HMK.out.size | (show _ ≤ _; have := HMK.out.size; omega)
              generalize hW154 : (wk94.alloc (.cells _ _)).drew = W154 at *
              replace HS : Hid (Sx w W154 [(wk94.heap.size, #[.bool false, .slice none 0 0, .slice none 0 0, .bool false, .slice none 0 0, .slice none 0 0], 60), (B17_5, arr6 y17_0 y17_1, 55), (w14.heap.size, arr6 z14a z14b, 60), (w10.heap.size, arr6 z10a z10b, 55), (w.heap.size + 2, #[.int .i64 rn0, .int .i64 rd0, .int .i64 rn1, .int .i64 rd1], 49), (w.heap.size + 1, #[.int .i64 cn0, .int .i64 cd0, .int .i64 cn1, .int .i64 cd1], 49), (w.heap.size, #[.int .i64 tn0, .int .i64 td0, .int .i64 tn1, .int .i64 td1], 49)] [(true, y17_1.val, st2), (true, y17_0.val, st1), (false, z14b.val, ro2), (false, z14a.val, ro1), (false, z13b.val, thi), (false, z13a.val, tlo), (true, z10b.val, ro2), (true, z10a.val, ro1), (true, z9b.val, thi), (true, z9a.val, tlo)]) := by subst hW154; exact HS.out.alloc (B := wk94.heap.size) rfl (by rfl)
              replace HMK : Hid (Below w2.heap.size w2 W154) := by subst hW154; exact Lib.hid (mk_alloc HMK.out)
              clear hW154
              refine rdA (i := 1) rfl (fun K hK => ?_)
              go_simp
              go_wp2_with (go_at_call 18; (with_reducible refine (HRQc.out _).mono ?_); rintro e w156 ⟨v156, rfl, ⟨z156a, z156b, rfl, hv156, hw156⟩, hb156⟩)
              refine hK.out _ _ (Sx.below hh hb156) (fun hh => ?_)
              clear hK K
              try simp only [nb1, nb2, nb3, Act.put, nb4, nb5, nb6]
              replace HS := Lib.hid (HS.out.below hb156)
              replace HMK := Lib.hid (ext_trans HMK.out hb156)
              clear hb156
              replace HS := Lib.hid (HS.out.addQ hv156)
              clear hv156
              replace HS := Lib.hid (HS.out.addQ hw156)
              clear hw156
              refine rdA (i := 3) rfl (fun K hK => ?_)
              go_simp
              go_wp2_with (go_at_call 18; (with_reducible refine (HRQr.out _).mono ?_); rintro e w157 ⟨v157, rfl, ⟨z157a, z157b, rfl, hv157, hw157⟩, hb157⟩)
              refine hK.out _ _ (Sx.below hh hb157) (fun hh => ?_)
              clear hK K
              try simp only [nb1, nb2, nb3, Act.put, nb4, nb5, nb6]
              replace HS := Lib.hid (HS.out.below hb157)
              replace HMK := Lib.hid (ext_trans HMK.out hb157)
              clear hb157
              replace HS := Lib.hid (HS.out.addQ hv157)
              clear hv157
              replace HS := Lib.hid (HS.out.addQ hw157)
              clear hw157
              refine rdA (i := 5) rfl (fun K hK => ?_)
              go_simp
              have a159 := HS.out.q 3 _ _ rfl
              have a160 := HS.out.q 2 _ _ rfl
              have a161 := HS.out.q 1 _ _ rfl
              have a162 := HS.out.q 0 _ _ rfl
              go_wp2_with (go_at_call 20; (with_reducible refine (HSQ.out _ _ _ (rngQ a159 a160) (rngQ a161 a162)).mono ?_); rintro e w158 ⟨v158, rfl, ⟨z158a, z158b, rfl, hv158, hw158⟩, hb158⟩)
              refine hK.out _ _ (Sx.below hh hb158) (fun hh => ?_)
              clear hK K
              try simp only [nb1, nb2, nb3, Act.put, nb4, nb5, nb6]
              replace HS := Lib.hid (HS.out.below hb158)
              replace HMK := Lib.hid (ext_trans HMK.out hb158)
              clear hb158 a159 a160 a161 a162
              replace HS := Lib.hid (HS.out.addQ hv158)
              clear hv158
              replace HS := Lib.hid (HS.out.addQ hw158)
              clear hw158
              refine tkA (i := 6) (v := ?vpr96_6_k164) rfl (Or.inl ⟨by first | rfl | kernel_rfl, ?hypr96_6_k164⟩) (by assumption) ?repr96_6_k164
              case hypr96_6_k164 => (intro u hSu; (first | (go_simp; done) | (go_simp; with_reducible rfl)))
              try simp only [nb1, nb2, nb3, Act.put, nb4, nb5, nb6]
              refine tkA (i := 7) (v := ?vpr96_7_k166) rfl (Or.inl ⟨by first | rfl | kernel_rfl, ?hypr96_7_k166⟩) (by assumption) ?repr96_7_k166
              case hypr96_7_k166 => (intro u hSu; (first | (go_simp; done) | (go_simp; with_reducible rfl)))
              try simp only [nb1, nb2, nb3, Act.put, nb4, nb5, nb6]
              refine tkA (i := 8) (v := ?vpr96_8_k168) rfl (Or.inl ⟨by first | rfl | kernel_rfl, ?hypr96_8_k168⟩) (by assumption) ?repr96_8_k168
              case hypr96_8_k168 => (intro u hSu; (first | (go_simp; done) | (go_simp; with_reducible rfl)))
              try simp only [nb1, nb2, nb3, Act.put, nb4, nb5, nb6]
              refine rdA (i := 10) rfl (fun K hK => ?_)
              have b6e := (HS.out.at 0 _ _ _ rfl)
              have b6c0 := blk_cell b6e 0 (.bool false) rfl
              have b6c1 := blk_cell b6e 1 (.slice none 0 0) rfl
              have b6c2 := blk_cell b6e 2 (.slice none 0 0) rfl
              have b6c3 := blk_cell b6e 3 (.bool false) rfl
              have b6c4 := blk_cell b6e 4 (.slice none 0 0) rfl
              have b6c5 := blk_cell b6e 5 (.slice none 0 0) rfl
              have b6f0 := blk_frozen b6e 0
              have b6f1 := blk_frozen b6e 1
              have b6f2 := blk_frozen b6e 2
              have b6f3 := blk_frozen b6e 3
              have b6f4 := blk_frozen b6e 4
              have b6f5 := blk_frozen b6e 5
              have b6l := blk_lt b6e
              clear b6e
              go_simp
              refine hK.out _ _ ((((HS.out).st_RR 0 r30 r30 z158a z158b rfl)).erase 0) (fun hh => ?_)
              clear hK K b6c0 b6c1 b6c2 b6c3 b6c4 b6c5 b6f0 b6f1 b6f2 b6f3 b6f4 b6f5 b6l
              try simp only [nb1, nb2, nb3, Act.put, nb4, nb5, nb6]
              generalize hW169 : ((((((w158).setCell _ _).setCell _ _).setCell _ _).setCell _ _).setCell _ _).setCell _ _ = W169 at *
              replace HS : Hid (Sx w W169 [(wk94.heap.size, arr6 z158a z158b, 60), (B17_5, arr6 y17_0 y17_1, 55), (w14.heap.size, arr6 z14a z14b, 60), (w10.heap.size, arr6 z10a z10b, 55), (w.heap.size + 2, #[.int .i64 rn0, .int .i64 rd0, .int .i64 rn1, .int .i64 rd1], 49), (w.heap.size + 1, #[.int .i64 cn0, .int .i64 cd0, .int .i64 cn1, .int .i64 cd1], 49), (w.heap.size, #[.int .i64 tn0, .int .i64 td0, .int .i64 tn1, .int .i64 td1], 49)] [(false, z158b.val, st2), (false, z158a.val, st1), (false, z157b.val, rhi), (false, z157a.val, rlo), (false, z156b.val, chi), (false, z156a.val, clo), (true, y17_1.val, st2), (true, y17_0.val, st1), (false, z14b.val, ro2), (false, z14a.val, ro1), (false, z13b.val, thi), (false, z13a.val, tlo), (true, z10b.val, ro2), (true, z10a.val, ro1), (true, z9b.val, thi), (true, z9a.val, tlo)]) := by subst hW169; exact (HS.out).st_RR 0 r30 r30 z158a z158b rfl
              replace HMK : Hid (Below w2.heap.size w2 W169) := by subst hW169; exact Lib.hid (mk_set (mk_set (mk_set (mk_set (mk_set (mk_set HMK.out HG155.out) HG155.out) HG155.out) HG155.out) HG155.out) HG155.out)
              clear hW169
              refine tkA (i := 11) (v := ?vpr96_11_k171) rfl (Or.inl ⟨by first | rfl | kernel_rfl, ?hypr96_11_k171⟩) (by assumption) ?repr96_11_k171
              case hypr96_11_k171 => (intro u hSu; (first | (go_simp; done) | (go_simp; with_reducible rfl)))
              try simp only [nb1, nb2, nb3, Act.put, nb4, nb5, nb6]
              refine wpAnyH_done (by kernel_rfl) ?_ _
              go_wp2_with fail
              go_meet
              exact Lib.hid ⟨wk94.heap.size, z158a, z158b, rfl, rfl, Lib.hid (((((((((((((HS.out.bare).addP (HS.out.p 15 _ _ rfl)).addP (HS.out.p 14 _ _ rfl)).addP (HS.out.p 13 _ _ rfl)).addP (HS.out.p 12 _ _ rfl)).addQ (HS.out.q 11 _ _ rfl)).addQ (HS.out.q 10 _ _ rfl)).addQ (HS.out.q 9 _ _ rfl)).addQ (HS.out.q 8 _ _ rfl)).addP (HS.out.p 7 _ _ rfl)).addP (HS.out.p 6 _ _ rfl)).addQ (HS.out.q 1 _ _ rfl)).addQ (HS.out.q 0 _ _ rfl)), HMK, HG155⟩
            case rest =>
              clear HS HMK
              obtain ⟨B95_6, y95_0, y95_1, rfl, rfl, HS, HMK, HMKB95_6⟩ := hcut.out
              clear hcut
              obtain ⟨wk172, hwk172⟩ : ∃ z, z = wc := ⟨_, rfl⟩
              subst hwk172
              go_wp2_with fail
              refine (HCT.out _ _ (HTA.out.bP HMK.out)).mono ?_
              rintro e w173 ⟨rfl, hb173⟩
              replace HS := Lib.hid (HS.out.below hb173)
              replace HMK := Lib.hid (ext_trans HMK.out hb173)
              clear hb173
              go_wp2_with fail
              refine (HCTQ.out _ _ (HTB.out.bQ HMK.out)).mono ?_
              rintro e w174 ⟨rfl, hb174⟩
              replace HS := Lib.hid (HS.out.below hb174)
              replace HMK := Lib.hid (ext_trans HMK.out hb174)
              clear hb174
              obtain ⟨b3c0, b3c1, b3c2, b3c3, b3c4, b3c5, b3f0, b3f1, b3f2, b3f3, b3f4, b3f5⟩ := fac6 (x := z10a) (y := z10b) (HS.out.at 3 _ _ _ rfl)
              have b3l := blk_lt (HS.out.at 3 _ _ _ rfl)
              obtain ⟨b4c0, b4c1, b4c2, b4c3, b4c4, b4c5, b4f0, b4f1, b4f2, b4f3, b4f4, b4f5⟩ := fac6 (x := z14a) (y := z14b) (HS.out.at 2 _ _ _ rfl)
              have b4l := blk_lt (HS.out.at 2 _ _ _ rfl)
              go_wp2_with fail
              clear b3c0 b3c1 b3c2 b3c3 b3c4 b3c5 b3f0 b3f1 b3f2 b3f3 b3f4 b3f5 b3l b4c0 b4c1 b4c2 b4c3 b4c4 b4c5 b4f0 b4f1 b4f2 b4f3 b4f4 b4f5 b4l
              refine (isRange_any ro1 ro2 _ _ _ (rngP (HS.out.p 9 _ _ rfl) (HS.out.p 8 _ _ rfl)) (rngQ (HS.out.q 5 _ _ rfl) (HS.out.q 4 _ _ rfl)) (szR_mono ZR1.out (by omega)) (szR_mono ZR2.out (by omega))).mono ?_
              rintro e w175 ⟨rfl, hb175⟩
              replace HS := Lib.hid (HS.out.below hb175)
              replace HMK := Lib.hid (ext_trans HMK.out hb175)
              clear hb175
              obtain ⟨b5c0, b5c1, b5c2, b5c3, b5c4, b5c5, b5f0, b5f1, b5f2, b5f3, b5f4, b5f5⟩ := fac6 (x := y17_0) (y := y17_1) (HS.out.at 1 _ _ _ rfl)
              have b5l := blk_lt (HS.out.at 1 _ _ _ rfl)
              obtain ⟨b6c0, b6c1, b6c2, b6c3, b6c4, b6c5, b6f0, b6f1, b6f2, b6f3, b6f4, b6f5⟩ := fac6 (x := y95_0) (y := y95_1) (HS.out.at 0 _ _ _ rfl)
              have b6l := blk_lt (HS.out.at 0 _ _ _ rfl)
              go_wp2_with fail
              clear b5c0 b5c1 b5c2 b5c3 b5c4 b5c5 b5f0 b5f1 b5f2 b5f3 b5f4 b5f5 b5l b6c0 b6c1 b6c2 b6c3 b6c4 b6c5 b6f0 b6f1 b6f2 b6f3 b6f4 b6f5 b6l
              refine (isRange_any st1 st2 _ _ _ (rngP (HS.out.p 3 _ _ rfl) (HS.out.p 2 _ _ rfl)) (rngQ (HS.out.q 1 _ _ rfl) (HS.out.q 0 _ _ rfl)) (szR_mono ZS1.out (by omega)) (szR_mono ZS2.out (by omega))).mono ?_
              rintro e w176 ⟨rfl, hb176⟩
              replace HS := Lib.hid (HS.out.below hb176)
              replace HMK := Lib.hid (ext_trans HMK.out hb176)
              clear hb176
              go_wp2_with fail
              refine (awake05_any _).mono ?_
              rintro e w177 ⟨rfl, hb177⟩
              replace HS := Lib.hid (HS.out.below hb177)
              replace HMK := Lib.hid (ext_trans HMK.out hb177)
              clear hb177
              go_wp2_with fail
              go_ret
              exact ⟨by simp, HS.out.bel⟩
        | false =>
          refine (light2_any rn0 rd0 rn1 rd1 _ _ (pairsB (HS.out.at 0 _ _ _ rfl))).mono ?_
          rw [t7]
          rintro e w178 ⟨rfl, hb178⟩
          replace HS := Lib.hid (HS.out.below hb178)
          replace HMK := Lib.hid (ext_trans HMK.out hb178)
          clear hb178
          go_wp2_with fail
          refine (awake05_any _).mono ?_
          rintro e w179 ⟨rfl, hb179⟩
          replace HS := Lib.hid (HS.out.below hb179)
          replace HMK := Lib.hid (ext_trans HMK.out hb179)
          clear hb179
          go_wp2_with fail
          go_ret
          exact ⟨by simp, HS.out.bel⟩
      | false =>
        refine (light2_any cn0 cd0 cn1 cd1 _ _ (pairsB (HS.out.at 1 _ _ _ rfl))).mono ?_
        rw [t5]
        rintro e w180 ⟨rfl, hb180⟩
        replace HS := Lib.hid (HS.out.below hb180)
        replace HMK := Lib.hid (ext_trans HMK.out hb180)
        clear hb180
        go_wp2_with fail
        refine (awake05_any _).mono ?_
        rintro e w181 ⟨rfl, hb181⟩
        replace HS := Lib.hid (HS.out.below hb181)
        replace HMK := Lib.hid (ext_trans HMK.out hb181)
        clear hb181
        go_wp2_with fail
        go_ret
        exact ⟨by simp, HS.out.bel⟩
    | false =>
      refine (light2_any tn0 td0 tn1 td1 _ _ (pairsB (HS.out.at 2 _ _ _ rfl))).mono ?_
      rw [t3]
      rintro e w182 ⟨rfl, hb182⟩
      replace HS := Lib.hid (HS.out.below hb182)
      replace HMK := Lib.hid (ext_trans HMK.out hb182)
      clear hb182
      go_wp2_with fail
      refine (awake05_any _).mono ?_
      rintro e w183 ⟨rfl, hb183⟩
      replace HS := Lib.hid (HS.out.below hb183)
      replace HMK := Lib.hid (ext_trans HMK.out hb183)
      clear hb183
      go_wp2_with fail
      go_ret
      exact ⟨by simp, HS.out.bel⟩
  ·
    have htab2 : tabOk rs = false := by simpa using htab
    have HTAB := Lib.hid htab2
    clear htab htab2
    refine (table5_any rs _ _ (HRW.out.below HS.out.bel) HRR.out).mono ?_
    rintro e w184 hq184
    obtain ⟨rfl, hb184⟩ := tab_bad HTAB.out hq184
    clear hq184
    replace HS := Lib.hid (HS.out.below hb184)
    clear hb184
    go_wp2_with fail
    refine (awake05_any _).mono ?_
    rintro e w185 ⟨rfl, hb185⟩
    replace HS := Lib.hid (HS.out.below hb185)
    clear hb185
    go_wp2_with fail
    go_ret
    exact ⟨by simp, HS.out.bel⟩
end Go.Proofs.YtmfochplnchgcaaGreat
