/- Part f of the lemmas and walks. -/
import Derived.Test.YtanmcbbnnjamoaaAe

namespace Go.Proofs.Ytanmcbbnnjamoaa
open Go.RowKit

theorem conv_deg (n : Int) (h0 : 100 ≤ n) (h1 : n < 500) : ∃ r, (∀ w, (convert 34 43 (.float .f32 (deg n))).run Try.prog w = .ok (.float .f64 r) w) ∧ ∀ w, Calls Try.prog 9 #[.float .f64 r] w (RetRatE (n : Rat) 0 w) := by
 obtain ⟨h2, h3⟩ := deg_ok n h0 h1
 obtain ⟨r, hr, hb, hE⟩ := conv_fin (deg n) h2
 have e : tempQ (deg n) = fval r := by unfold tempQ; rw [if_pos h2, hr]; rfl
 refine ⟨r, run_conv (deg n) r hr, fun w => ?_⟩
 rw [← h3, e]
 exact float_ok r w hb hE
theorem run_sub_f32 (n : Int) (x r : Nat) (h : floatBits .sub .f32 x (FloatKind.f32.nearest n) = some r) (w : World) : (binOp .sub 34 (.float .f32 x) (.float .f32 (floatOfInt .f32 n))).run Try.prog w = .ok (.float .f32 r) w := run_float_arith w .sub 34 .f32 _ _ r h
theorem int_szK (n : Int) (h1 : -1000000 ≤ n) (h2 : n ≤ 1000000) (k : Nat) (hk : 1 ≤ k) : szR (n : Rat) k := by
 have e : ∀ m : Nat, m < b64 → (dig b64 m).length ≤ k := fun m hm => Nat.le_trans (dig_length_le b64_two 1 m (by simpa using hm)) hk
 exact ⟨e _ (by simp; unfold b64; omega), e _ (by simp; unfold b64; omega)⟩

theorem w_range {ps : List (Int × Int)} (hb : bytes2 ps) (hl : ps.length ≤ 12) {gap f t : Int} (hf : 0 ≤ f) (h : f ≤ t) (ht : t ≤ 1000) : 0 ≤ usedAll esK gap (wLog ps) f t ∧ usedAll esK gap (wLog ps) f t ≤ 20000000000000 := by
 have hg : GoodLog esK (wLog ps) f t := goodLog_of tabK (wLog_ok hb hl) (by unfold timeB; rw [decide_eq_true (by omega), decide_eq_true (by omega)]; rfl) (by unfold timeB; rw [decide_eq_true (by omega), decide_eq_true (by omega)]; rfl)
 have a := hg.used gap (wLog ps).length
 have b := hg.hot
 have c := hg.both (lastT (wLog ps) (wLog ps).length) 1073741825
 have d := mul_range b.1 b.2 c.1 c.2
 have e := wLog_length ps
 unfold usedAll
 generalize hotI esK * bothI f t (lastT (wLog ps) (wLog ps).length) 1073741825 = z at *
 generalize usedI esK gap (wLog ps) f t (wLog ps).length = y at *
 omega
theorem wTemp_start (ps : List (Int × Int)) (cold gap s : Int) : wTemp ps cold gap s (min 1 ps.length) = 200 + cold := by
 rcases Nat.eq_zero_or_pos ps.length with h | h
 ·
  rw [show min 1 ps.length = 0 by omega]; rfl
 ·
  rw [show min 1 ps.length = 1 by omega]
  simp only [wTemp]
  rw [if_neg (fun h => absurd h.1 (by omega))]
theorem rateV_K (n : Int) : rateV esK (n : Rat) = rateK n := by unfold rateV; rw [if_pos tabK]; exact rateUp_K n

theorem rdCells_len : ∀ ls : List (Int × Nat), (rdCells ls).length = ls.length * 2
 | [] => rfl
 | r :: ls => by
  have := rdCells_len ls
  simp only [rdCells, List.length_cons, List.length_append, List.length_nil] at this ⊢
  omega
theorem log_src {w : World} {b off n cap : Nat} {ls : List (Int × Nat)} (h : ∀ i, i < ls.length → RdAt w b (off + i * 2) (ls.getD i (0, 0))) (hn : n = ls.length) : ∀ j u, (rdCells ls)[j]? = some u → w.cell? ⟨b, off + j, none⟩ = some u := by
 intro j u hu
 have hj : j < (rdCells ls).length := (List.getElem?_eq_some_iff.1 hu).1
 rw [rdCells_len] at hj
 obtain ⟨h1, h2⟩ := rdCells_get ls (j / 2) (by omega)
 obtain ⟨c1, c2⟩ := h (j / 2) (by omega)
 rcases Nat.mod_two_eq_zero_or_one j with e | e
 ·
  rw [show j = j / 2 * 2 by omega, h1] at hu
  rw [show off + j = off + j / 2 * 2 by omega, c1, hu]
 ·
  rw [show j = j / 2 * 2 + 1 by omega, h2] at hu
  rw [show off + j = off + j / 2 * 2 + 1 by omega, c2, hu]
theorem cells_noDig : ∀ ls : List (Int × Nat), ∀ u ∈ rdCells ls, u.oneCell' = true ∧ noDig u
 | [], u, hu => absurd hu (by simp [rdCells])
 | r :: ls, u, hu => by
  simp only [rdCells, List.mem_append, List.mem_cons, List.not_mem_nil, or_false] at hu
  rcases hu with rfl | rfl | hu
  ·
   exact ⟨by simp [Value.oneCell'], noDig_i64 _⟩
  ·
   exact ⟨by simp [Value.oneCell'], noDig_f32 _⟩
  ·
   exact cells_noDig ls u hu
theorem addr_add (b off j : Nat) : (⟨b, off, none⟩ : Addr).add j = ⟨b, off + j, none⟩ := by unfold Addr.add; split <;> simp_all

set_option maxRecDepth 100000 in
set_option maxHeartbeats 16000000 in
theorem storeWorst_any (ps : List (Int × Int)) (t0 t1 t2 cold gap : Int) (vp : Value) (w : World) (hp : StepsOf2 w vp ps) (c0 : byteR t0) (c1 : byteR t1) (c2 : byteR t2) (c3 : byteR cold) (c4 : byteR gap) :
  Calls Try.prog 3 #[vp, .agg #[.int .u8 t0, .int .u8 t1, .int .u8 t2], .int .u8 cold, .int .u8 gap] w (RetBool true w) := by
 have HP := Lib.hid hp
 have Hby := Lib.hid hp.bytes
 obtain ⟨aop, capp, rfl, hP⟩ := hp
 obtain ⟨t00, t01⟩ := c0
 obtain ⟨t10, t11⟩ := c1
 obtain ⟨t20, t21⟩ := c2
 obtain ⟨d0, d1⟩ := c3
 obtain ⟨g0, g1⟩ := c4
 have hal0 := (Below.refl w.heap.size w).alloc (Nat.le_refl _) (.cells #[.int .u8 t0, .int .u8 t1, .int .u8 t2] 23)
 have hS0 := blk_new w #[.int .u8 t0, .int .u8 t1, .int .u8 t2] 23
 clear hP
 by_cases c1 : 12 < ps.length
 ·
  have t1' : decide ((ps.length : Int) > 12) = true := by simp; omega
  clear c1
  go_enter Try.func3, Try.ntmps3
  go_wp2_with fail
  refine (awake_any _).mono ?_
  rintro e w1 ⟨rfl, hb1⟩
  go_wp2_with fail
  go_ret
  exact ⟨rfl, ext_trans hal0 hb1⟩
 ·
  have t1' : decide ((ps.length : Int) > 12) = false := by simp; omega
  have hlp : ps.length ≤ 12 := by omega
  clear c1
  go_enter Try.func3, Try.ntmps3
  go_wp2_with fail
  refine (known_any _).mono ?_
  rintro e w1 ⟨va, vb, rfl, hA, hb1⟩
  have HA := Lib.hid hA
  obtain ⟨aoa, capa, rfl, _⟩ := hA
  have hx1 := ext_trans hal0 hb1
  have HP1 := Lib.hid ((HP.out.below hal0).below hb1)
  have hS1 := blk_keep hS0 hb1 (blk_lt hS0)
  clear HP hal0 hb1 hS0
  go_wp2_with fail
  refine (logged_any ps _ _ HP1.out hlp).mono ?_
  rintro e w2 ⟨vl, rfl, hl, hcap, hb2⟩
  have HL := Lib.hid hl
  have HC := Lib.hid hcap
  obtain ⟨aol, capl, rfl, _⟩ := hl
  have hx2 := ext_trans hx1 hb2
  have HA2 := Lib.hid (HA.out.below IsRat.belowAll hb2)
  have hS2 := blk_keep hS1 hb2 (blk_lt hS1)
  have hBs := blk_lt hS2
  have k0 := blk_cell hS2 0 _ rfl
  have k1 := blk_cell hS2 1 _ rfl
  have k2 := blk_cell hS2 2 _ rfl
  clear HP1 HA hb2 hS1 hx1 hcap hS2
  generalize hB0 : w.heap.size = B0 at *
  have Hx2 : Hid (Below w.heap.size w w2) := by show Below _ _ _; rw [hB0]; exact hx2
  clear hx2 hB0
  obtain ⟨hg0, hg1⟩ : 0 ≤ gap % 20 ∧ gap % 20 ≤ 19 := by omega
  simp only [wLog_length] at HL HC
  rw [wLog_length]
  go_wp2_with fail
  go_region
  go_wp2_with fail
  have HE := Lib.hid (HA2.out.below IsRat.belowAll (Below.refl _ _).drew)
  have HLd := Lib.hid (HL.out.below (Below.refl _ _).drew)
  have Hx3 : Hid (Below w.heap.size w w2.drew) := Hx2.out.drew
  clear HA2 HL Hx2 k0 k1 k2 hBs
  generalize w2.drew = W2 at *
  obtain ⟨G, hG⟩ : ∃ G, G = 1 + gap % 20 := ⟨_, rfl⟩
  rw [← hG]
  have hG1 : 1 ≤ G := by omega
  have hG2 : G ≤ 20 := by omega
  clear hG hg0 hg1
  obtain ⟨T, hT⟩ : ∃ T, T = t0 + t1 + t2 := ⟨_, rfl⟩
  obtain ⟨M, hM⟩ : ∃ M, M = t0 + t1 := ⟨_, rfl⟩
  rw [← hM] at hT
  rw [← hM]
  rw [← hT]
  have hM0 : t0 ≤ M := by omega
  have hM1 : M ≤ T := by omega
  have hT1 : T ≤ 765 := by omega
  clear hT hM t10 t11 t20 t21
  have HU1 : Hid (usedVal esK G (wLog ps) t0 M = usedAll esK G (wLog ps) t0 M ∧ usedErr esK G (wLog ps) t0 M = 0) := w_good Hby.out hlp hG1 hG2 t00 hM0 (by omega)
  have HU2 : Hid (usedVal esK G (wLog ps) M T = usedAll esK G (wLog ps) M T ∧ usedErr esK G (wLog ps) M T = 0) := w_good Hby.out hlp hG1 hG2 (by omega) hM1 (by omega)
  have HU3 : Hid (usedVal esK G (wLog ps) t0 T = usedAll esK G (wLog ps) t0 T ∧ usedErr esK G (wLog ps) t0 T = 0) := w_good Hby.out hlp hG1 hG2 t00 (by omega) (by omega)
  have Hadd : Hid (usedAll esK G (wLog ps) t0 T = usedAll esK G (wLog ps) t0 M + usedAll esK G (wLog ps) M T) := usedAll_add esK G (wLog ps) hM0 hM1
  have hX := w_range (gap := G) Hby.out hlp t00 hM0 (by omega)
  have hY := w_range (gap := G) Hby.out hlp (show 0 ≤ M by omega) hM1 (by omega)
  have Hlost : Hid (∀ n : Nat, t0 + n ≤ 1000 → sumG (fun s => rateK (wTemp ps cold G s ps.length)) t0 n ≤ usedAll esK G (wLog ps) t0 (t0 + n)) := fun n hn => w_lost Hby.out d0 t00 n hn
  have Hsr : Hid (∀ n : Nat, 0 ≤ sumG (fun s => rateK (wTemp ps cold G s ps.length)) t0 n ∧ sumG (fun s => rateK (wTemp ps cold G s ps.length)) t0 n ≤ 100 * n) := w_sum_range ps cold G t0
  refine (Used_any esK G (wLog ps) t0 M _ _ _ HE.out HLd.out szK).mono ?_
  rintro e w3 ⟨rfl, hb3⟩
  rw [HU1.out.1, HU1.out.2]
  go_wp2_with fail
  refine (Used_any esK G (wLog ps) M T _ _ _ (HE.out.below IsRat.belowAll hb3) (HLd.out.below hb3) szK).mono ?_
  rintro e w4 ⟨rfl, hb4⟩
  rw [HU2.out.1, HU2.out.2]
  have hb34 := ext_trans hb3 hb4
  clear hb3 hb4
  go_wp2_with fail
  refine (Used_any esK G (wLog ps) t0 T _ _ _ (HE.out.below IsRat.belowAll hb34) (HLd.out.below hb34) szK).mono ?_
  rintro e w5 ⟨rfl, hb5⟩
  rw [HU3.out.1, HU3.out.2, Hadd.out]
  have hb345 := ext_trans hb34 hb5
  have HE5 := Lib.hid (HE.out.below IsRat.belowAll hb345)
  have HL5 := Lib.hid (HLd.out.below hb345)
  have Hx5 : Hid (Below w.heap.size w w5) := ext_trans Hx3.out hb345
  have HZ : Hid (usedAll esK G (wLog ps) t0 T = usedAll esK G (wLog ps) t0 M + usedAll esK G (wLog ps) M T) := Hadd.out
  clear hb34 hb5 hb345 HE HLd Hx3 HU1 HU2 HU3 Hadd
  generalize usedAll esK G (wLog ps) t0 M = X at *
  generalize usedAll esK G (wLog ps) M T = Y at *
  obtain ⟨hX0, hX1⟩ := hX
  obtain ⟨hY0, hY1⟩ := hY
  go_wp2_with fail
  go_loopw [22, 23] (fun lv sv wr => ∃ n : Nat, t0 + n ≤ T ∧ sv = .int .i64 (t0 + n) ∧ lv = .int .i64 (sumG (fun s => rateK (wTemp ps cold G s ps.length)) t0 n) ∧ Below w5.heap.size w5 wr) (fun _ sv _ => (T - intOf sv).toNat)
  case atStart => exact ⟨0, by omega, by simp, rfl, Below.refl _ _⟩
  case round =>
   obtain ⟨n, hn, rfl, rfl, hbel⟩ := hrel
   have hs1 := Hsr.out n
   by_cases hlt : t0 + (n : Int) < T
   ·
    have Hsum : Hid (sumG (fun s => rateK (wTemp ps cold G s ps.length)) t0 (n + 1) = sumG (fun s => rateK (wTemp ps cold G s ps.length)) t0 n + rateK (wTemp ps cold G (t0 + n) ps.length)) := rfl
    generalize sumG (fun s => rateK (wTemp ps cold G s ps.length)) t0 n = S at *
    have Hsn : Hid (t0 + ((n + 1 : Nat) : Int) = t0 + (n : Int) + 1) := by show _ = _; omega
    have Hn1 : Hid (t0 + ((n + 1 : Nat) : Int) ≤ T) := by show _ ≤ _; omega
    obtain ⟨hs2, hs3⟩ := hs1
    have hS9 : S ≤ 76500 := by omega
    have hsg0 : 0 ≤ t0 + (n : Int) := by omega
    clear hs3
    generalize t0 + (n : Int) = s at *
    have HE6 := Lib.hid (HE5.out.below IsRat.belowAll hbel)
    obtain ⟨W6, hW6⟩ : ∃ W6, W6 = wr := ⟨_, rfl⟩
    subst hW6
    go_wp2_with fail
    go_loopw [24, 25] (fun tv iv wx => ∃ i : Nat, 1 ≤ i ∧ (i ≤ ps.length ∨ i = 1) ∧ iv = .int .i64 i ∧ tv = .float .f32 (deg (wTemp ps cold G s (min i ps.length))) ∧ Below W6.heap.size W6 wx) (fun _ iv _ => ps.length + 1 - (intOf iv).toNat)
    case atStart => exact ⟨1, Nat.le_refl _, .inr rfl, rfl, by rw [wTemp_start], Below.refl _ _⟩
    case round =>
     obtain ⟨i, hi1, hi2, rfl, rfl, hbi⟩ := hrel
     by_cases hil : i < ps.length
     ·
      obtain ⟨j, hj⟩ : ∃ j, i = j + 1 := ⟨i - 1, by omega⟩
      have hw : IntKind.i64.wrap ((i : Int) - 1) = (j : Int) := by rw [IntWalk.i64_in _ (by omega)]; omega
      have hj0 : (0 : Int) ≤ j := by omega
      have hi0 : (0 : Int) ≤ i := by omega
      have hil' : (i : Int) < ps.length := by omega
      have hjl : (j : Int) < ps.length := by omega
      obtain ⟨ao', cap', ea, hRR⟩ := HL5.out
      simp only [Value.slice.injEq] at ea
      obtain ⟨rfl, _, rfl⟩ := ea
      obtain ⟨b, off, rfl, hbl, hRR⟩ := hRR (by rw [wLog_length]; omega)
      have hb2 : b < W6.heap.size := Nat.lt_of_lt_of_le hbl hbel.size
      have hb3 : b < wr.heap.size := Nat.lt_of_lt_of_le hb2 hbi.size
      obtain ⟨m0, m1⟩ := ((hRR i (by rw [wLog_length]; omega)).below hbel hbl).below hbi hb2
      obtain ⟨n0, n1⟩ := ((hRR j (by rw [wLog_length]; omega)).below hbel hbl).below hbi hb2
      rw [wLog_get ps i hil] at m0 m1
      rw [wLog_get ps j (by omega), show wT ps (j + 1) = wT ps i by rw [hj]] at n0
      rw [wLog_get ps j (by omega)] at n1
      dsimp only at m0 m1 n0 n1
      have Hstep : Hid (wTemp ps cold G s (min (i + 1) ps.length) = if wT ps i ≤ s ∧ s < wT ps (i + 1) ∧ wT ps (i + 1) - wT ps i ≤ G then max (tmpI ps j) (tmpI ps i) - cold % 64 else wTemp ps cold G s (min i ps.length)) := by
       show _ = _
       rw [show min (i + 1) ps.length = i + 1 by omega, show min i ps.length = i by omega]
       simp only [wTemp]
       rw [show i - 1 = j by omega]
       by_cases c : wT ps i ≤ s ∧ s < wT ps (i + 1) ∧ wT ps (i + 1) - wT ps i ≤ G
       ·
        rw [if_pos c, if_pos ⟨by omega, c⟩]
       ·
        rw [if_neg c, if_neg (fun h => c h.2)]
      have rA := wT_range ps i
      have rB := wT_range ps (i + 1)
      have rp := Hby.out j (by omega)
      have rq := Hby.out i hil
      have ep : tmpI ps j = 200 + (ps.getD j (0, 0)).2 := rfl
      have eq : tmpI ps i = 200 + (ps.getD i (0, 0)).2 := rfl
      have hp0 : 200 ≤ tmpI ps j ∧ tmpI ps j ≤ 455 := by omega
      have hq0 : 200 ≤ tmpI ps i ∧ tmpI ps i ≤ 455 := by omega
      have Hi1 : Hid (i + 1 ≤ ps.length) := hil
      have Hms : Hid (i < ps.length) := hil
      clear hRR ep eq rp rq hi2 hi1 hil hj
      generalize wTemp ps cold G s (min i ps.length) = E at *
      obtain ⟨E', HE'⟩ : ∃ E', Hid (wTemp ps cold G s (min (i + 1) ps.length) = E') := ⟨_, rfl⟩
      rw [HE'.out] at Hstep
      obtain ⟨hp0, hp1⟩ := hp0
      obtain ⟨hq0, hq1⟩ := hq0
      obtain ⟨hA0, hA1⟩ := rA
      obtain ⟨hB0, hB1⟩ := rB
      have hAB : wT ps i ≤ 3200 ∧ wT ps (i + 1) ≤ 3200 := by omega
      obtain ⟨hA1', hB1'⟩ := hAB
      clear hA1 hB1
      generalize wT ps i = A at *
      generalize wT ps (i + 1) = B at *
      generalize tmpI ps j = p at *
      generalize tmpI ps i = q at *
      by_cases q1 : A ≤ s
      ·
       have tq1 : decide (A ≤ s) = true := decide_eq_true q1
       by_cases q2 : s < B
       ·
        have tq2 : decide (s < B) = true := decide_eq_true q2
        by_cases q3 : B - A ≤ G
        ·
         have tq3 : decide (B - A ≤ G) = true := decide_eq_true q3
         have He : Hid (E' = max p q - cold % 64) := by
          have h := Hstep.out
          rw [if_pos ⟨q1, q2, q3⟩] at h
          exact h
         have hmx := fun (w : World) ts t => run_deg_max (P := Try.prog) w ts t p q hp0 hp1 hq0 hq1
         have hmr : 200 ≤ max p q ∧ max p q ≤ 455 := by omega
         obtain ⟨hr0, hr1⟩ : 0 ≤ cold % 64 ∧ cold % 64 < 64 := by omega
         have hsu := run_sub_f32 (cold % 64) _ _ (deg_sub (max p q) (cold % 64) hmr.1 hmr.2 hr0 hr1)
         clear q1 q2 q3 Hstep hmr
         generalize max p q = mx at *
         go_wp2_with fail
         go_region
         go_wp2_with fail
         go_region
         go_wp2_with fail
         exact ⟨⟨i + 1, by omega, .inl Hi1.out, by go_num, by rw [HE'.out, He.out], hbi.drew.drew⟩, by show ps.length + 1 - ((i : Int) + 1).toNat < ps.length + 1 - ((i : Int)).toNat; have := Hms.out; omega⟩
        ·
         have tq3 : decide (B - A ≤ G) = false := decide_eq_false q3
         have He : Hid (E' = E) := by
          have h := Hstep.out
          rw [if_neg (fun h => q3 h.2.2)] at h
          exact h
         clear q1 q2 q3 Hstep
         go_wp2_with fail
         go_region
         go_wp2_with fail
         exact ⟨⟨i + 1, by omega, .inl Hi1.out, by go_num, by rw [HE'.out, He.out], hbi.drew⟩, by show ps.length + 1 - ((i : Int) + 1).toNat < ps.length + 1 - ((i : Int)).toNat; have := Hms.out; omega⟩
       ·
        have tq2 : decide (s < B) = false := decide_eq_false q2
        have He : Hid (E' = E) := by
         have h := Hstep.out
         rw [if_neg (fun h => q2 h.2.1)] at h
         exact h
        clear q1 q2 Hstep
        go_wp2_with fail
        go_region
        go_wp2_with fail
        exact ⟨⟨i + 1, by omega, .inl Hi1.out, by go_num, by rw [HE'.out, He.out], hbi.drew⟩, by show ps.length + 1 - ((i : Int) + 1).toNat < ps.length + 1 - ((i : Int)).toNat; have := Hms.out; omega⟩
      ·
       have tq1 : decide (A ≤ s) = false := decide_eq_false q1
       have He : Hid (E' = E) := by
        have h := Hstep.out
        rw [if_neg (fun h => q1 h.1)] at h
        exact h
       clear q1 Hstep
       go_wp2_with fail
       go_region
       go_wp2_with fail
       exact ⟨⟨i + 1, by omega, .inl Hi1.out, by go_num, by rw [HE'.out, He.out], hbi.drew⟩, by show ps.length + 1 - ((i : Int) + 1).toNat < ps.length + 1 - ((i : Int)).toNat; have := Hms.out; omega⟩
     ·
      have hE := wTemp_range (gap := G) (s := s) Hby.out d0 d1 ps.length (Nat.le_refl _)
      rw [show min i ps.length = ps.length by omega]
      generalize wTemp ps cold G s ps.length = E at *
      obtain ⟨r, hc, HF⟩ := conv_deg E (by omega) (by omega)
      have HF := Lib.hid HF
      have HszE := Lib.hid (int_szK E (by omega) (by omega) 274877906944 (by omega))
      have HrV := Lib.hid (rateV_K E)
      have hrk := rateK_range E
      clear hE
      have HE7 := Lib.hid (HE6.out.below IsRat.belowAll hbi)
      clear HE6
      go_wp2_with (simp only [hc])
      refine (HF.out _).mono ?_
      rintro e w6 ⟨v, rfl, hv, hb6⟩
      obtain ⟨a1, c1', a2, c2', rfl, n1, n2⟩ := hv.opened
      have HV := Lib.hid hv
      have HE8 := Lib.hid (HE7.out.below IsRat.belowAll hb6)
      have hb66 := below_join hbel (below_join hbi hb6)
      clear hv hb6 HE7 hbi hc HF
      generalize (E : Rat) = EQ at *
      have hal6 := (Below.refl w6.heap.size w6).alloc (Nat.le_refl _) (.cells #[.bool (decide (EQ.num < 0)), .slice a1 (dig b64 EQ.num.natAbs).length c1', .slice a2 (dig b64 (dn EQ.den)).length c2'] 40)
      have HE9 := Lib.hid (HE8.out.below IsRat.belowAll hal6)
      have HV9 := Lib.hid (HV.out.below hal6)
      have hb67 := below_join hb66 hal6
      clear HE8 HV hb66 hal6
      go_wp2_with fail
      refine (rateAt_any esK EQ _ _ _ HE9.out HV9.out szK HszE.out (by decide)).mono ?_
      rintro e w7 ⟨rfl, hb7⟩
      rw [HrV.out, tabK]
      have hb77 := Lib.hid (below_join hb67 hb7)
      clear hb67 hb7 HE9 HV9
      generalize rateK E = rk at *
      obtain ⟨hrk0, hrk1⟩ := hrk
      go_wp2_with fail
      exact ⟨⟨n + 1, Hn1.out, by rw [Hsn.out], by rw [Hsum.out], hb77.out⟩, by show (T - (s + 1)).toNat < (T - s).toNat; omega⟩
   ·
    have hTn : t0 + (n : Int) = T := by omega
    have hle := Hlost.out n (by omega)
    rw [hTn, HZ.out] at hle
    rw [hTn]
    generalize sumG (fun s => rateK (wTemp ps cold G s ps.length)) t0 n = S at *
    have tz : decide (S > X + Y) = false := decide_eq_false (by omega)
    have HE6 := Lib.hid (HE5.out.below IsRat.belowAll hbel)
    have HL6 := Lib.hid (HL5.out.below hbel)
    have Hx6 : Hid (Below w.heap.size w wr) := ext_trans Hx5.out hbel
    clear hle hTn hlt hs1 hn hbel HE5 HL5 Hx5 Hlost Hsr
    obtain ⟨W6, hW6⟩ : ∃ W6, W6 = wr := ⟨_, rfl⟩
    subst hW6
    go_wp2_with fail
    go_loopw [30] (fun iv wx => ∃ i : Nat, 1 ≤ i ∧ (i ≤ ps.length ∨ i = 1) ∧ iv = .int .i64 i ∧ Below W6.heap.size W6 wx) (fun iv _ => ps.length + 1 - (intOf iv).toNat)
    case atStart => exact ⟨1, Nat.le_refl _, .inr rfl, rfl, Below.refl _ _⟩
    case round =>
     obtain ⟨i, hi1, hi2, rfl, hbi⟩ := hrel
     by_cases hil : i < ps.length
     ·
      obtain ⟨j, hj⟩ : ∃ j, i = j + 1 := ⟨i - 1, by omega⟩
      have hw : IntKind.i64.wrap ((i : Int) - 1) = (j : Int) := by rw [IntWalk.i64_in _ (by omega)]; omega
      have hj0 : (0 : Int) ≤ j := by omega
      have hi0 : (0 : Int) ≤ i := by omega
      have hil' : (i : Int) < ps.length := by omega
      have hjl : (j : Int) < ps.length := by omega
      obtain ⟨ao', cap', ea, hRR⟩ := HL6.out
      simp only [Value.slice.injEq] at ea
      obtain ⟨rfl, e1, rfl⟩ := ea
      clear e1
      obtain ⟨b, off, rfl, hbl, hRR⟩ := hRR (by rw [wLog_length]; omega)
      have hb2 : b < wr.heap.size := Nat.lt_of_lt_of_le hbl hbi.size
      have HRR : Hid (∀ k, k < (wLog ps).length → RdAt wr b (off + k * 2) ((wLog ps).getD k (0, 0))) := fun k hk => (hRR k hk).below hbi hbl
      obtain ⟨m0, m1⟩ := HRR.out i (by rw [wLog_length]; omega)
      obtain ⟨n0, n1⟩ := HRR.out j (by rw [wLog_length]; omega)
      rw [wLog_get ps i hil] at m0 m1
      rw [wLog_get ps j (by omega), show wT ps (j + 1) = wT ps i by rw [hj]] at n0
      rw [wLog_get ps j (by omega)] at n1
      dsimp only at m0 m1 n0 n1
      have rA := wT_range ps i
      have rB := wT_range ps (i + 1)
      have rp := Hby.out j (by omega)
      have rq := Hby.out i hil
      have ep : tmpI ps j = 200 + (ps.getD j (0, 0)).2 := rfl
      have eq : tmpI ps i = 200 + (ps.getD i (0, 0)).2 := rfl
      have hp0 : 200 ≤ tmpI ps j ∧ tmpI ps j ≤ 455 := by omega
      have hq0 : 200 ≤ tmpI ps i ∧ tmpI ps i ≤ 455 := by omega
      have hjw : j < (wLog ps).length := by rw [wLog_length]; omega
      have hiw : i < (wLog ps).length := by rw [wLog_length]; omega
      have Hi1 : Hid (i + 1 ≤ ps.length) := hil
      have Hms : Hid (i < ps.length) := hil
      have Hpos : Hid (0 < i) := hi1
      obtain ⟨nc1, nc2⟩ : ps.length ≤ capl ∧ capl ≤ maxLen := by
       obtain ⟨a1, l1, c1, e1, h1, h2⟩ := HC.out
       simp only [Value.slice.injEq] at e1
       obtain ⟨_, rfl, rfl⟩ := e1
       exact ⟨h1, h2⟩
      have hic : i ≤ capl := by omega
      have hicI : (i : Int) ≤ capl := by omega
      have Hw : Hid (2 ≤ wT ps (i + 1) - wT ps i → wT ps (i + 1) - wT ps i ≤ G → (usedVal esK G (wMore ps cold i) t0 T = usedAll esK G (wMore ps cold i) t0 T ∧ usedErr esK G (wMore ps cold i) t0 T = 0) ∧ usedAll esK G (wMore ps cold i) t0 T ≤ usedAll esK G (wLog ps) t0 T) :=
       fun h2 h3 => w_more Hby.out hlp d0 hG1 hG2 t00 (by omega) (by omega) hi1 hil h2 h3
      have Hcl : Hid (rdCells (wMore ps cold i) = rdCells ((wLog ps).take i) ++ [.int .i64 (wT ps i + 1), .float .f32 (deg (max (tmpI ps j) (tmpI ps i) - cold % 64))] ++ rdCells ((wLog ps).drop i)) := by
       show _ = _
       unfold wMore insL
       rw [rdCells_append, show i - 1 = j by omega, List.append_assoc]
       rfl
      have Hml : Hid ((wMore ps cold i).length = ps.length + 1) := by
       show _ = _
       unfold wMore
       rw [insL_length _ _ _ (by rw [wLog_length]; omega), wLog_length]
      have Hsr := Lib.hid (log_src (n := (wLog ps).length) (cap := 0) HRR.out rfl)
      have Hts : Hid (∀ k u, (rdCells ((wLog ps).take i))[k]? = some u → wr.cell? ((⟨b, off, none⟩ : Addr).add k) = some u) := fun k u hu => by
       rw [addr_add]
       refine Hsr.out k u ?_
       rw [← List.take_append_drop i (wLog ps), rdCells_append, List.getElem?_append_left (List.getElem?_eq_some_iff.1 hu).1]
       exact hu
      have Htl : Hid (((wLog ps).take i).length = i) := by show _ = _; rw [List.length_take, wLog_length]; omega
      have Hds : Hid (∀ k u, (rdCells ((wLog ps).drop i))[k]? = some u → wr.cell? ((⟨b, off + i * 2, none⟩ : Addr).add k) = some u) := fun k u hu => by
       rw [addr_add, Nat.add_assoc]
       refine Hsr.out (i * 2 + k) u ?_
       rw [← List.take_append_drop i (wLog ps), rdCells_append, List.getElem?_append_right (by rw [rdCells_len, Htl.out]; omega), rdCells_len, Htl.out, show i * 2 + k - i * 2 = k by omega]
       exact hu
      have Hdl : Hid (((wLog ps).drop i).length = ps.length - i) := by show _ = _; rw [List.length_drop, wLog_length]
      clear hRR ep eq rp rq hi2 hi1 hil hj Hsr HRR
      obtain ⟨hp0, hp1⟩ := hp0
      obtain ⟨hq0, hq1⟩ := hq0
      obtain ⟨hA0, hA1⟩ := rA
      obtain ⟨hB0, hB1⟩ := rB
      have hAB : wT ps i ≤ 3200 ∧ wT ps (i + 1) ≤ 3200 := by omega
      obtain ⟨hA1', hB1'⟩ := hAB
      clear hA1 hB1
      generalize wT ps i = A at *
      generalize wT ps (i + 1) = B at *
      generalize tmpI ps j = p at *
      generalize tmpI ps i = q at *
      by_cases q1 : B - A < 2
      ·
       have tq1 : decide (B - A < 2) = true := decide_eq_true q1
       clear q1
       go_wp2_with fail
       go_region
       go_wp2_with fail
       exact ⟨⟨i + 1, by omega, .inl Hi1.out, by go_num, hbi.drew⟩, by show ps.length + 1 - ((i : Int) + 1).toNat < ps.length + 1 - ((i : Int)).toNat; have := Hms.out; omega⟩
      ·
       have tq1 : decide (B - A < 2) = false := decide_eq_false q1
       by_cases q2 : B - A > G
       ·
        have tq2 : decide (B - A > G) = true := decide_eq_true q2
        clear q1 q2
        go_wp2_with fail
        go_region
        go_wp2_with fail
        exact ⟨⟨i + 1, by omega, .inl Hi1.out, by go_num, hbi.drew⟩, by show ps.length + 1 - ((i : Int) + 1).toNat < ps.length + 1 - ((i : Int)).toNat; have := Hms.out; omega⟩
       ·
        have tq2 : decide (B - A > G) = false := decide_eq_false q2
        obtain ⟨hU, hle⟩ := Hw.out (by omega) (by omega)
        rw [HZ.out] at hle
        have HU := Lib.hid hU
        have Hle := Lib.hid hle
        have hmx := fun (w : World) ts t => run_deg_max (P := Try.prog) w ts t p q hp0 hp1 hq0 hq1
        have hmr : 200 ≤ max p q ∧ max p q ≤ 455 := by omega
        obtain ⟨hr0, hr1⟩ : 0 ≤ cold % 64 ∧ cold % 64 < 64 := by omega
        have hsu := run_sub_f32 (cold % 64) _ _ (deg_sub (max p q) (cold % 64) hmr.1 hmr.2 hr0 hr1)
        have htm : cold.tmod 64 = cold % 64 := Int.tmod_eq_emod_of_nonneg d0
        have hwu : IntKind.u8.wrap (cold % 64) = cold % 64 := by unfold IntKind.wrap; simp [IntKind.bits]; omega
        have hwA : IntKind.i64.wrap (A + 1) = A + 1 := IntWalk.i64_in _ (by omega)
        clear q1 q2 hmr hU hle Hw
        generalize max p q = mx at *
        generalize hD : deg (mx - cold % 64) = D at *
        clear hD
        go_wp2_with fail
        go_region
        go_wp2_with fail
        have hx8 : Below W6.heap.size W6 wr.drew.drew := hbi.drew.drew
        have Hts8 : Hid (∀ k u, (rdCells ((wLog ps).take i))[k]? = some u → wr.drew.drew.cell? ((⟨b, off, none⟩ : Addr).add k) = some u) := Hts
        have Hds8 : Hid (∀ k u, (rdCells ((wLog ps).drop i))[k]? = some u → wr.drew.drew.cell? ((⟨b, off + i * 2, none⟩ : Addr).add k) = some u) := Hds
        have M1 : wr.drew.drew.cell? ⟨b, off + i * 2 + 1, none⟩ = some (.float .f32 (deg q)) := m1
        have N0 : wr.drew.drew.cell? ⟨b, off + j * 2, none⟩ = some (.int .i64 A) := n0
        have N1 : wr.drew.drew.cell? ⟨b, off + j * 2 + 1, none⟩ = some (.float .f32 (deg p)) := n1
        have hb8 : b < wr.drew.drew.heap.size := hb2
        clear Hts Hds m0 m1 n0 n1 hb2 hbi hbl
        refine wp_region_held_drew (S := fun w' => Below wr.drew.drew.heap.size wr.drew.drew w') (by kernel_rfl) (Below.refl _ _) (fun hh => ?_)
        generalize wr.drew.drew = W8 at *
        obtain ⟨ir, hir, hz0, hz1, hz2⟩ := info_parts info_reading
        refine tkB (i := 1) (v := ?v1) rfl ?h1 ?r1
        case h1 => intro u hSu; (try dsimp only at hSu); clear hSu; go_simp <;> with_reducible rfl
        try simp only [nbs, Act.put]
        refine tkB (i := 2) (v := ?v2) rfl ?h2 ?r2
        case h2 => intro u hSu; (try dsimp only at hSu); clear hSu; go_simp <;> with_reducible rfl
        try simp only [nbs, Act.put]
        refine tkB (i := 3) (v := ?v3) rfl ?h3 ?r3
        case h3 => intro u hSu; (try dsimp only at hSu); clear hSu; go_simp <;> with_reducible rfl
        try simp only [nbs, Act.put]
        refine tkB (i := 5) (v := ?v5) rfl ?h5 ?r5
        case h5 => intro u hSu; (try dsimp only at hSu); clear hSu; go_simp <;> with_reducible rfl
        try simp only [nbs, Act.put]
        refine tkB (i := 6) (v := ?v6) rfl ?h6 ?r6
        case h6 => intro u hSu; (try dsimp only at hSu); clear hSu; go_simp <;> with_reducible rfl
        try simp only [nbs, Act.put]
        refine tkB (i := 7) (v := ?v7) rfl ?h7 ?r7
        case h7 => intro u hSu; (try dsimp only at hSu); clear hSu; go_simp <;> with_reducible rfl
        try simp only [nbs, Act.put]
        refine tkB (i := 8) (v := ?v8) rfl ?h8 ?r8
        case h8 => intro u hSu; (try dsimp only at hSu); clear hSu; go_simp <;> with_reducible rfl
        try simp only [nbs, Act.put]
        refine tkB (i := 9) (v := ?v9) rfl ?h9 ?r9
        case h9 => intro u hSu; (try dsimp only at hSu); clear hSu; go_simp <;> with_reducible rfl
        try simp only [nbs, Act.put]
        refine tkB (i := 10) (v := ?v10) rfl ?h10 ?r10
        case h10 => intro u hSu; (try dsimp only at hSu); have kc := (hSu.cell (p := ⟨b, off + j * 2, none⟩) hb8).trans N0; clear hSu; go_simp <;> with_reducible rfl
        try simp only [nbs, Act.put]
        refine tkB (i := 11) (v := ?v11) rfl ?h11 ?r11
        case h11 => intro u hSu; (try dsimp only at hSu); clear hSu; go_simp <;> with_reducible rfl
        try simp only [nbs, Act.put]
        refine tkB (i := 12) (v := ?v12) rfl ?h12 ?r12
        case h12 => intro u hSu; (try dsimp only at hSu); clear hSu; go_simp <;> with_reducible rfl
        try simp only [nbs, Act.put]
        refine tkB (i := 13) (v := ?v13) rfl ?h13 ?r13
        case h13 => intro u hSu; (try dsimp only at hSu); clear hSu; go_simp <;> with_reducible rfl
        try simp only [nbs, Act.put]
        refine tkB (i := 14) (v := ?v14) rfl ?h14 ?r14
        case h14 => intro u hSu; (try dsimp only at hSu); clear hSu; go_simp <;> with_reducible rfl
        try simp only [nbs, Act.put]
        refine tkB (i := 15) (v := ?v15) rfl ?h15 ?r15
        case h15 => intro u hSu; (try dsimp only at hSu); clear hSu; go_simp <;> with_reducible rfl
        try simp only [nbs, Act.put]
        refine tkB (i := 16) (v := ?v16) rfl ?h16 ?r16
        case h16 => intro u hSu; (try dsimp only at hSu); clear hSu; go_simp <;> with_reducible rfl
        try simp only [nbs, Act.put]
        refine tkB (i := 17) (v := ?v17) rfl ?h17 ?r17
        case h17 => intro u hSu; (try dsimp only at hSu); have kc := (hSu.cell (p := ⟨b, off + j * 2 + 1, none⟩) hb8).trans N1; clear hSu; go_simp <;> with_reducible rfl
        try simp only [nbs, Act.put]
        refine tkB (i := 18) (v := ?v18) rfl ?h18 ?r18
        case h18 => intro u hSu; (try dsimp only at hSu); clear hSu; go_simp <;> with_reducible rfl
        try simp only [nbs, Act.put]
        refine tkB (i := 19) (v := ?v19) rfl ?h19 ?r19
        case h19 => intro u hSu; (try dsimp only at hSu); clear hSu; go_simp <;> with_reducible rfl
        try simp only [nbs, Act.put]
        refine tkB (i := 20) (v := ?v20) rfl ?h20 ?r20
        case h20 => intro u hSu; (try dsimp only at hSu); clear hSu; go_simp <;> with_reducible rfl
        try simp only [nbs, Act.put]
        refine tkB (i := 21) (v := ?v21) rfl ?h21 ?r21
        case h21 => intro u hSu; (try dsimp only at hSu); clear hSu; go_simp <;> with_reducible rfl
        try simp only [nbs, Act.put]
        refine tkB (i := 22) (v := ?v22) rfl ?h22 ?r22
        case h22 => intro u hSu; (try dsimp only at hSu); have kc := (hSu.cell (p := ⟨b, off + i * 2 + 1, none⟩) hb8).trans M1; clear hSu; go_simp <;> with_reducible rfl
        try simp only [nbs, Act.put]
        refine tkB (i := 23) (v := ?v23) rfl ?h23 ?r23
        case h23 => intro u hSu; (try dsimp only at hSu); clear hSu; go_simp <;> with_reducible rfl
        try simp only [nbs, Act.put]
        refine tkB (i := 24) (v := ?v24) rfl ?h24 ?r24
        case h24 => intro u hSu; (try dsimp only at hSu); clear hSu; go_simp <;> with_reducible rfl
        try simp only [nbs, Act.put]
        refine tkB (i := 25) (v := ?v25) rfl ?h25 ?r25
        case h25 => intro u hSu; (try dsimp only at hSu); clear hSu; go_simp <;> with_reducible rfl
        try simp only [nbs, Act.put]
        refine tkB (i := 26) (v := ?v26) rfl ?h26 ?r26
        case h26 => intro u hSu; (try dsimp only at hSu); clear hSu; go_simp <;> with_reducible rfl
        try simp only [nbs, Act.put]
        refine tkB (i := 27) (v := ?v27) rfl ?h27 ?r27
        case h27 => intro u hSu; (try dsimp only at hSu); clear hSu; go_simp <;> with_reducible rfl
        try simp only [nbs, Act.put]
        refine tkB (i := 28) (v := ?v28) rfl ?h28 ?r28
        case h28 => intro u hSu; (try dsimp only at hSu); clear hSu; go_simp <;> with_reducible rfl
        try simp only [nbs, Act.put]
        refine wpAnyH_modular [0, 4, 29] [0, 4, 29] [] [231, 235, 260] #[true, true, true, true, true, true, true, true, true, true, true, true, true, true, true, true, true, true, true, true, true, true, true, true, true, true, true, true, true, true, false, false] 2 [(0, 231), (4, 235), (29, 260)] [(0, []), (4, [0]), (29, [])] [] [(0, fun v w => ∃ B : Nat, v = .slice (some ⟨B, 0, none⟩) 0 0 ∧ LRow w W8.heap.size 36 2 v 0 []), (4, fun v w => LRow w W8.heap.size 36 2 v i (rdCells ((wLog ps).take i))), (29, fun v w => ∃ B : Nat, v = .slice (some ⟨B, 0, none⟩) 1 1 ∧ W8.heap.size ≤ B ∧ w.heap[B]? = some (.cells #[.int .i64 (A + 1), .float .f32 D] 36 (0, 0)))]
          rfl (by kernel_rfl) (by decide) rfl ⟨(fun v w w' hb ⟨B, e, h⟩ => ⟨B, e, h.below hb⟩), ⟨(fun v w w' hb h => LRow.below h hb), ⟨(fun v w w' hb ⟨B, e, g, k⟩ => ⟨B, e, g, blk_keep k hb (blk_lt k)⟩), trivial⟩⟩⟩ trivial (fun w' hb => hb) ⟨?_, ?_, ?_, trivial⟩ trivial (by decide) ?_
        ·
         refine StepM.of rfl (fun f w' hb hp K hK => ?_)
         simp only [fillA, fillT, List.foldl_cons, List.foldl_nil, Act.put, nb4, nb5, nb6]
         go_simp
         exact hK.out _ _ (.slice (some ⟨w'.heap.size, 0, none⟩) 0 0) (by simp only [fillA, fillT, List.foldl_cons, List.foldl_nil, Act.put, nb4, nb5, nb6, nb1, nb2, nb3]) ⟨_, rfl, LRow.lit hb.size #[] 0 (by unfold maxLen; omega) rfl (by simp)⟩ (fun h => absurd h (by decide)) ((Below.refl _ _).alloc (Nat.le_refl _) _)
        ·
         refine StepM.of rfl (fun f w' hb hp K hK => ?_)
         obtain ⟨B, eB, hB⟩ : ∃ B : Nat, f 231 = .slice (some ⟨B, 0, none⟩) 0 0 ∧ LRow w' W8.heap.size 36 2 (f 231) 0 [] := hp 0 (by decide)
         rw [eB] at hB
         simp only [fillA, fillT, List.foldl_cons, List.foldl_nil, Act.put, nb4, nb5, nb6, nb1, nb2, nb3, eB]
         refine Eq.mpr (if_pos (by simp [Region.wanted])) ?_
         refine wp_append_first _ (.tmp 231) (.tmp 234) 29 rfl W8.heap.size 36 ir _ 2 16 Try.underlying29 hir hz0 hz1 hz2 rfl (by decide) zdR B rfl hB ⟨b, off, none⟩ i capl _ rfl (by rw [rdCells_len, Htl.out]) (fun k u hu => (hb.cell (p := (⟨b, off, none⟩ : Addr).add k) (by rw [addr_add]; exact hb8)).trans (Hts8.out k u hu)) (fun u hu => (cells_noDig _ u hu).1) (fun u hu => (cells_noDig _ u hu).2) Hpos.out (by omega) (by omega) hb.size ?_
         intro v' w'' hL hbb
         exact hK.out _ _ v' (by simp only [fillA, fillT, List.foldl_cons, List.foldl_nil, Act.put, nb4, nb5, nb6, nb1, nb2, nb3, eB]) hL (fun h => absurd h (by decide)) hbb
        ·
         refine StepM.of rfl (fun f w' hb hp K hK => ?_)
         simp only [fillA, fillT, List.foldl_cons, List.foldl_nil, Act.put, nb4, nb5, nb6]
         go_simp
         exact hK.out _ _ (.slice (some ⟨w'.heap.size, 0, none⟩) 1 1) (by simp only [fillA, fillT, List.foldl_cons, List.foldl_nil, Act.put, nb4, nb5, nb6, nb1, nb2, nb3]) ⟨_, rfl, hb.size, blk_new _ _ _⟩ (fun h => absurd h (by decide)) ((Below.refl _ _).alloc (Nat.le_refl _) _)
        ·
         intro f w9 hb hp hd
         have h4 : LRow w9 W8.heap.size 36 2 (f 235) i (rdCells ((wLog ps).take i)) := hp 4 (by decide)
         obtain ⟨B1, e29, g29, k29⟩ : ∃ B : Nat, f 260 = .slice (some ⟨B, 0, none⟩) 1 1 ∧ W8.heap.size ≤ B ∧ w9.heap[B]? = some (.cells #[.int .i64 (A + 1), .float .f32 D] 36 (0, 0)) := hp 29 (by decide)
         simp only [fillA, fillT, List.foldl_cons, List.foldl_nil, Act.put, nb4, nb5, nb6, e29]
         generalize f 235 = vr at *
         generalize f 231 = v0 at *
         clear hp hd e29
         refine rdA (i := 30) rfl (fun K hK => ?_)
         refine step_append_lrow _ rfl (.tmp 235) (.tmp 260) 29 rfl W8.heap.size 36 ir _ 2 16 Try.underlying29 hir hz0 hz1 hz2 rfl (by decide) zdR vr i _ rfl h4 ⟨B1, 0, none⟩ 1 1 [.int .i64 (A + 1), .float .f32 D] rfl rfl (fun k u hu => by
          rw [addr_add, Nat.zero_add]
          match k, hu with
          | 0, hu => simp at hu; subst hu; exact blk_cell k29 0 _ rfl
          | 1, hu => simp at hu; subst hu; exact blk_cell k29 1 _ rfl
          | k + 2, hu => simp at hu) (by simp [Value.oneCell']) (by intro u hu; simp at hu; rcases hu with rfl | rfl; exact noDig_i64 _; exact noDig_f32 _) (by omega) (by omega) (by omega) hb.size ?_
         intro g capg wA hL5 hgr hat
         have hbA : Below W8.heap.size W8 wA := hb.grown hgr hb.size (ownBlock_base h4.1)
         refine hK.out _ _ hbA (fun hh2 => ?_)
         clear hK K h4 hat hgr k29 g29 hb
         try simp only [nbs, Act.put]
         refine tkB (i := 31) (v := ?v31) rfl ?h31 ?r31
         case h31 => intro u hSu; clear hSu; go_simp <;> with_reducible rfl
         try simp only [nbs, Act.put]
         refine wpAnyH_done (by kernel_rfl) ?_ _
         have hx9 := below_join hx8 hbA
         have HE9 := Lib.hid (HE6.out.below IsRat.belowAll hx9)
         have hbA2 := hbA.size
         go_wp2_with (at_builtin; refine wpList_append_lrow _ rfl (.tmp 265) (.tmp 268) 29 rfl W8.heap.size 36 ir _ 2 16 Try.underlying29 hir hz0 hz1 hz2 rfl (by decide) zdR _ (i + 1) _ rfl hL5 ⟨b, off + i * 2, none⟩ (ps.length - i) (capl - i) (rdCells ((wLog ps).drop i)) rfl (by rw [rdCells_len, Hdl.out]) (fun k u hu => (hbA.cell (p := (⟨b, off + i * 2, none⟩ : Addr).add k) (by rw [addr_add]; exact hb8)).trans (Hds8.out k u hu)) (fun u hu => (cells_noDig _ u hu).1) (fun u hu => (cells_noDig _ u hu).2) (by omega) (by unfold maxLen; omega) (by omega) hbA2 ?_)
         intro g2 capg2 wB hL6 hgr2 hat2
         have hbB : Below W8.heap.size W8 wB := hbA.grown hgr2 hbA2 (ownBlock_base hL5.1)
         have hx10 := below_join hx8 hbB
         have HE10 := Lib.hid (HE6.out.below IsRat.belowAll hx10)
         have hlog : LogOf wB (.slice (some ⟨g2, 0, none⟩) (i + 1 + (ps.length - i)) capg2) (wMore ps cold i) := by
          have hn : i + 1 + (ps.length - i) = (wMore ps cold i).length := by rw [Hml.out]; omega
          rw [hn] at hL6 ⊢
          refine LogOf.ofRow (w := wB) (base := W8.heap.size) (e := 36) ?_
          rw [Hcl.out, List.append_assoc]
          exact hL6
         have HLg := Lib.hid hlog
         clear hlog hL6 hgr2 hat2 hL5 hbA hbB hh2 hh hx9 HE9
         go_wp2_with fail
         refine (Used_any esK G (wMore ps cold i) t0 T _ _ _ HE10.out HLg.out szK).mono ?_
         rintro e wC ⟨rfl, hbC⟩
         rw [HU.out.1, HU.out.2]
         have hle := Hle.out
         generalize usedAll esK G (wMore ps cold i) t0 T = ZZ at *
         have tz2 : decide (ZZ > X + Y) = false := decide_eq_false (by omega)
         have hx11 := below_join hx10 hbC
         clear hle hbC hx10 HE10 HLg
         go_wp2_with fail
         exact ⟨⟨i + 1, by omega, .inl Hi1.out, by go_num, hx11⟩, by show ps.length + 1 - ((i : Int) + 1).toNat < ps.length + 1 - ((i : Int)).toNat; have := Hms.out; omega⟩
     ·
      go_wp2_with fail
      refine (awake_any _).mono ?_
      rintro e w7 ⟨rfl, hb7⟩
      go_wp2_with fail
      go_ret
      exact ⟨rfl, ext_trans Hx6.out (ext_trans hbi hb7)⟩

end Go.Proofs.Ytanmcbbnnjamoaa
