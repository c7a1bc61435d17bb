/- Part i of the lemmas and walks. -/
import Derived.Deep.DeepCutAuto
import Derived.Deep.RegionHeld
import Derived.Laws.StructEq
import Derived.Test.YtdjdnfjgklaneaaGa
import Derived.Test.YtdjdnfjgklaneaaGb
import Derived.Test.YtdjdnfjgklaneaaGc
import Derived.Test.YtdjdnfjgklaneaaGd
import Derived.Test.YtdjdnfjgklaneaaGe
import Derived.Test.YtdjdnfjgklaneaaGf
import Derived.Test.YtdjdnfjgklaneaaGg
import Derived.Test.YtdjdnfjgklaneaaGh

/- THE WALK OF store.Working (printed by wip/tools/gen_ub.py). -/
namespace Go.Proofs.Ytdjdnfjgklaneaa
open Go.RowKit

set_option maxRecDepth 100000 in
set_option maxHeartbeats 16000000 in
theorem working_any (xs : List (Int × Int × Nat)) (dust gap : Int) (x y : Rat) (va l0 l1 l2 m0 m1 m2 : Value) (w : World) (ha : AirsOf w va xs) (hx : IsRat w (.agg #[l0, l1, l2]) x) (hy : IsRat w (.agg #[m0, m1, m2]) y) (hsx : szR x 274877906944) (hsy : szR y 274877906944) :
    Calls Try.prog 33 #[va, .agg #[.int .i64 dust, l0, l1, l2, m0, m1, m2, .int .i64 gap]] w (RetPlan (workL xs dust gap x y) (workErr xs gap x y) w) := by
  obtain ⟨a1, c1, a2, c2, e1, _, _⟩ := hx.opened
  obtain ⟨a3, c3, a4, c4, e2, _, _⟩ := hy.opened
  simp only [Value.agg.injEq, Array.mk.injEq, List.cons.injEq, and_true] at e1 e2
  obtain ⟨rfl, rfl, rfl⟩ := e1
  obtain ⟨rfl, rfl, rfl⟩ := e2
  have HX := Lib.hid hx
  have HY := Lib.hid hy
  have HA := Lib.hid ha
  obtain ⟨ao, cap, rfl, _⟩ := ha
  have Hsx := Lib.hid hsx
  have Hsy := Lib.hid hsy
  clear hx hy hsx hsy
  generalize decide (x.num < 0) = s1 at *
  generalize decide (y.num < 0) = s2 at *
  generalize (dig b64 x.num.natAbs).length = n1 at *
  generalize (dig b64 (dn x.den)).length = n2 at *
  generalize (dig b64 y.num.natAbs).length = n3 at *
  generalize (dig b64 (dn y.den)).length = n4 at *
  have hal := (Below.refl w.heap.size w).alloc (Nat.le_refl _) (.cells #[.int .i64 dust, .bool s1, .slice a1 n1 c1, .slice a2 n2 c2, .bool s2, .slice a3 n3 c3, .slice a4 n4 c4, .int .i64 gap] 97)
  have hB := blk_new w #[.int .i64 dust, .bool s1, .slice a1 n1 c1, .slice a2 n2 c2, .bool s2, .slice a3 n3 c3, .slice a4 n4 c4, .int .i64 gap] 97
  have r7 := blk_cell hB 7 (.int .i64 gap) rfl
  by_cases h1 : 256 < xs.length
  · have t1 : decide ((xs.length : Int) > 256) = true := by simp; omega
    have Hv : Hid (workErr xs gap x y = 4) := by show _ = _; unfold workErr; rw [if_pos h1]
    have Hl : Hid (workL xs dust gap x y = []) := by show _ = _; unfold workL; rw [Hv.out, if_neg (by decide)]
    clear h1
    go_enter Try.func33, Try.ntmps33
    go_wp2_with fail
    go_ret2
    exact ⟨.slice none 0 0, by rw [Hv.out]; rfl, by rw [Hl.out]; exact PairsOf.nil _, hal⟩
  · have t1 : decide ((xs.length : Int) > 256) = false := by simp; omega
    have hlen : xs.length ≤ 256 := by omega
    have Hw1 : Hid (workErr xs gap x y = if gapB gap = false then 1 else if 0 < cmpR x y then 7 else firstErr (airErr xs) xs.length) := by show _ = _; unfold workErr; rw [if_neg h1]
    clear h1
    cases hg : gapB gap with
    | false =>
      have Hv : Hid (workErr xs gap x y = 1) := by show _ = _; rw [Hw1.out, if_pos hg]
      have Hl : Hid (workL xs dust gap x y = []) := by show _ = _; unfold workL; rw [Hv.out, if_neg (by decide)]
      go_enter Try.func33, Try.ntmps33
      go_wp2_with fail
      refine (gap_any gap _).mono ?_
      rintro e wz ⟨rfl, rfl⟩
      rw [hg]
      go_wp2_with fail
      go_ret2
      exact ⟨.slice none 0 0, by rw [Hv.out]; rfl, by rw [Hl.out]; exact PairsOf.nil _, hal⟩
    | true =>
      have Hw2 : Hid (workErr xs gap x y = if 0 < cmpR x y then 7 else firstErr (airErr xs) xs.length) := by show _ = _; rw [Hw1.out, if_neg (by rw [hg]; decide)]
      clear Hw1
      have r1 := blk_cell hB 1 (.bool s1) rfl
      have r2 := blk_cell hB 2 (.slice a1 n1 c1) rfl
      have r3 := blk_cell hB 3 (.slice a2 n2 c2) rfl
      have r4 := blk_cell hB 4 (.bool s2) rfl
      have r5 := blk_cell hB 5 (.slice a3 n3 c3) rfl
      have r6 := blk_cell hB 6 (.slice a4 n4 c4) rfl
      have HX1 := Lib.hid (HX.out.below hal)
      have HY1 := Lib.hid (HY.out.below hal)
      have HA1 := Lib.hid (HA.out.below hal)
      go_enter Try.func33, Try.ntmps33
      go_wp2_with fail
      refine (gap_any gap _).mono ?_
      rintro e wz ⟨rfl, rfl⟩
      rw [hg]
      clear hg
      go_wp2_with fail
      refine (cmpRat_any x y _ _ _ HX1.out HY1.out Hsx.out Hsy.out).mono ?_
      rintro e w2 ⟨rfl, hb2⟩
      have hx2 := ext_trans hal hb2
      by_cases h3 : 0 < cmpR x y
      · have t3 : decide (cmpR x y > 0) = true := decide_eq_true h3
        have Hv : Hid (workErr xs gap x y = 7) := by show _ = _; rw [Hw2.out, if_pos h3]
        have Hl : Hid (workL xs dust gap x y = []) := by show _ = _; unfold workL; rw [Hv.out, if_neg (by decide)]
        clear h3
        generalize cmpR x y = cv at *
        go_wp2_with fail
        go_ret2
        exact ⟨.slice none 0 0, by rw [Hv.out]; rfl, by rw [Hl.out]; exact PairsOf.nil _, hx2⟩
      · have t3 : decide (cmpR x y > 0) = false := decide_eq_false h3
        have Hw : Hid (workErr xs gap x y = firstErr (airErr xs) xs.length) := by show _ = _; rw [Hw2.out, if_neg h3]
        have HX2 := Lib.hid (HX1.out.below hb2)
        have HY2 := Lib.hid (HY1.out.below hb2)
        have HA2 := Lib.hid (HA1.out.below hb2)
        have hB2 := blk_keep hB hb2 (by simp)
        have hBl2 := blk_lt hB2
        clear h3 Hw2 HX HY HX1 HY1 HA HA1 r1 r2 r3 r4 r5 r6 r7 hB hb2 hal
        generalize cmpR x y = cv at *
        have hsf := run_store_f32
        obtain ⟨iB, hiB, hzB, hsB, hyB⟩ := info_parts info_bool
        obtain ⟨iS, hiS, hzS, hsS, hyS⟩ := info_parts info_span
        go_wp2_with fail
        go_loopw [6, 32] (fun rv iv wr => ∃ (i : Nat), i ≤ xs.length ∧ iv = .int .i64 i ∧ Hid (firstErr (airErr xs) i = 0) ∧ LRow wr w2.heap.size 4 1 rv i (rights xs dust x y i) ∧ Below w2.heap.size w2 wr)
          (fun _ iv _ => xs.length - (intOf iv).toNat)
        case atStart => exact ⟨0, Nat.zero_le _, rfl, rfl, LRow.nil _ _ _ _, Below.refl _ _⟩
        case round =>
          obtain ⟨i, hi, rfl, hF, hL, hbel⟩ := hrel
          by_cases hlt : i < xs.length
          · obtain ⟨ao', cap', ea, hA⟩ := HA2.out
            simp only [Value.slice.injEq, true_and] at ea
            obtain ⟨rfl, rfl⟩ := ea
            obtain ⟨b, off, rfl, hbl, hEE⟩ := hA (by omega)
            obtain ⟨g0, g1, g2⟩ := (hEE i hlt).below hbel hbl
            have HEE := Lib.hid hEE
            have hst := Lib.hid (firstErr_step hF.out)
            have hstay : Hid (airErr xs i ≠ 0 → workErr xs gap x y = airErr xs i) := fun h => by
              rw [Hw.out, ← hst.out]
              exact firstErr_stay (by rw [hst.out]; exact h) hlt
            have hlt' : (i : Int) < xs.length := by omega
            have hge' : (0 : Int) ≤ i := by omega
            have hbl2 : b < wr.heap.size := Nat.lt_of_lt_of_le hbl hbel.size
            have Hent0 : Hid (airErr xs i = if timeB (xs.getD i (0, 0, 0)).1 = false ∨ (xs.getD i (0, 0, 0)).2.1 < 0 ∨ tempOk (xs.getD i (0, 0, 0)).2.2 = false then 1 else if 0 < i ∧ (xs.getD i (0, 0, 0)).1 ≤ (xs.getD (i - 1) (0, 0, 0)).1 then 7 else 0) := rfl
            have Hri : Hid (rightAt xs dust x y i = (decide ((xs.getD i (0, 0, 0)).2.1 ≤ dust) && (decide (cmpR x (tempQ (xs.getD i (0, 0, 0)).2.2) ≤ 0) && decide (cmpR (tempQ (xs.getD i (0, 0, 0)).2.2) y ≤ 0)))) := rfl
            have bad : ∀ k : Int, airErr xs i = k → k ≠ 0 → Hid (workErr xs gap x y = k ∧ workL xs dust gap x y = []) := fun k h hk => by
              have h2 : workErr xs gap x y = k := by rw [hstay.out (by rw [h]; exact hk), h]
              exact ⟨h2, by unfold workL; rw [h2, if_neg hk]⟩
            clear hEE hA
            generalize hty : (xs.getD i (0, 0, 0)).1 = ty at *
            generalize (xs.getD i (0, 0, 0)).2.1 = du at *
            generalize (xs.getD i (0, 0, 0)).2.2 = bt at *
            clear hty
            have hBr := blk_keep hB2 hbel hBl2
            have hal1 := (Below.refl wr.heap.size wr).alloc (Nat.le_refl _) (.cells #[.int .i64 ty, .int .i64 du, .float .f32 bt] 91)
            have hN := blk_new wr #[.int .i64 ty, .int .i64 du, .float .f32 bt] 91
            have hsq := tempQ_szR bt
            have Hsq : Hid (szR (tempQ bt) 274877906944) := ⟨Nat.le_trans hsq.1 (by omega), Nat.le_trans hsq.2 (by omega)⟩
            clear hsq
            go_wp2_with fail
            refine (exact_any bt _).mono ?_
            rintro e w3 ⟨v, rfl, hv, hb3⟩
            have hxa : Below wr.heap.size wr w3 := ext_trans hal1 hb3
            obtain ⟨a5, c5, a6, c6, rfl, _, _⟩ := hv.opened
            have HQ := Lib.hid hv
            have hN3 := blk_keep hN hb3 (by simp)
            have q0 := blk_cell hN3 0 (.int .i64 ty) rfl
            have q1 := blk_cell hN3 1 (.int .i64 du) rfl
            clear hv hb3 hal1 hN
            generalize tempQ bt = q at *
            generalize hs5 : decide (q.num < 0) = s5 at *
            generalize hn5 : (dig b64 q.num.natAbs).length = n5 at *
            generalize hn6 : (dig b64 (dn q.den)).length = n6 at *
            clear hs5 hn5 hn6
            have hxb : Below wr.heap.size wr (w3.alloc (.cells #[.bool s5, .slice a5 n5 c5, .slice a6 n6 c6] 45)) := hxa.alloc hxa.size _
            have hx4 : Below w2.heap.size w2 (w3.alloc (.cells #[.bool s5, .slice a5 n5 c5, .slice a6 n6 c6] 45)) := hbel.trans (hxb.mono hbel.size)
            have hN4 : (w3.alloc (.cells #[.bool s5, .slice a5 n5 c5, .slice a6 n6 c6] 45)).heap[wr.heap.size]? = some (.cells #[.int .i64 ty, .int .i64 du, .float .f32 bt] 91 (0, 0)) := blk_keep hN3 ((Below.refl _ _).alloc (Nat.le_refl _) _) (blk_lt hN3)
            have hBl4 := blk_lt hN4
            have u0 := blk_cell hN4 0 (.int .i64 ty) rfl
            have u1 := blk_cell hN4 1 (.int .i64 du) rfl
            go_wp2_with fail
            refine (time_any ty _).mono ?_
            rintro e wz ⟨rfl, rfl⟩
            cases hT : timeB ty with
            | false =>
              have Hv := bad 1 (by rw [Hent0.out, if_pos (.inl hT)]) (by decide)
              clear bad hT
              go_wp2_with fail
              go_ret2
              exact ⟨.slice none 0 0, by rw [Hv.out.1]; rfl, by rw [Hv.out.2]; exact PairsOf.nil _, hx2.trans (hx4.mono hx2.size)⟩
            | true =>
              by_cases hdu : du < 0
              · have td : decide (du < 0) = true := decide_eq_true hdu
                have Hv := bad 1 (by rw [Hent0.out, if_pos (.inr (.inl hdu))]) (by decide)
                clear bad hT hdu
                go_wp2_with fail
                go_ret2
                exact ⟨.slice none 0 0, by rw [Hv.out.1]; rfl, by rw [Hv.out.2]; exact PairsOf.nil _, hx2.trans (hx4.mono hx2.size)⟩
              · have td : decide (du < 0) = false := decide_eq_false hdu
                cases hK : tempOk bt with
                | false =>
                  have Hv := bad 1 (by rw [Hent0.out, if_pos (.inr (.inr hK))]) (by decide)
                  clear bad hT hdu hK
                  go_wp2_with fail
                  go_ret2
                  exact ⟨.slice none 0 0, by rw [Hv.out.1]; rfl, by rw [Hv.out.2]; exact PairsOf.nil _, hx2.trans (hx4.mono hx2.size)⟩
                | true =>
                  have Hent : Hid (airErr xs i = if 0 < i ∧ ty ≤ (xs.getD (i - 1) (0, 0, 0)).1 then 7 else 0) := by
                    show _ = _
                    rw [Hent0.out, if_neg (by rw [hT, hK]; simp; omega)]
                  clear hT hK hdu Hent0
                  have hxd : Below wr.heap.size wr (w3.alloc (.cells #[.bool s5, .slice a5 n5 c5, .slice a6 n6 c6] 45)).drew := hxb.drew
                  have hN5 : (w3.alloc (.cells #[.bool s5, .slice a5 n5 c5, .slice a6 n6 c6] 45)).drew.heap[wr.heap.size]? = some (.cells #[.int .i64 ty, .int .i64 du, .float .f32 bt] 91 (0, 0)) := hN4
                  have hD5 : (w3.alloc (.cells #[.bool s5, .slice a5 n5 c5, .slice a6 n6 c6] 45)).drew.heap[w3.heap.size]? = some (.cells #[.bool s5, .slice a5 n5 c5, .slice a6 n6 c6] 45 (0, 0)) := blk_new w3 #[.bool s5, .slice a5 n5 c5, .slice a6 n6 c6] 45
                  have HQ5 := Lib.hid (HQ.out.below ((Below.refl w3.heap.size w3).alloc (Nat.le_refl _) (.cells #[.bool s5, .slice a5 n5 c5, .slice a6 n6 c6] 45)).drew)
                  rcases Nat.eq_zero_or_pos i with hi0 | hi0
                  · have ti : decide (0 < i) = false := by simp [hi0]
                    have Hv : Hid (firstErr (airErr xs) (i + 1) = 0) := by
                      show _ = _
                      rw [hst.out, Hent.out, if_neg (by omega)]
                    clear hi0 bad
                    go_wp2_with fail
                    go_region
                    clear ti
                    generalize (w3.alloc (.cells #[.bool s5, .slice a5 n5 c5, .slice a6 n6 c6] 45)).drew = W5 at *
                    generalize w3.heap.size = D5 at *
                    have b1 := blk_cell hN5 1 (.int .i64 du) rfl
                    have hNl5 := blk_lt hN5
                    have hB5 := blk_keep hBr hxd (blk_lt hBr)
                    have hBl5 := blk_lt hB5
                    have p0 := blk_cell hB5 0 (.int .i64 dust) rfl
                    have p1 := blk_cell hB5 1 (.bool s1) rfl
                    have p2 := blk_cell hB5 2 (.slice a1 n1 c1) rfl
                    have p3 := blk_cell hB5 3 (.slice a2 n2 c2) rfl
                    have d0 := blk_cell hD5 0 (.bool s5) rfl
                    have d1 := blk_cell hD5 1 (.slice a5 n5 c5) rfl
                    have d2 := blk_cell hD5 2 (.slice a6 n6 c6) rfl
                    have hDl5 := blk_lt hD5
                    have HX5 := Lib.hid (HX2.out.below (hbel.trans (hxd.mono hbel.size)))
                    have HY5 := Lib.hid (HY2.out.below (hbel.trans (hxd.mono hbel.size)))
                    clear hBr hxb hx4 hN4 u0 u1 hN3 q0 q1 hxa HQ g0 g1 g2 hN5
                    by_cases hdd : du ≤ dust
                    · have tdd : decide (du ≤ dust) = true := decide_eq_true hdd
                      have Hr2 : Hid (rightAt xs dust x y i = (decide (cmpR x q ≤ 0) && decide (cmpR q y ≤ 0))) := by show _ = _; rw [Hri.out, tdd]; simp
                      clear hdd Hri
                      go_wp2_with fail
                      refine (cmpRat_any x q _ _ _ HX5.out HQ5.out Hsx.out Hsq.out).mono ?_
                      rintro e w6 ⟨rfl, hb6⟩
                      have hx6 := ext_trans hxd hb6
                      have hD6 := blk_keep hD5 hb6 hDl5
                      have hB6 := blk_keep hB5 hb6 hBl5
                      by_cases h6 : cmpR x q ≤ 0
                      · have t6 : decide (cmpR x q ≤ 0) = true := decide_eq_true h6
                        have Hr3 : Hid (rightAt xs dust x y i = decide (cmpR q y ≤ 0)) := by show _ = _; rw [Hr2.out, t6]; simp
                        have HQ6 := Lib.hid (HQ5.out.below hb6)
                        have HY6 := Lib.hid (HY5.out.below hb6)
                        have z0 := blk_cell hD6 0 (.bool s5) rfl
                        have z1 := blk_cell hD6 1 (.slice a5 n5 c5) rfl
                        have z2 := blk_cell hD6 2 (.slice a6 n6 c6) rfl
                        have z4 := blk_cell hB6 4 (.bool s2) rfl
                        have z5 := blk_cell hB6 5 (.slice a3 n3 c3) rfl
                        have z6 := blk_cell hB6 6 (.slice a4 n4 c4) rfl
                        have hDl6 := blk_lt hD6
                        have hBl6 := blk_lt hB6
                        clear h6 Hr2 hb6 hxd d0 d1 d2 p0 p1 p2 p3 b1
                        generalize cmpR x q = cw at *
                        go_wp2_with fail
                        refine (cmpRat_any q y _ _ _ HQ6.out HY6.out Hsq.out Hsy.out).mono ?_
                        rintro e w7 ⟨rfl, hb7⟩
                        have hx7 := ext_trans hx6 hb7
                        clear hb7 z0 z1 z2 z4 z5 z6 hx6
                        generalize cmpR q y = cz at *
                        have hxz : Below wr.heap.size wr (w7.alloc (.cells #[.bool (decide (cz ≤ 0))] 4)) := (hx7).alloc (hx7).size _
                        have HLz := Lib.hid (hL.below hxz)
                        have hsz : w2.heap.size ≤ (w7.alloc (.cells #[.bool (decide (cz ≤ 0))] 4)).heap.size := Nat.le_trans hbel.size hxz.size
                        clear hL
                        go_wp2_with (at_builtin; refine wpList_append_lrow _ rfl (.tmp 71) (.tmp 91) 148 rfl w2.heap.size 4 iB _ 1 1 Try.underlying148 hiB hzB hsB hyB rfl (by decide) zd1b _ _ _ rfl HLz.out ⟨w7.heap.size, 0, none⟩ 1 1 [.bool (decide (cz ≤ 0))] rfl rfl (cell_new1b _ _ _) (one1b _) (nd1b _) (by omega) (by unfold maxLen; omega) (by omega) hsz ?_)
                        intro g cap9 w8 hL8 hgr hat
                        have hx8 : Below w2.heap.size w2 w8 := (hbel.trans (hxz.mono hbel.size)).grown hgr hsz (ownBlock_base HLz.out.1)
                        go_wp2_with fail
                        exact ⟨⟨i + 1, by omega, by go_num, Hv.out, by rw [rights_succ, Hr3.out]; exact hL8, hx8⟩, meas_up hlt⟩
                      · have t6 : decide (cmpR x q ≤ 0) = false := decide_eq_false h6
                        have Hr3 : Hid (rightAt xs dust x y i = false) := by show _ = _; rw [Hr2.out, t6]; simp
                        clear h6 Hr2 hb6 hxd d0 d1 d2 p0 p1 p2 p3 b1
                        generalize cmpR x q = cw at *
                        have hxz : Below wr.heap.size wr (w6.alloc (.cells #[.bool (false)] 4)) := (hx6).alloc (hx6).size _
                        have HLz := Lib.hid (hL.below hxz)
                        have hsz : w2.heap.size ≤ (w6.alloc (.cells #[.bool (false)] 4)).heap.size := Nat.le_trans hbel.size hxz.size
                        clear hL
                        go_wp2_with (at_builtin; refine wpList_append_lrow _ rfl (.tmp 71) (.tmp 91) 148 rfl w2.heap.size 4 iB _ 1 1 Try.underlying148 hiB hzB hsB hyB rfl (by decide) zd1b _ _ _ rfl HLz.out ⟨w6.heap.size, 0, none⟩ 1 1 [.bool (false)] rfl rfl (cell_new1b _ _ _) (one1b _) (nd1b _) (by omega) (by unfold maxLen; omega) (by omega) hsz ?_)
                        intro g cap9 w8 hL8 hgr hat
                        have hx8 : Below w2.heap.size w2 w8 := (hbel.trans (hxz.mono hbel.size)).grown hgr hsz (ownBlock_base HLz.out.1)
                        go_wp2_with fail
                        exact ⟨⟨i + 1, by omega, by go_num, Hv.out, by rw [rights_succ, Hr3.out]; exact hL8, hx8⟩, meas_up hlt⟩
                    · have tdd : decide (du ≤ dust) = false := decide_eq_false hdd
                      have Hr3 : Hid (rightAt xs dust x y i = false) := by show _ = _; rw [Hri.out, tdd]; simp
                      clear hdd Hri
                      have hxz : Below wr.heap.size wr (W5.alloc (.cells #[.bool (false)] 4)) := (hxd).alloc (hxd).size _
                      have HLz := Lib.hid (hL.below hxz)
                      have hsz : w2.heap.size ≤ (W5.alloc (.cells #[.bool (false)] 4)).heap.size := Nat.le_trans hbel.size hxz.size
                      clear hL
                      go_wp2_with (at_builtin; refine wpList_append_lrow _ rfl (.tmp 71) (.tmp 91) 148 rfl w2.heap.size 4 iB _ 1 1 Try.underlying148 hiB hzB hsB hyB rfl (by decide) zd1b _ _ _ rfl HLz.out ⟨W5.heap.size, 0, none⟩ 1 1 [.bool (false)] rfl rfl (cell_new1b _ _ _) (one1b _) (nd1b _) (by omega) (by unfold maxLen; omega) (by omega) hsz ?_)
                      intro g cap9 w8 hL8 hgr hat
                      have hx8 : Below w2.heap.size w2 w8 := (hbel.trans (hxz.mono hbel.size)).grown hgr hsz (ownBlock_base HLz.out.1)
                      go_wp2_with fail
                      exact ⟨⟨i + 1, by omega, by go_num, Hv.out, by rw [rights_succ, Hr3.out]; exact hL8, hx8⟩, meas_up hlt⟩
                  · have ti : decide (0 < i) = true := by simp [hi0]
                    obtain ⟨j, hj⟩ : ∃ j, i = j + 1 := ⟨i - 1, by omega⟩
                    obtain ⟨k0, _, _⟩ := (HEE.out j (by omega)).below hx4 hbl
                    have e1' : IntKind.i64.wrap ((i : Int) - 1) = (j : Int) := by rw [show (i : Int) - 1 = (j : Int) by omega]; exact IntWalk.i64_in _ (by omega)
                    have e2' : (i : Int) - 1 = (j : Int) := by omega
                    have hj2 : (j : Int) < xs.length := by omega
                    have hj0 : (0 : Int) ≤ j := by omega
                    have hbl3 : b < (w3.alloc (.cells #[.bool s5, .slice a5 n5 c5, .slice a6 n6 c6] 45)).heap.size := Nat.lt_of_lt_of_le hbl hx4.size
                    have e3 : i - 1 = j := by omega
                    rw [e3] at Hent
                    generalize (xs.getD j (0, 0, 0)).1 = tj at *
                    by_cases hle : ty ≤ tj
                    · have hc : decide (ty ≤ tj) = true := decide_eq_true hle
                      have Hv := bad 7 (by rw [Hent.out, if_pos ⟨hi0, hle⟩]) (by decide)
                      clear hle hi0 hj e3 bad
                      go_wp2_with fail
                      go_region
                      go_wp2_with fail
                      go_ret2
                      exact ⟨.slice none 0 0, by rw [Hv.out.1]; rfl, by rw [Hv.out.2]; exact PairsOf.nil _, hx2.trans (hx4.drew.mono hx2.size)⟩
                    · have hc : decide (ty ≤ tj) = false := decide_eq_false hle
                      have Hv : Hid (firstErr (airErr xs) (i + 1) = 0) := by
                        show _ = _
                        rw [hst.out, Hent.out, if_neg (fun h => hle h.2)]
                      clear hle hi0 hj e3 bad
                      go_wp2_with fail
                      go_region
                      clear ti hc k0 e1' e2' hj2 hj0 hbl3
                      generalize (w3.alloc (.cells #[.bool s5, .slice a5 n5 c5, .slice a6 n6 c6] 45)).drew = W5 at *
                      generalize w3.heap.size = D5 at *
                      have b1 := blk_cell hN5 1 (.int .i64 du) rfl
                      have hNl5 := blk_lt hN5
                      have hB5 := blk_keep hBr hxd (blk_lt hBr)
                      have hBl5 := blk_lt hB5
                      have p0 := blk_cell hB5 0 (.int .i64 dust) rfl
                      have p1 := blk_cell hB5 1 (.bool s1) rfl
                      have p2 := blk_cell hB5 2 (.slice a1 n1 c1) rfl
                      have p3 := blk_cell hB5 3 (.slice a2 n2 c2) rfl
                      have d0 := blk_cell hD5 0 (.bool s5) rfl
                      have d1 := blk_cell hD5 1 (.slice a5 n5 c5) rfl
                      have d2 := blk_cell hD5 2 (.slice a6 n6 c6) rfl
                      have hDl5 := blk_lt hD5
                      have HX5 := Lib.hid (HX2.out.below (hbel.trans (hxd.mono hbel.size)))
                      have HY5 := Lib.hid (HY2.out.below (hbel.trans (hxd.mono hbel.size)))
                      clear hBr hxb hx4 hN4 u0 u1 hN3 q0 q1 hxa HQ g0 g1 g2 hN5
                      by_cases hdd : du ≤ dust
                      · have tdd : decide (du ≤ dust) = true := decide_eq_true hdd
                        have Hr2 : Hid (rightAt xs dust x y i = (decide (cmpR x q ≤ 0) && decide (cmpR q y ≤ 0))) := by show _ = _; rw [Hri.out, tdd]; simp
                        clear hdd Hri
                        go_wp2_with fail
                        refine (cmpRat_any x q _ _ _ HX5.out HQ5.out Hsx.out Hsq.out).mono ?_
                        rintro e w6 ⟨rfl, hb6⟩
                        have hx6 := ext_trans hxd hb6
                        have hD6 := blk_keep hD5 hb6 hDl5
                        have hB6 := blk_keep hB5 hb6 hBl5
                        by_cases h6 : cmpR x q ≤ 0
                        · have t6 : decide (cmpR x q ≤ 0) = true := decide_eq_true h6
                          have Hr3 : Hid (rightAt xs dust x y i = decide (cmpR q y ≤ 0)) := by show _ = _; rw [Hr2.out, t6]; simp
                          have HQ6 := Lib.hid (HQ5.out.below hb6)
                          have HY6 := Lib.hid (HY5.out.below hb6)
                          have z0 := blk_cell hD6 0 (.bool s5) rfl
                          have z1 := blk_cell hD6 1 (.slice a5 n5 c5) rfl
                          have z2 := blk_cell hD6 2 (.slice a6 n6 c6) rfl
                          have z4 := blk_cell hB6 4 (.bool s2) rfl
                          have z5 := blk_cell hB6 5 (.slice a3 n3 c3) rfl
                          have z6 := blk_cell hB6 6 (.slice a4 n4 c4) rfl
                          have hDl6 := blk_lt hD6
                          have hBl6 := blk_lt hB6
                          clear h6 Hr2 hb6 hxd d0 d1 d2 p0 p1 p2 p3 b1
                          generalize cmpR x q = cw at *
                          go_wp2_with fail
                          refine (cmpRat_any q y _ _ _ HQ6.out HY6.out Hsq.out Hsy.out).mono ?_
                          rintro e w7 ⟨rfl, hb7⟩
                          have hx7 := ext_trans hx6 hb7
                          clear hb7 z0 z1 z2 z4 z5 z6 hx6
                          generalize cmpR q y = cz at *
                          have hxz : Below wr.heap.size wr (w7.alloc (.cells #[.bool (decide (cz ≤ 0))] 4)) := (hx7).alloc (hx7).size _
                          have HLz := Lib.hid (hL.below hxz)
                          have hsz : w2.heap.size ≤ (w7.alloc (.cells #[.bool (decide (cz ≤ 0))] 4)).heap.size := Nat.le_trans hbel.size hxz.size
                          clear hL
                          go_wp2_with (at_builtin; refine wpList_append_lrow _ rfl (.tmp 71) (.tmp 91) 148 rfl w2.heap.size 4 iB _ 1 1 Try.underlying148 hiB hzB hsB hyB rfl (by decide) zd1b _ _ _ rfl HLz.out ⟨w7.heap.size, 0, none⟩ 1 1 [.bool (decide (cz ≤ 0))] rfl rfl (cell_new1b _ _ _) (one1b _) (nd1b _) (by omega) (by unfold maxLen; omega) (by omega) hsz ?_)
                          intro g cap9 w8 hL8 hgr hat
                          have hx8 : Below w2.heap.size w2 w8 := (hbel.trans (hxz.mono hbel.size)).grown hgr hsz (ownBlock_base HLz.out.1)
                          go_wp2_with fail
                          exact ⟨⟨i + 1, by omega, by go_num, Hv.out, by rw [rights_succ, Hr3.out]; exact hL8, hx8⟩, meas_up hlt⟩
                        · have t6 : decide (cmpR x q ≤ 0) = false := decide_eq_false h6
                          have Hr3 : Hid (rightAt xs dust x y i = false) := by show _ = _; rw [Hr2.out, t6]; simp
                          clear h6 Hr2 hb6 hxd d0 d1 d2 p0 p1 p2 p3 b1
                          generalize cmpR x q = cw at *
                          have hxz : Below wr.heap.size wr (w6.alloc (.cells #[.bool (false)] 4)) := (hx6).alloc (hx6).size _
                          have HLz := Lib.hid (hL.below hxz)
                          have hsz : w2.heap.size ≤ (w6.alloc (.cells #[.bool (false)] 4)).heap.size := Nat.le_trans hbel.size hxz.size
                          clear hL
                          go_wp2_with (at_builtin; refine wpList_append_lrow _ rfl (.tmp 71) (.tmp 91) 148 rfl w2.heap.size 4 iB _ 1 1 Try.underlying148 hiB hzB hsB hyB rfl (by decide) zd1b _ _ _ rfl HLz.out ⟨w6.heap.size, 0, none⟩ 1 1 [.bool (false)] rfl rfl (cell_new1b _ _ _) (one1b _) (nd1b _) (by omega) (by unfold maxLen; omega) (by omega) hsz ?_)
                          intro g cap9 w8 hL8 hgr hat
                          have hx8 : Below w2.heap.size w2 w8 := (hbel.trans (hxz.mono hbel.size)).grown hgr hsz (ownBlock_base HLz.out.1)
                          go_wp2_with fail
                          exact ⟨⟨i + 1, by omega, by go_num, Hv.out, by rw [rights_succ, Hr3.out]; exact hL8, hx8⟩, meas_up hlt⟩
                      · have tdd : decide (du ≤ dust) = false := decide_eq_false hdd
                        have Hr3 : Hid (rightAt xs dust x y i = false) := by show _ = _; rw [Hri.out, tdd]; simp
                        clear hdd Hri
                        have hxz : Below wr.heap.size wr (W5.alloc (.cells #[.bool (false)] 4)) := (hxd).alloc (hxd).size _
                        have HLz := Lib.hid (hL.below hxz)
                        have hsz : w2.heap.size ≤ (W5.alloc (.cells #[.bool (false)] 4)).heap.size := Nat.le_trans hbel.size hxz.size
                        clear hL
                        go_wp2_with (at_builtin; refine wpList_append_lrow _ rfl (.tmp 71) (.tmp 91) 148 rfl w2.heap.size 4 iB _ 1 1 Try.underlying148 hiB hzB hsB hyB rfl (by decide) zd1b _ _ _ rfl HLz.out ⟨W5.heap.size, 0, none⟩ 1 1 [.bool (false)] rfl rfl (cell_new1b _ _ _) (one1b _) (nd1b _) (by omega) (by unfold maxLen; omega) (by omega) hsz ?_)
                        intro g cap9 w8 hL8 hgr hat
                        have hx8 : Below w2.heap.size w2 w8 := (hbel.trans (hxz.mono hbel.size)).grown hgr hsz (ownBlock_base HLz.out.1)
                        go_wp2_with fail
                        exact ⟨⟨i + 1, by omega, by go_num, Hv.out, by rw [rights_succ, Hr3.out]; exact hL8, hx8⟩, meas_up hlt⟩
          · obtain rfl : i = xs.length := by omega
            have Hf : Hid (workErr xs gap x y = 0) := by show _ = _; rw [Hw.out, hF.out]
            have Hl : Hid (workL xs dust gap x y = workTo xs dust gap x y xs.length) := by show _ = _; unfold workL; rw [if_pos Hf.out]
            have HT := Lib.hid (work_ok hF.out)
            have HR := Lib.hid (BoolsOf.ofRow hL)
            have HA9 := Lib.hid (HA2.out.below hbel)
            have hx9 := hx2.trans (hbel.mono hx2.size)
            have hB9 := blk_keep hB2 hbel hBl2
            have hBl9 := blk_lt hB9
            clear hF hL HA2 hB2 hBl2 HX2 HY2 Hsx Hsy hbel hx2 hi hlt t1 t3 Hw
            obtain ⟨aoR, capR, rfl, hR⟩ := HR.out
            have HRR := Lib.hid hR
            clear hR HR
            generalize wr = w9 at *
            go_wp2_with fail
            go_loopw [11, 12] (fun ov iv wq => ∃ (i : Nat), 1 ≤ i ∧ (i ≤ xs.length ∨ i = 1) ∧ iv = .int .i64 i ∧ LRow wq w9.heap.size 112 2 ov (workTo xs dust gap x y i).length (pairCells (workTo xs dust gap x y i)) ∧ Below w9.heap.size w9 wq)
              (fun _ iv _ => xs.length - (intOf iv).toNat)
            case atStart => exact ⟨1, Nat.le_refl _, .inr rfl, rfl, LRow.nil _ _ _ _, Below.refl _ _⟩
            case round =>
              obtain ⟨i, hi1, hi, rfl, hL, hbel⟩ := hrel
              by_cases hlt : i < xs.length
              · obtain ⟨ao', cap', ea, hA⟩ := HA9.out
                simp only [Value.slice.injEq, true_and] at ea
                obtain ⟨rfl, rfl⟩ := ea
                obtain ⟨b, off, rfl, hbl, hEE⟩ := hA (by omega)
                obtain ⟨gR, rfl, hgR, hRR⟩ := HRR.out (by omega)
                obtain ⟨j, hj⟩ : ∃ j, i = j + 1 := ⟨i - 1, by omega⟩
                obtain ⟨g0, _, _⟩ := (hEE i hlt).below hbel hbl
                obtain ⟨k0, _, _⟩ := (hEE j (by omega)).below hbel hbl
                have hr1 := (hbel.cell (p := ⟨gR, i, none⟩) hgR).trans (hRR i hlt)
                have hr0 := (hbel.cell (p := ⟨gR, j, none⟩) hgR).trans (hRR j (by omega))
                have e7 := blk_cell (blk_keep hB9 hbel hBl9) 7 (.int .i64 gap) rfl
                have e1' : IntKind.i64.wrap ((i : Int) - 1) = (j : Int) := by rw [show (i : Int) - 1 = (j : Int) by omega]; exact IntWalk.i64_in _ (by omega)
                have e2' : (i : Int) - 1 = (j : Int) := by omega
                have hj2 : (j : Int) < xs.length := by omega
                have hj0 : (0 : Int) ≤ j := by omega
                have hlt' : (i : Int) < xs.length := by omega
                have hge' : (0 : Int) ≤ i := by omega
                have hbl2 : b < wr.heap.size := Nat.lt_of_lt_of_le hbl hbel.size
                have hgR2 : gR < wr.heap.size := Nat.lt_of_lt_of_le hgR hbel.size
                have hBl3 : w.heap.size < wr.heap.size := Nat.lt_of_lt_of_le hBl9 hbel.size
                have hti := HT.out i hlt
                have htj := HT.out j (by omega)
                have e3 : i - 1 = j := by omega
                have Hjo : Hid (joinB xs dust gap x y i = (rightAt xs dust x y j && (rightAt xs dust x y i && decide ((xs.getD i (0, 0, 0)).1 - (xs.getD j (0, 0, 0)).1 ≤ gap)))) := by show _ = _; unfold joinB; rw [e3]
                have Hsk : Hid (joinB xs dust gap x y i = false → workTo xs dust gap x y (i + 1) = workTo xs dust gap x y i) := workTo_skip hi1
                have Hjn : Hid (joinB xs dust gap x y i = true → workTo xs dust gap x y (i + 1) = addSpan (workTo xs dust gap x y i) (xs.getD j (0, 0, 0)).1 (xs.getD i (0, 0, 0)).1) := fun h => by rw [workTo_join hi1 h, e3]
                have hwl := workTo_length xs dust gap x y i
                clear hEE hRR hA hj e3
                generalize (xs.getD i (0, 0, 0)).1 = ti at *
                generalize (xs.getD j (0, 0, 0)).1 = tj at *
                generalize rightAt xs dust x y i = ri at *
                generalize rightAt xs dust x y j = rj at *
                generalize workTo xs dust gap x y i = l at *
                have hws : IntKind.i64.wrap (ti - tj) = ti - tj := IntWalk.i64_in _ (by omega)
                cases rj with
                | false =>
                  have Hs := Lib.hid (Hsk.out (by rw [Hjo.out]; simp))
                  clear Hsk Hjn Hjo
                  go_wp2_with fail
                  go_region
                  go_wp2_with fail
                  exact ⟨⟨i + 1, by omega, .inl (by omega), by go_num, by rw [Hs.out]; exact hL.below (Below.refl _ _).drew, hbel.drew⟩, meas_up hlt⟩
                | true =>
                  cases ri with
                  | false =>
                    have Hs := Lib.hid (Hsk.out (by rw [Hjo.out]; simp))
                    clear Hsk Hjn Hjo
                    go_wp2_with fail
                    go_region
                    go_wp2_with fail
                    exact ⟨⟨i + 1, by omega, .inl (by omega), by go_num, by rw [Hs.out]; exact hL.below (Below.refl _ _).drew, hbel.drew⟩, meas_up hlt⟩
                  | true =>
                    by_cases hgap : ti - tj ≤ gap
                    · have tg : decide (ti - tj > gap) = false := decide_eq_false (by omega)
                      have Hn := Lib.hid (Hjn.out (by rw [Hjo.out]; simp; exact hgap))
                      have g0d : wr.drew.cell? ⟨b, off + i * 3, none⟩ = some (.int .i64 ti) := g0
                      have k0d : wr.drew.cell? ⟨b, off + j * 3, none⟩ = some (.int .i64 tj) := k0
                      have hLd : LRow wr.drew w9.heap.size 112 2 u11 l.length (pairCells l) := hL.below (Below.refl _ _).drew
                      have hxd := hbel.drew
                      have hbld : b < wr.drew.heap.size := hbl2
                      have hbne : some b ≠ u11.ownBlock := fun e => by have := (hL.lt e.symm).2; omega
                      have hll : l.length ≤ 256 := by omega
                      clear Hsk Hjn Hjo hgap
                      go_wp2_with fail
                      go_region
                      clear hr0 hr1 e7 hws tg g0 k0 hL hbel hbl2 hgR2 hBl3
                      generalize wr.drew = W3 at *
                      by_cases hl0 : 0 < l.length
                      · have tl : decide (0 < l.length) = true := decide_eq_true hl0
                        obtain ⟨go, capo, rfl⟩ := ownsRow_some hLd.1 hl0
                        obtain ⟨k, hk⟩ : ∃ k, l.length = k + 1 := ⟨l.length - 1, by omega⟩
                        have f1 := hLd.at (pairCells_get l k (by omega)).2
                        have hgo := hLd.lt (g := go) rfl
                        have f1' : IntKind.i64.wrap ((l.length : Int) - 1) = (k : Int) := by rw [show (l.length : Int) - 1 = (k : Int) by omega]; exact IntWalk.i64_in _ (by omega)
                        have f2' : (l.length : Int) - 1 = (k : Int) := by omega
                        have hk2 : (k : Int) < l.length := by omega
                        have hk0 : (0 : Int) ≤ k := by omega
                        have ek : l.length - 1 = k := by omega
                        have Hadd : Hid (addSpan l tj ti = if (l.getD k (0, 0)).2 = tj then l.set k ((l.getD k (0, 0)).1, ti) else l ++ [(tj, ti)]) := by
                          show _ = _
                          unfold addSpan
                          rw [ek]
                          by_cases h : (l.getD k (0, 0)).2 = tj
                          · rw [if_pos ⟨hl0, h⟩, if_pos h]
                          · rw [if_neg (fun h2 => h h2.2), if_neg h]
                        have hset := pairCells_set l k ti (by omega)
                        have Hset : Hid ((pairCells l).set (k * 2 + 1) (.int .i64 ti) = pairCells (l.set k ((l.getD k (0, 0)).1, ti))) := hset
                        have Hlen : Hid ((l.set k ((l.getD k (0, 0)).1, ti)).length = l.length) := by show _ = _; simp
                        have HLd := Lib.hid hLd
                        clear hk ek hset hLd
                        generalize (l.getD k (0, 0)).2 = lt at *
                        generalize (l.getD k (0, 0)).1 = lf at *
                        have f1d : W3.drew.cell? ⟨go, k * 2 + 1, none⟩ = some (.int .i64 lt) := f1
                        have g0e : W3.drew.cell? ⟨b, off + i * 3, none⟩ = some (.int .i64 ti) := g0d
                        have k0e : W3.drew.cell? ⟨b, off + j * 3, none⟩ = some (.int .i64 tj) := k0d
                        have HLe := Lib.hid (HLd.out.below (Below.refl _ _).drew)
                        have hxe := hxd.drew
                        have hble : b < W3.drew.heap.size := hbld
                        have hgo3 := hgo.1
                        have hgoe : go < W3.drew.heap.size := hgo3
                        by_cases heq : lt = tj
                        · have te : (lt == tj) = true := beq_iff_eq.2 heq
                          have Ha : Hid (addSpan l tj ti = l.set k (lf, ti)) := by show _ = _; rw [Hadd.out, if_pos heq]
                          clear heq Hadd
                          go_wp2_with fail
                          go_region
                          clear f1 g0d k0d hxd te tl
                          generalize W3.drew = W4 at *
                          have hfr : W4.frozen? ⟨go, k * 2 + 1, none⟩ = false := HLe.out.1.frozenAt _
                          go_wp2_with fail
                          exact ⟨⟨i + 1, by omega, .inl (by omega), by go_num, by rw [Hn.out, Ha.out, Hlen.out, ← Hset.out]; exact (HLe.out.stored _ _ (noDig_i64 _)).1, hxe.setCell (p := ⟨go, k * 2 + 1, none⟩) hgo.2 _⟩, meas_up hlt⟩
                        · have te : (lt == tj) = false := beq_eq_false_iff_ne.2 heq
                          have Ha : Hid (addSpan l tj ti = l ++ [(tj, ti)]) := by show _ = _; rw [Hadd.out, if_neg heq]
                          clear heq Hadd
                          go_wp2_with fail
                          go_region
                          clear f1 f1d g0d k0d hxd te tl
                          generalize W3.drew = W4 at *
                          have hWb := hxe.size
                          have hxf : Below w9.heap.size w9 (W4.drew.alloc (.cells #[.int .i64 tj, .int .i64 ti] 112)) := hxe.drew.alloc hxe.size _
                          have HLf := Lib.hid (HLe.out.below ((Below.refl W4.heap.size W4).drew.alloc (Nat.le_refl _) (.cells #[.int .i64 tj, .int .i64 ti] 112)))
                          clear HLe e2'
                          go_wp2_with fail
                          go_region_held3 (fun w' => w'.cell? ⟨b, off + j * 3, none⟩ = some (.int .i64 tj) ∧ w'.cell? ⟨b, off + i * 3, none⟩ = some (.int .i64 ti))
                            (first | exact ⟨k0e, g0e⟩ | assumption | (refine two_alloc _ ?_; assumption) | (refine two_grown hgrA hbne hbne ?_; assumption))
                            (first | (refine step_append_lrow _ rfl (.tmp 159) (.tmp 172) 93 rfl w9.heap.size 112 iS _ 2 16 Try.underlying93 hiS hzS hsS hyS rfl (by decide) zd2 _ _ _ rfl HLf.out ⟨W4.heap.size, 0, none⟩ 1 1 [.int .i64 tj, .int .i64 ti] rfl rfl (cell_new2 _ _ _ _) (one2 _ _) (nd2 _ _) (by omega) (by unfold maxLen; omega) (by omega) hxf.size ?_; intro gA capA wA hLA hgrA hatA))
                          have hxA : Below w9.heap.size w9 wA := hxf.grown hgrA hxf.size (ownBlock_base HLf.out.1)
                          have HLA := Lib.hid hLA
                          clear hLA
                          go_wp2_with fail
                          exact ⟨⟨i + 1, by omega, .inl (by omega), by go_num, by rw [Hn.out, Ha.out, List.length_append, pairCells_append]; exact HLA.out, hxA⟩, meas_up hlt⟩
                      · have tl : decide (0 < l.length) = false := decide_eq_false hl0
                        have Ha : Hid (addSpan l tj ti = l ++ [(tj, ti)]) := by show _ = _; exact addSpan_new (fun h => hl0 h.1)
                        obtain ⟨aoo, capo, rfl⟩ := hLd.form
                        have g0e : W3.drew.cell? ⟨b, off + i * 3, none⟩ = some (.int .i64 ti) := g0d
                        have k0e : W3.drew.cell? ⟨b, off + j * 3, none⟩ = some (.int .i64 tj) := k0d
                        have HLe := Lib.hid (hLd.below (Below.refl _ _).drew)
                        have hxe := hxd.drew
                        have hble : b < W3.drew.heap.size := hbld
                        clear hl0
                        go_wp2_with fail
                        go_region
                        clear hLd g0d k0d hxd tl
                        generalize W3.drew = W4 at *
                        have hWb := hxe.size
                        have hxf : Below w9.heap.size w9 (W4.drew.alloc (.cells #[.int .i64 tj, .int .i64 ti] 112)) := hxe.drew.alloc hxe.size _
                        have HLf := Lib.hid (HLe.out.below ((Below.refl W4.heap.size W4).drew.alloc (Nat.le_refl _) (.cells #[.int .i64 tj, .int .i64 ti] 112)))
                        clear HLe e2'
                        go_wp2_with fail
                        go_region_held3 (fun w' => w'.cell? ⟨b, off + j * 3, none⟩ = some (.int .i64 tj) ∧ w'.cell? ⟨b, off + i * 3, none⟩ = some (.int .i64 ti))
                          (first | exact ⟨k0e, g0e⟩ | assumption | (refine two_alloc _ ?_; assumption) | (refine two_grown hgrA hbne hbne ?_; assumption))
                          (first | (refine step_append_lrow _ rfl (.tmp 159) (.tmp 172) 93 rfl w9.heap.size 112 iS _ 2 16 Try.underlying93 hiS hzS hsS hyS rfl (by decide) zd2 _ _ _ rfl HLf.out ⟨W4.heap.size, 0, none⟩ 1 1 [.int .i64 tj, .int .i64 ti] rfl rfl (cell_new2 _ _ _ _) (one2 _ _) (nd2 _ _) (by omega) (by unfold maxLen; omega) (by omega) hxf.size ?_; intro gA capA wA hLA hgrA hatA))
                        have hxA : Below w9.heap.size w9 wA := hxf.grown hgrA hxf.size (ownBlock_base HLf.out.1)
                        have HLA := Lib.hid hLA
                        clear hLA
                        go_wp2_with fail
                        exact ⟨⟨i + 1, by omega, .inl (by omega), by go_num, by rw [Hn.out, Ha.out, List.length_append, pairCells_append]; exact HLA.out, hxA⟩, meas_up hlt⟩
                    · have tg : decide (ti - tj > gap) = true := decide_eq_true (by omega)
                      have Hs := Lib.hid (Hsk.out (by rw [Hjo.out]; simp; omega))
                      clear Hsk Hjn Hjo hgap
                      go_wp2_with fail
                      go_region
                      go_wp2_with fail
                      exact ⟨⟨i + 1, by omega, .inl (by omega), by go_num, by rw [Hs.out]; exact hL.below (Below.refl _ _).drew, hbel.drew⟩, meas_up hlt⟩
              · have tn : decide ((i : Int) < (xs.length : Int)) = false := by simp; omega
                have tn2 : decide (i < xs.length) = false := by simp; omega
                have hend : workTo xs dust gap x y i = workTo xs dust gap x y xs.length := by
                  rcases Nat.lt_or_ge xs.length i with h | h
                  · have h1 : i = 1 := by omega
                    have h0 : xs.length = 0 := by omega
                    rw [h1, h0]
                    rfl
                  · rw [show i = xs.length by omega]
                have HP := Lib.hid (PairsOf.ofRow hL)
                have hE := Lib.hid hend
                clear hL hend
                go_wp2_with fail
                go_ret2
                exact ⟨_, by rw [Hf.out]; rfl, by rw [Hl.out, ← hE.out]; exact HP.out, hx9.trans (hbel.mono hx9.size)⟩
end Go.Proofs.Ytdjdnfjgklaneaa

/- THE WALK OF THE REFERENCE's Working (printed by wip/tools/gen_uc.py). -/
namespace Go.Proofs.Ytdjdnfjgklaneaa
open Go.RowKit

/-- Whether the air ahead was right. -/
def prevB (xs : List (Int × Int × Nat)) (dust : Int) (x y : Rat) : Nat → Bool
  | 0 => false
  | i + 1 => rightAt xs dust x y i

set_option maxRecDepth 100000 in
set_option maxHeartbeats 16000000 in
theorem qworking_any (xs : List (Int × Int × Nat)) (dust gap : Int) (x y : Rat) (va l0 l1 l2 m0 m1 m2 : Value) (w : World) (ha : AirsOf w va xs) (hx : IsR w (.agg #[l0, l1, l2]) x) (hy : IsR w (.agg #[m0, m1, m2]) y) (hsx : szQ x 17179869184) (hsy : szQ y 17179869184) :
    Calls Try.prog 34 #[va, .agg #[.int .i64 dust, l0, l1, l2, m0, m1, m2, .int .i64 gap]] w (RetPlan (workL xs dust gap x y) (workErr xs gap x y) w) := by
  obtain ⟨dx, a1, c1, a2, c2, e1, _, _, _⟩ := hx.opened
  obtain ⟨dy, a3, c3, a4, c4, e2, _, _, _⟩ := hy.opened
  simp only [Value.agg.injEq, Array.mk.injEq, List.cons.injEq, and_true] at e1 e2
  obtain ⟨rfl, rfl, rfl⟩ := e1
  obtain ⟨rfl, rfl, rfl⟩ := e2
  have HX := Lib.hid hx
  have HY := Lib.hid hy
  have HA := Lib.hid ha
  obtain ⟨ao, cap, rfl, _⟩ := ha
  have Hsx := Lib.hid hsx
  have Hsy := Lib.hid hsy
  clear hx hy hsx hsy
  generalize decide (x.num < 0) = s1 at *
  generalize decide (y.num < 0) = s2 at *
  generalize (dig b32 x.num.natAbs).length = n1 at *
  generalize (dig b32 dx).length = n2 at *
  generalize (dig b32 y.num.natAbs).length = n3 at *
  generalize (dig b32 dy).length = n4 at *
  have hal := (Below.refl w.heap.size w).alloc (Nat.le_refl _) (.cells #[.int .i64 dust, .bool s1, .slice a1 n1 c1, .slice a2 n2 c2, .bool s2, .slice a3 n3 c3, .slice a4 n4 c4, .int .i64 gap] 100)
  have hB := blk_new w #[.int .i64 dust, .bool s1, .slice a1 n1 c1, .slice a2 n2 c2, .bool s2, .slice a3 n3 c3, .slice a4 n4 c4, .int .i64 gap] 100
  have r7 := blk_cell hB 7 (.int .i64 gap) rfl
  by_cases h1 : 256 < xs.length
  · have t1 : decide ((xs.length : Int) > 256) = true := by simp; omega
    have Hv : Hid (workErr xs gap x y = 4) := by show _ = _; unfold workErr; rw [if_pos h1]
    have Hl : Hid (workL xs dust gap x y = []) := by show _ = _; unfold workL; rw [Hv.out, if_neg (by decide)]
    clear h1
    go_enter Try.func34, Try.ntmps34
    go_wp2_with fail
    go_ret2
    exact ⟨.slice none 0 0, by rw [Hv.out]; rfl, by rw [Hl.out]; exact PairsOf.nil _, hal⟩
  · have t1 : decide ((xs.length : Int) > 256) = false := by simp; omega
    have hlen : xs.length ≤ 256 := by omega
    have Hw1 : Hid (workErr xs gap x y = if gapB gap = false then 1 else if 0 < cmpR x y then 7 else firstErr (airErr xs) xs.length) := by show _ = _; unfold workErr; rw [if_neg h1]
    clear h1
    by_cases hg1 : gap < 1
    · have tg1 : decide (gap < 1) = true := decide_eq_true hg1
      have Hv : Hid (workErr xs gap x y = 1) := by show _ = _; rw [Hw1.out, if_pos (by unfold gapB; simp; omega)]
      have Hl : Hid (workL xs dust gap x y = []) := by show _ = _; unfold workL; rw [Hv.out, if_neg (by decide)]
      clear hg1
      go_enter Try.func34, Try.ntmps34
      go_wp2_with fail
      go_ret2
      exact ⟨.slice none 0 0, by rw [Hv.out]; rfl, by rw [Hl.out]; exact PairsOf.nil _, hal⟩
    · have tg1 : decide (gap < 1) = false := decide_eq_false hg1
      by_cases hg2 : 86400 < gap
      · have tg2 : decide (gap > 86400) = true := decide_eq_true hg2
        have Hv : Hid (workErr xs gap x y = 1) := by show _ = _; rw [Hw1.out, if_pos (by unfold gapB; simp; omega)]
        have Hl : Hid (workL xs dust gap x y = []) := by show _ = _; unfold workL; rw [Hv.out, if_neg (by decide)]
        clear hg1 hg2
        go_enter Try.func34, Try.ntmps34
        go_wp2_with fail
        go_ret2
        exact ⟨.slice none 0 0, by rw [Hv.out]; rfl, by rw [Hl.out]; exact PairsOf.nil _, hal⟩
      · have tg2 : decide (gap > 86400) = false := decide_eq_false hg2
        have Hw2 : Hid (workErr xs gap x y = if 0 < cmpR x y then 7 else firstErr (airErr xs) xs.length) := by show _ = _; rw [Hw1.out, if_neg (by unfold gapB; simp; omega)]
        have hgr : 1 ≤ gap ∧ gap ≤ 86400 := by omega
        clear Hw1 hg1 hg2
        have r1 := blk_cell hB 1 (.bool s1) rfl
        have r2 := blk_cell hB 2 (.slice a1 n1 c1) rfl
        have r3 := blk_cell hB 3 (.slice a2 n2 c2) rfl
        have r4 := blk_cell hB 4 (.bool s2) rfl
        have r5 := blk_cell hB 5 (.slice a3 n3 c3) rfl
        have r6 := blk_cell hB 6 (.slice a4 n4 c4) rfl
        have HX1 := Lib.hid (HX.out.below hal)
        have HY1 := Lib.hid (HY.out.below hal)
        have HA1 := Lib.hid (HA.out.below hal)
        go_enter Try.func34, Try.ntmps34
        go_wp2_with fail
        refine (qcmp_any x y _ _ _ HX1.out HY1.out Hsx.out Hsy.out).mono ?_
        rintro e w2 ⟨rfl, hb2⟩
        have hx2 := ext_trans hal hb2
        clear tg1 tg2
        by_cases h3 : 0 < cmpR x y
        · have t3 : decide (cmpR x y > 0) = true := decide_eq_true h3
          have Hv : Hid (workErr xs gap x y = 7) := by show _ = _; rw [Hw2.out, if_pos h3]
          have Hl : Hid (workL xs dust gap x y = []) := by show _ = _; unfold workL; rw [Hv.out, if_neg (by decide)]
          clear h3
          generalize cmpR x y = cv at *
          go_wp2_with fail
          go_ret2
          exact ⟨.slice none 0 0, by rw [Hv.out]; rfl, by rw [Hl.out]; exact PairsOf.nil _, hx2⟩
        · have t3 : decide (cmpR x y > 0) = false := decide_eq_false h3
          have Hw : Hid (workErr xs gap x y = firstErr (airErr xs) xs.length) := by show _ = _; rw [Hw2.out, if_neg h3]
          have HX2 := Lib.hid (HX1.out.below hb2)
          have HY2 := Lib.hid (HY1.out.below hb2)
          have HA2 := Lib.hid (HA1.out.below hb2)
          have hB2 := blk_keep hB hb2 (by simp)
          have hBl2 := blk_lt hB2
          clear h3 Hw2 HX HY HX1 HY1 HA HA1 r1 r2 r3 r4 r5 r6 r7 hB hb2 hal
          generalize cmpR x y = cv at *
          have hsf := run_store_f32
          obtain ⟨iS, hiS, hzS, hsS, hyS⟩ := info_parts info_span
          go_wp2_with fail
          go_loopw [6, 7, 8] (fun ov bv iv wr => ∃ (i : Nat), i ≤ xs.length ∧ iv = .int .i64 i ∧ bv = .bool (prevB xs dust x y i) ∧ Hid (firstErr (airErr xs) i = 0) ∧ LRow wr w2.heap.size 112 2 ov (workTo xs dust gap x y i).length (pairCells (workTo xs dust gap x y i)) ∧ Below w2.heap.size w2 wr)
            (fun _ _ iv _ => xs.length - (intOf iv).toNat)
          case atStart => exact ⟨0, Nat.zero_le _, rfl, rfl, rfl, LRow.nil _ _ _ _, Below.refl _ _⟩
          case round =>
            obtain ⟨i, hi, rfl, rfl, hF, hL, hbel⟩ := hrel
            by_cases hlt : i < xs.length
            · obtain ⟨ao', cap', ea, hA⟩ := HA2.out
              simp only [Value.slice.injEq, true_and] at ea
              obtain ⟨rfl, rfl⟩ := ea
              obtain ⟨b, off, rfl, hbl, hEE⟩ := hA (by omega)
              obtain ⟨g0, g1, g2⟩ := (hEE i hlt).below hbel hbl
              have HEE := Lib.hid hEE
              have hst := Lib.hid (firstErr_step hF.out)
              have hstay : Hid (airErr xs i ≠ 0 → workErr xs gap x y = airErr xs i) := fun h => by
                rw [Hw.out, ← hst.out]
                exact firstErr_stay (by rw [hst.out]; exact h) hlt
              have hlt' : (i : Int) < xs.length := by omega
              have hge' : (0 : Int) ≤ i := by omega
              have hbl2 : b < wr.heap.size := Nat.lt_of_lt_of_le hbl hbel.size
              have Hent0 : Hid (airErr xs i = if timeB (xs.getD i (0, 0, 0)).1 = false ∨ (xs.getD i (0, 0, 0)).2.1 < 0 ∨ tempOk (xs.getD i (0, 0, 0)).2.2 = false then 1 else if 0 < i ∧ (xs.getD i (0, 0, 0)).1 ≤ (xs.getD (i - 1) (0, 0, 0)).1 then 7 else 0) := rfl
              have Hri : Hid (rightAt xs dust x y i = (decide ((xs.getD i (0, 0, 0)).2.1 ≤ dust) && (decide (cmpR x (tempQ (xs.getD i (0, 0, 0)).2.2) ≤ 0) && decide (cmpR (tempQ (xs.getD i (0, 0, 0)).2.2) y ≤ 0)))) := rfl
              have bad : ∀ k : Int, airErr xs i = k → k ≠ 0 → Hid (workErr xs gap x y = k ∧ workL xs dust gap x y = []) := fun k h hk => by
                have h2 : workErr xs gap x y = k := by rw [hstay.out (by rw [h]; exact hk), h]
                exact ⟨h2, by unfold workL; rw [h2, if_neg hk]⟩
              have Hpn : Hid (prevB xs dust x y (i + 1) = rightAt xs dust x y i) := rfl
              clear hEE hA
              generalize hty : (xs.getD i (0, 0, 0)).1 = ty at *
              generalize (xs.getD i (0, 0, 0)).2.1 = du at *
              generalize (xs.getD i (0, 0, 0)).2.2 = bt at *
              have hty' := Lib.hid hty
              clear hty
              have hty := hty'
              clear hty'
              have hBr := blk_keep hB2 hbel hBl2
              have hsq := tempQ_szQ bt
              have Hsq : Hid (szQ (tempQ bt) 17179869184) := ⟨Nat.le_trans hsq.1 (by omega), Nat.le_trans hsq.2 (by omega)⟩
              clear hsq
              rcases conv_ways bt with ⟨r, hc, hFl⟩ | ⟨hE1, hc, hFl⟩
              · have HFl := Lib.hid hFl
                clear hFl
                go_wp2_with (simp only [hc])
                refine (HFl.out _).mono ?_
                rintro e w3 ⟨v, rfl, hv, hb3⟩
                have hxa : Below wr.heap.size wr w3 := hb3
                obtain ⟨d5, a5, c5, a6, c6, rfl, _, _, _⟩ := hv.opened
                have HQ := Lib.hid hv
                clear hv hb3
                generalize tempQ bt = q at *
                generalize hs5 : decide (q.num < 0) = s5 at *
                generalize hn5 : (dig b32 q.num.natAbs).length = n5 at *
                generalize hn6 : (dig b32 d5).length = n6 at *
                clear hs5 hn5 hn6
                have hxb : Below wr.heap.size wr (w3.alloc (.cells #[.bool s5, .slice a5 n5 c5, .slice a6 n6 c6] 50)) := hxa.alloc hxa.size _
                have hx4 : Below w2.heap.size w2 (w3.alloc (.cells #[.bool s5, .slice a5 n5 c5, .slice a6 n6 c6] 50)) := hbel.trans (hxb.mono hbel.size)
                have v0 := (hxb.cell (p := ⟨b, off + i * 3, none⟩) hbl2).trans g0
                have v1 := (hxb.cell (p := ⟨b, off + i * 3 + 1, none⟩) hbl2).trans g1
                have v0' := (hxa.cell (p := ⟨b, off + i * 3, none⟩) hbl2).trans g0
                have v1' := (hxa.cell (p := ⟨b, off + i * 3 + 1, none⟩) hbl2).trans g1
                have hbl3 : b < (w3.alloc (.cells #[.bool s5, .slice a5 n5 c5, .slice a6 n6 c6] 50)).heap.size := Nat.lt_of_lt_of_le hbl hx4.size
                have hbl3' : b < w3.heap.size := Nat.lt_of_lt_of_le hbl2 hxa.size
                go_wp2_with fail
                refine (qtime_any ty _).mono ?_
                rintro e wz ⟨rfl, rfl⟩
                cases hT : timeB ty with
                | false =>
                  have Hv := bad 1 (by rw [Hent0.out, if_pos (.inl hT)]) (by decide)
                  clear bad hT
                  go_wp2_with fail
                  go_ret2
                  exact ⟨.slice none 0 0, by rw [Hv.out.1]; rfl, by rw [Hv.out.2]; exact PairsOf.nil _, hx2.trans (hx4.mono hx2.size)⟩
                | true =>
                  by_cases hdu : du < 0
                  · have td : decide (du < 0) = true := decide_eq_true hdu
                    have Hv := bad 1 (by rw [Hent0.out, if_pos (.inr (.inl hdu))]) (by decide)
                    clear bad hT hdu
                    go_wp2_with fail
                    go_ret2
                    exact ⟨.slice none 0 0, by rw [Hv.out.1]; rfl, by rw [Hv.out.2]; exact PairsOf.nil _, hx2.trans (hx4.mono hx2.size)⟩
                  · have td : decide (du < 0) = false := decide_eq_false hdu
                    by_cases hK : tempOk bt = false
                    · have hte : (tempE bt != 0) = true := by unfold tempE; rw [if_neg (by rw [hK]; decide)]; rfl
                      have Hv := bad 1 (by rw [Hent0.out, if_pos (.inr (.inr hK))]) (by decide)
                      clear bad hT hdu hK
                      generalize tempE bt = te at *
                      go_wp2_with fail
                      go_ret2
                      exact ⟨.slice none 0 0, by rw [Hv.out.1]; rfl, by rw [Hv.out.2]; exact PairsOf.nil _, hx2.trans (hx4.mono hx2.size)⟩
                    · have hte : (tempE bt != 0) = false := by unfold tempE; rw [if_pos (by simpa using hK)]; rfl
                      have Hent : Hid (airErr xs i = if 0 < i ∧ ty ≤ (xs.getD (i - 1) (0, 0, 0)).1 then 7 else 0) := by
                        show _ = _
                        rw [Hent0.out, if_neg (by rw [hT]; simp; exact ⟨by omega, by simpa using hK⟩)]
                      have htr := timeB_spec hT
                      clear hT hK hdu Hent0
                      generalize tempE bt = te at *
                      have hxd : Below wr.heap.size wr (w3.alloc (.cells #[.bool s5, .slice a5 n5 c5, .slice a6 n6 c6] 50)).drew := hxb.drew
                      have hD5 : (w3.alloc (.cells #[.bool s5, .slice a5 n5 c5, .slice a6 n6 c6] 50)).drew.heap[w3.heap.size]? = some (.cells #[.bool s5, .slice a5 n5 c5, .slice a6 n6 c6] 50 (0, 0)) := blk_new w3 #[.bool s5, .slice a5 n5 c5, .slice a6 n6 c6] 50
                      have HQ5 := Lib.hid (HQ.out.below ((Below.refl w3.heap.size w3).alloc (Nat.le_refl _) (.cells #[.bool s5, .slice a5 n5 c5, .slice a6 n6 c6] 50)).drew)
                      have v0d : (w3.alloc (.cells #[.bool s5, .slice a5 n5 c5, .slice a6 n6 c6] 50)).drew.cell? ⟨b, off + i * 3, none⟩ = some (.int .i64 ty) := v0
                      have v1d : (w3.alloc (.cells #[.bool s5, .slice a5 n5 c5, .slice a6 n6 c6] 50)).drew.cell? ⟨b, off + i * 3 + 1, none⟩ = some (.int .i64 du) := v1
                      rcases Nat.eq_zero_or_pos i with hi0 | hi0
                      · have ti0 : decide (0 < i) = false := by simp [hi0]
                        have Hv : Hid (firstErr (airErr xs) (i + 1) = 0) := by
                          show _ = _
                          rw [hst.out, Hent.out, if_neg (by omega)]
                        have Hpv : Hid (prevB xs dust x y i = false) := by show _ = _; rw [hi0]; rfl
                        have Hwk : Hid (workTo xs dust gap x y (i + 1) = workTo xs dust gap x y i) := by show _ = _; rw [hi0]; rfl
                        clear bad hi0
                        go_wp2_with fail
                        go_region
                        clear ti0
                        generalize (w3.alloc (.cells #[.bool s5, .slice a5 n5 c5, .slice a6 n6 c6] 50)).drew = W5 at *
                        generalize w3.heap.size = D5 at *
                        have hB5 := blk_keep hBr hxd (blk_lt hBr)
                        have HX5 := Lib.hid (HX2.out.below (hbel.trans (hxd.mono hbel.size)))
                        have HY5 := Lib.hid (HY2.out.below (hbel.trans (hxd.mono hbel.size)))
                        have hbl5 : b < W5.heap.size := Nat.lt_of_lt_of_le hbl2 hxd.size
                        have hBl5 := blk_lt hB5
                        have hDl5 := blk_lt hD5
                        clear hBr hxb hx4 hxa HQ g0 g1 g2 v0 v1 v0' v1' hbl3 hbl3'
                        go_upto_region 17 with fail
                        go_cut [11] from 30 to 168 (fun s11 wx => s11 = .bool (rightAt xs dust x y i) ∧ Below W5.heap.size W5 wx)
                        case first =>
                          as_aux_lemma =>
                          have p0 := blk_cell hB5 0 (.int .i64 dust) rfl
                          by_cases hdd : du ≤ dust
                          · have tdd : decide (du ≤ dust) = true := decide_eq_true hdd
                            have p1 := blk_cell hB5 1 (.bool s1) rfl
                            have p2 := blk_cell hB5 2 (.slice a1 n1 c1) rfl
                            have p3 := blk_cell hB5 3 (.slice a2 n2 c2) rfl
                            have p4 := blk_cell hB5 4 (.bool s2) rfl
                            have p5 := blk_cell hB5 5 (.slice a3 n3 c3) rfl
                            have p6 := blk_cell hB5 6 (.slice a4 n4 c4) rfl
                            have d0 := blk_cell hD5 0 (.bool s5) rfl
                            have d1 := blk_cell hD5 1 (.slice a5 n5 c5) rfl
                            have d2 := blk_cell hD5 2 (.slice a6 n6 c6) rfl
                            have Hr2 : Hid (rightAt xs dust x y i = (decide (cmpR x q ≤ 0) && decide (cmpR q y ≤ 0))) := by show _ = _; rw [Hri.out, tdd]; simp
                            have HC1 : Hid (∀ W', IsR W' (.agg #[.bool s1, .slice a1 n1 c1, .slice a2 n2 c2]) x → IsR W' (.agg #[.bool s5, .slice a5 n5 c5, .slice a6 n6 c6]) q → Calls Try.prog 49 #[.agg #[.bool s1, .slice a1 n1 c1, .slice a2 n2 c2], .agg #[.bool s5, .slice a5 n5 c5, .slice a6 n6 c6]] W' (RetInt (cmpR x q) W')) := fun W' h1 h2 => qcmp_any x q _ _ W' h1 h2 Hsx.out Hsq.out
                            have HC2 : Hid (∀ W', IsR W' (.agg #[.bool s5, .slice a5 n5 c5, .slice a6 n6 c6]) q → IsR W' (.agg #[.bool s2, .slice a3 n3 c3, .slice a4 n4 c4]) y → Calls Try.prog 49 #[.agg #[.bool s5, .slice a5 n5 c5, .slice a6 n6 c6], .agg #[.bool s2, .slice a3 n3 c3, .slice a4 n4 c4]] W' (RetInt (cmpR q y) W')) := fun W' h1 h2 => qcmp_any q y _ _ W' h1 h2 Hsq.out Hsy.out
                            have hdr := (Below.refl W5.heap.size W5).drew
                            have HX6 := Lib.hid (HX5.out.below hdr)
                            have HY6 := Lib.hid (HY5.out.below hdr)
                            have HQ6 := Lib.hid (HQ5.out.below hdr)
                            clear hdd Hri HX5 HY5 HQ5 hB5 hD5
                            generalize cmpR x q = cw at *
                            generalize cmpR q y = cz at *
                            by_cases h6 : cw ≤ 0
                            · have t6 : decide (cw ≤ 0) = true := decide_eq_true h6
                              have Hr3 : Hid (rightAt xs dust x y i = decide (cz ≤ 0)) := by show _ = _; rw [Hr2.out, t6]; simp
                              clear h6 Hr2
                              go_region_held3 (fun w' => w'.cell? ⟨b, off + i * 3 + 1, none⟩ = some (.int .i64 du) ∧ w'.cell? ⟨w.heap.size, 0, none⟩ = some (.int .i64 dust) ∧ w'.cell? ⟨w.heap.size, 1, none⟩ = some (.bool s1) ∧ w'.cell? ⟨w.heap.size, 2, none⟩ = some (.slice a1 n1 c1) ∧ w'.cell? ⟨w.heap.size, 3, none⟩ = some (.slice a2 n2 c2) ∧ w'.cell? ⟨w.heap.size, 4, none⟩ = some (.bool s2) ∧ w'.cell? ⟨w.heap.size, 5, none⟩ = some (.slice a3 n3 c3) ∧ w'.cell? ⟨w.heap.size, 6, none⟩ = some (.slice a4 n4 c4) ∧ w'.cell? ⟨D5, 0, none⟩ = some (.bool s5) ∧ w'.cell? ⟨D5, 1, none⟩ = some (.slice a5 n5 c5) ∧ w'.cell? ⟨D5, 2, none⟩ = some (.slice a6 n6 c6))
                                (first | exact ⟨v1d, p0, p1, p2, p3, p4, p5, p6, d0, d1, d2⟩ | assumption | (refine keep11 hbA ?_; assumption) | (refine keep11 hbB ?_; assumption))
                                (first | (go_at_call 49; refine (HC1.out _ HX6.out HQ6.out).mono ?_; rintro e wA ⟨rfl, hbA⟩; have HQ7 := Lib.hid (HQ6.out.below hbA); have HY7 := Lib.hid (HY6.out.below hbA)) | (go_at_call 49; refine (HC2.out _ HQ7.out HY7.out).mono ?_; rintro e wB ⟨rfl, hbB⟩))
                              go_wp2_with fail
                              go_meet
                              exact ⟨by rw [Hr3.out], hdr.trans ((below_join hbA hbB).mono hdr.size)⟩
                            · have t6 : decide (cw ≤ 0) = false := decide_eq_false h6
                              have Hr3 : Hid (rightAt xs dust x y i = false) := by show _ = _; rw [Hr2.out, t6]; simp
                              clear h6 Hr2
                              refine wp_region_held_drew (S := fun w' => w'.cell? ⟨b, off + i * 3 + 1, none⟩ = some (.int .i64 du) ∧ w'.cell? ⟨w.heap.size, 0, none⟩ = some (.int .i64 dust) ∧ w'.cell? ⟨w.heap.size, 1, none⟩ = some (.bool s1) ∧ w'.cell? ⟨w.heap.size, 2, none⟩ = some (.slice a1 n1 c1) ∧ w'.cell? ⟨w.heap.size, 3, none⟩ = some (.slice a2 n2 c2) ∧ w'.cell? ⟨w.heap.size, 4, none⟩ = some (.bool s2) ∧ w'.cell? ⟨w.heap.size, 5, none⟩ = some (.slice a3 n3 c3) ∧ w'.cell? ⟨w.heap.size, 6, none⟩ = some (.slice a4 n4 c4) ∧ w'.cell? ⟨D5, 0, none⟩ = some (.bool s5) ∧ w'.cell? ⟨D5, 1, none⟩ = some (.slice a5 n5 c5) ∧ w'.cell? ⟨D5, 2, none⟩ = some (.slice a6 n6 c6)) (by kernel_rfl) ⟨v1d, p0, p1, p2, p3, p4, p5, p6, d0, d1, d2⟩ (fun hHeld => ?_)
                              refine wpAnyH_take (i := 0) (v := ?v0) rfl (by kernel_rfl) (by kernel_rfl) (by kernel_rfl) (fun _ _ _ h => h) (Or.inl ⟨by rfl, ?hy0⟩) (by assumption) ?re0
                              case hy0 => first | (intro w hSw; (try dsimp only at hSw); go_simp; done) | (intro w hSw; (try dsimp only at hSw); go_simp; with_reducible rfl)
                              try simp only [List.getElem_toArray, List.getElem_cons_zero, List.getElem_cons_succ, Act.put, List.setIfInBounds_toArray, List.set_cons_zero, List.set_cons_succ]
                              refine wpAnyH_take (i := 1) (v := ?v1) rfl (by kernel_rfl) (by kernel_rfl) (by kernel_rfl) (fun _ _ _ h => h) (Or.inl ⟨by rfl, ?hy1⟩) (by assumption) ?re1
                              case hy1 => first | (intro w hSw; (try dsimp only at hSw); go_simp; done) | (intro w hSw; (try dsimp only at hSw); go_simp; with_reducible rfl)
                              try simp only [List.getElem_toArray, List.getElem_cons_zero, List.getElem_cons_succ, Act.put, List.setIfInBounds_toArray, List.set_cons_zero, List.set_cons_succ]
                              refine wpAnyH_take (i := 2) (v := ?v2) rfl (by kernel_rfl) (by kernel_rfl) (by kernel_rfl) (fun _ _ _ h => h) (Or.inl ⟨by rfl, ?hy2⟩) (by assumption) ?re2
                              case hy2 => first | (intro w hSw; (try dsimp only at hSw); go_simp; done) | (intro w hSw; (try dsimp only at hSw); go_simp; with_reducible rfl)
                              try simp only [List.getElem_toArray, List.getElem_cons_zero, List.getElem_cons_succ, Act.put, List.setIfInBounds_toArray, List.set_cons_zero, List.set_cons_succ]
                              refine wpAnyH_take (i := 3) (v := ?v3) rfl (by kernel_rfl) (by kernel_rfl) (by kernel_rfl) (fun _ _ _ h => h) (Or.inl ⟨by rfl, ?hy3⟩) (by assumption) ?re3
                              case hy3 => first | (intro w hSw; (try dsimp only at hSw); go_simp; done) | (intro w hSw; (try dsimp only at hSw); go_simp; with_reducible rfl)
                              try simp only [List.getElem_toArray, List.getElem_cons_zero, List.getElem_cons_succ, Act.put, List.setIfInBounds_toArray, List.set_cons_zero, List.set_cons_succ]
                              refine wpAnyH_take (i := 4) (v := ?v4) rfl (by kernel_rfl) (by kernel_rfl) (by kernel_rfl) (fun _ _ _ h => h) (Or.inl ⟨by rfl, ?hy4⟩) (by assumption) ?re4
                              case hy4 => first | (intro w hSw; (try dsimp only at hSw); go_simp; done) | (intro w hSw; (try dsimp only at hSw); go_simp; with_reducible rfl)
                              try simp only [List.getElem_toArray, List.getElem_cons_zero, List.getElem_cons_succ, Act.put, List.setIfInBounds_toArray, List.set_cons_zero, List.set_cons_succ]
                              refine wpAnyH_take (i := 5) (v := ?v5) rfl (by kernel_rfl) (by kernel_rfl) (by kernel_rfl) (fun _ _ _ h => h) (Or.inl ⟨by rfl, ?hy5⟩) (by assumption) ?re5
                              case hy5 => first | (intro w hSw; (try dsimp only at hSw); go_simp; done) | (intro w hSw; (try dsimp only at hSw); go_simp; with_reducible rfl)
                              try simp only [List.getElem_toArray, List.getElem_cons_zero, List.getElem_cons_succ, Act.put, List.setIfInBounds_toArray, List.set_cons_zero, List.set_cons_succ]
                              refine wpAnyH_take (i := 6) (v := ?v6) rfl (by kernel_rfl) (by kernel_rfl) (by kernel_rfl) (fun _ _ _ h => h) (Or.inl ⟨by rfl, ?hy6⟩) (by assumption) ?re6
                              case hy6 => first | (intro w hSw; (try dsimp only at hSw); go_simp; done) | (intro w hSw; (try dsimp only at hSw); go_simp; with_reducible rfl)
                              try simp only [List.getElem_toArray, List.getElem_cons_zero, List.getElem_cons_succ, Act.put, List.setIfInBounds_toArray, List.set_cons_zero, List.set_cons_succ]
                              refine wpAnyH_take (i := 7) (v := ?v7) rfl (by kernel_rfl) (by kernel_rfl) (by kernel_rfl) (fun _ _ _ h => h) (Or.inl ⟨by rfl, ?hy7⟩) (by assumption) ?re7
                              case hy7 => first | (intro w hSw; (try dsimp only at hSw); go_simp; done) | (intro w hSw; (try dsimp only at hSw); go_simp; with_reducible rfl)
                              try simp only [List.getElem_toArray, List.getElem_cons_zero, List.getElem_cons_succ, Act.put, List.setIfInBounds_toArray, List.set_cons_zero, List.set_cons_succ]
                              refine wpAnyH_take (i := 8) (v := ?v8) rfl (by kernel_rfl) (by kernel_rfl) (by kernel_rfl) (fun _ _ _ h => h) (Or.inl ⟨by rfl, ?hy8⟩) (by assumption) ?re8
                              case hy8 => first | (intro w hSw; (try dsimp only at hSw); go_simp; done) | (intro w hSw; (try dsimp only at hSw); go_simp; with_reducible rfl)
                              try simp only [List.getElem_toArray, List.getElem_cons_zero, List.getElem_cons_succ, Act.put, List.setIfInBounds_toArray, List.set_cons_zero, List.set_cons_succ]
                              refine wpAnyH_take (i := 9) (v := ?v9) rfl (by kernel_rfl) (by kernel_rfl) (by kernel_rfl) (fun _ _ _ h => h) (Or.inl ⟨by rfl, ?hy9⟩) (by assumption) ?re9
                              case hy9 => first | (intro w hSw; (try dsimp only at hSw); go_simp; done) | (intro w hSw; (try dsimp only at hSw); go_simp; with_reducible rfl)
                              try simp only [List.getElem_toArray, List.getElem_cons_zero, List.getElem_cons_succ, Act.put, List.setIfInBounds_toArray, List.set_cons_zero, List.set_cons_succ]
                              refine wpAnyH_take (i := 10) (v := ?v10) rfl (by kernel_rfl) (by kernel_rfl) (by kernel_rfl) (fun _ _ _ h => h) (Or.inl ⟨by rfl, ?hy10⟩) (by assumption) ?re10
                              case hy10 => first | (intro w hSw; (try dsimp only at hSw); go_simp; done) | (intro w hSw; (try dsimp only at hSw); go_simp; with_reducible rfl)
                              try simp only [List.getElem_toArray, List.getElem_cons_zero, List.getElem_cons_succ, Act.put, List.setIfInBounds_toArray, List.set_cons_zero, List.set_cons_succ]
                              refine wpAnyH_take (i := 11) (v := ?v11) rfl (by kernel_rfl) (by kernel_rfl) (by kernel_rfl) (fun _ _ _ h => h) (Or.inl ⟨by rfl, ?hy11⟩) (by assumption) ?re11
                              case hy11 => first | (intro w hSw; (try dsimp only at hSw); go_simp; done) | (intro w hSw; (try dsimp only at hSw); go_simp; with_reducible rfl)
                              try simp only [List.getElem_toArray, List.getElem_cons_zero, List.getElem_cons_succ, Act.put, List.setIfInBounds_toArray, List.set_cons_zero, List.set_cons_succ]
                              refine wpAnyH_ready (rs := [12]) (by kernel_rfl) (by simp) ?_
                              refine AllReadyH.cons rfl (fun K hK => ?_) AllReadyH.nil
                              go_simp
                              go_wp2_with (go_at_call 49; refine (HC1.out _ HX6.out HQ6.out).mono ?_; rintro e wA ⟨rfl, hbA⟩)
                              refine hK.out _ _ (keep11 hbA hHeld) (fun hHeld2 => ?_)
                              clear hK K hHeld
                              refine wpAnyH_take (i := 13) (v := ?v13) rfl (by kernel_rfl) (by kernel_rfl) (by kernel_rfl) (fun _ _ _ h => h) (Or.inl ⟨by rfl, ?hy13⟩) (by assumption) ?re13
                              case hy13 => first | (intro w hSw; (try dsimp only at hSw); go_simp; done) | (intro w hSw; (try dsimp only at hSw); go_simp; with_reducible rfl)
                              try simp only [List.getElem_toArray, List.getElem_cons_zero, List.getElem_cons_succ, Act.put, List.setIfInBounds_toArray, List.set_cons_zero, List.set_cons_succ]
                              refine wpAnyH_take (i := 14) (v := ?v14) rfl (by kernel_rfl) (by kernel_rfl) (by kernel_rfl) (fun _ _ _ h => h) (Or.inl ⟨by rfl, ?hy14⟩) (by assumption) ?re14
                              case hy14 => first | (intro w hSw; (try dsimp only at hSw); go_simp; done) | (intro w hSw; (try dsimp only at hSw); go_simp; with_reducible rfl)
                              try simp only [List.getElem_toArray, List.getElem_cons_zero, List.getElem_cons_succ, Act.put, List.setIfInBounds_toArray, List.set_cons_zero, List.set_cons_succ]
                              refine wpAnyH_take (i := 15) (v := ?v15) rfl (by kernel_rfl) (by kernel_rfl) (by kernel_rfl) (fun _ _ _ h => h) (Or.inl ⟨by rfl, ?hy15⟩) (by assumption) ?re15
                              case hy15 => first | (intro w hSw; (try dsimp only at hSw); go_simp; done) | (intro w hSw; (try dsimp only at hSw); go_simp; with_reducible rfl)
                              try simp only [List.getElem_toArray, List.getElem_cons_zero, List.getElem_cons_succ, Act.put, List.setIfInBounds_toArray, List.set_cons_zero, List.set_cons_succ]
                              refine wpAnyH_take (i := 16) (v := undef) rfl (by kernel_rfl) (by kernel_rfl) (by kernel_rfl) (fun _ _ _ h => h) (Or.inr ⟨by rfl, rfl⟩) (by assumption) ?_
                              try simp only [List.getElem_toArray, List.getElem_cons_zero, List.getElem_cons_succ, Act.put, List.setIfInBounds_toArray, List.set_cons_zero, List.set_cons_succ]
                              refine wpAnyH_take (i := 17) (v := undef) rfl (by kernel_rfl) (by kernel_rfl) (by kernel_rfl) (fun _ _ _ h => h) (Or.inr ⟨by rfl, rfl⟩) (by assumption) ?_
                              try simp only [List.getElem_toArray, List.getElem_cons_zero, List.getElem_cons_succ, Act.put, List.setIfInBounds_toArray, List.set_cons_zero, List.set_cons_succ]
                              refine wpAnyH_take (i := 18) (v := undef) rfl (by kernel_rfl) (by kernel_rfl) (by kernel_rfl) (fun _ _ _ h => h) (Or.inr ⟨by rfl, rfl⟩) (by assumption) ?_
                              try simp only [List.getElem_toArray, List.getElem_cons_zero, List.getElem_cons_succ, Act.put, List.setIfInBounds_toArray, List.set_cons_zero, List.set_cons_succ]
                              refine wpAnyH_take (i := 19) (v := undef) rfl (by kernel_rfl) (by kernel_rfl) (by kernel_rfl) (fun _ _ _ h => h) (Or.inr ⟨by rfl, rfl⟩) (by assumption) ?_
                              try simp only [List.getElem_toArray, List.getElem_cons_zero, List.getElem_cons_succ, Act.put, List.setIfInBounds_toArray, List.set_cons_zero, List.set_cons_succ]
                              refine wpAnyH_take (i := 20) (v := undef) rfl (by kernel_rfl) (by kernel_rfl) (by kernel_rfl) (fun _ _ _ h => h) (Or.inr ⟨by rfl, rfl⟩) (by assumption) ?_
                              try simp only [List.getElem_toArray, List.getElem_cons_zero, List.getElem_cons_succ, Act.put, List.setIfInBounds_toArray, List.set_cons_zero, List.set_cons_succ]
                              refine wpAnyH_take (i := 21) (v := ?v21) rfl (by kernel_rfl) (by kernel_rfl) (by kernel_rfl) (fun _ _ _ h => h) (Or.inl ⟨by rfl, ?hy21⟩) (by assumption) ?re21
                              case hy21 => first | (intro w hSw; (try dsimp only at hSw); go_simp; done) | (intro w hSw; (try dsimp only at hSw); go_simp; with_reducible rfl)
                              try simp only [List.getElem_toArray, List.getElem_cons_zero, List.getElem_cons_succ, Act.put, List.setIfInBounds_toArray, List.set_cons_zero, List.set_cons_succ]
                              refine wpAnyH_take (i := 22) (v := ?v22) rfl (by kernel_rfl) (by kernel_rfl) (by kernel_rfl) (fun _ _ _ h => h) (Or.inl ⟨by rfl, ?hy22⟩) (by assumption) ?re22
                              case hy22 => first | (intro w hSw; (try dsimp only at hSw); go_simp; done) | (intro w hSw; (try dsimp only at hSw); go_simp; with_reducible rfl)
                              try simp only [List.getElem_toArray, List.getElem_cons_zero, List.getElem_cons_succ, Act.put, List.setIfInBounds_toArray, List.set_cons_zero, List.set_cons_succ]
                              refine wpAnyH_done (by kernel_rfl) ?_ _
                              go_wp2_with fail
                              go_meet
                              exact ⟨by rw [Hr3.out], hdr.trans (hbA.mono hdr.size)⟩
                          · have tdd : decide (du ≤ dust) = false := decide_eq_false hdd
                            have Hr3 : Hid (rightAt xs dust x y i = false) := by show _ = _; rw [Hri.out, tdd]; simp
                            clear hdd Hri
                            go_region
                            go_wp2_with fail
                            go_meet
                            exact ⟨by rw [Hr3.out], (Below.refl _ _).drew⟩
                        case rest =>
                          as_aux_lemma =>
                          obtain ⟨rfl, hxc⟩ := hcut
                          have hx6 : Below wr.heap.size wr wc := ext_trans hxd hxc
                          have hx7 := hbel.trans (hx6.mono hbel.size)
                          have e7 := blk_cell (blk_keep hB5 hxc hBl5) 7 (.int .i64 gap) rfl
                          have z0 := (hxc.cell (p := ⟨b, off + i * 3, none⟩) hbl5).trans v0d
                          have hblc : b < wc.heap.size := Nat.lt_of_lt_of_le hbl5 hxc.size
                          have hBlc : w.heap.size < wc.heap.size := Nat.lt_of_lt_of_le hBl5 hxc.size
                          have hLc := hL.below hx6.drew
                          clear hL Hri hB5 hD5 HX5 HY5 HQ5 hxc v0d v1d
                          rw [Hpv.out]
                          generalize rightAt xs dust x y i = ri at *
                          cases ri with
                          | false =>
                            go_wp2_with fail
                            go_region
                            go_wp2_with fail
                            exact ⟨⟨i + 1, by omega, by go_num, by rw [Hpn.out], Hv.out, by rw [Hwk.out]; exact hLc, hx7.drew⟩, meas_up hlt⟩
                          | true =>
                            go_wp2_with fail
                            go_region
                            go_wp2_with fail
                            exact ⟨⟨i + 1, by omega, by go_num, by rw [Hpn.out], Hv.out, by rw [Hwk.out]; exact hLc, hx7.drew⟩, meas_up hlt⟩
                      · have ti0 : decide (0 < i) = true := by simp [hi0]
                        obtain ⟨j, hj⟩ : ∃ j, i = j + 1 := ⟨i - 1, by omega⟩
                        obtain ⟨k0, _, _⟩ := (HEE.out j (by omega)).below hx4 hbl
                        have k0d : (w3.alloc (.cells #[.bool s5, .slice a5 n5 c5, .slice a6 n6 c6] 50)).drew.cell? ⟨b, off + j * 3, none⟩ = some (.int .i64 (xs.getD j (0, 0, 0)).1) := k0
                        have e1' : IntKind.i64.wrap ((i : Int) - 1) = (j : Int) := by rw [show (i : Int) - 1 = (j : Int) by omega]; exact IntWalk.i64_in _ (by omega)
                        have e2' : (i : Int) - 1 = (j : Int) := by omega
                        have hj2 : (j : Int) < xs.length := by omega
                        have hj0 : (0 : Int) ≤ j := by omega
                        have e3 : i - 1 = j := by omega
                        have htj := work_ok hF.out j (by omega)
                        have Hpv : Hid (prevB xs dust x y i = rightAt xs dust x y j) := by show _ = _; rw [hj]; rfl
                        have Hjo : Hid (joinB xs dust gap x y i = (rightAt xs dust x y j && (rightAt xs dust x y i && decide ((xs.getD i (0, 0, 0)).1 - (xs.getD j (0, 0, 0)).1 ≤ gap)))) := by show _ = _; unfold joinB; rw [e3]
                        rw [hty.out] at Hjo
                        have Hsk : Hid (joinB xs dust gap x y i = false → workTo xs dust gap x y (i + 1) = workTo xs dust gap x y i) := workTo_skip hi0
                        have Hjn : Hid (joinB xs dust gap x y i = true → workTo xs dust gap x y (i + 1) = addSpan (workTo xs dust gap x y i) (xs.getD j (0, 0, 0)).1 ty) := fun h => by rw [workTo_join hi0 h, e3, hty.out]
                        rw [e3] at Hent
                        generalize (xs.getD j (0, 0, 0)).1 = tj at *
                        by_cases hle : ty ≤ tj
                        · have hc' : decide (ty ≤ tj) = true := decide_eq_true hle
                          have Hv := bad 7 (by rw [Hent.out, if_pos ⟨hi0, hle⟩]) (by decide)
                          clear hle hi0 hj e3 bad
                          go_wp2_with fail
                          go_region
                          go_wp2_with fail
                          go_ret2
                          exact ⟨.slice none 0 0, by rw [Hv.out.1]; rfl, by rw [Hv.out.2]; exact PairsOf.nil _, hx2.trans (hx4.drew.mono hx2.size)⟩
                        · have hc' : decide (ty ≤ tj) = false := decide_eq_false hle
                          have Hv : Hid (firstErr (airErr xs) (i + 1) = 0) := by
                            show _ = _
                            rw [hst.out, Hent.out, if_neg (fun h => hle h.2)]
                          clear hle hj e3 bad
                          go_wp2_with fail
                          go_region
                          clear ti0 hc' k0
                          generalize (w3.alloc (.cells #[.bool s5, .slice a5 n5 c5, .slice a6 n6 c6] 50)).drew = W5 at *
                          generalize w3.heap.size = D5 at *
                          have hB5 := blk_keep hBr hxd (blk_lt hBr)
                          have HX5 := Lib.hid (HX2.out.below (hbel.trans (hxd.mono hbel.size)))
                          have HY5 := Lib.hid (HY2.out.below (hbel.trans (hxd.mono hbel.size)))
                          have hbl5 : b < W5.heap.size := Nat.lt_of_lt_of_le hbl2 hxd.size
                          have hBl5 := blk_lt hB5
                          have hDl5 := blk_lt hD5
                          clear hBr hxb hx4 hxa HQ g0 g1 g2 v0 v1 v0' v1' hbl3 hbl3'
                          go_upto_region 17 with fail
                          go_cut [11] from 30 to 168 (fun s11 wx => s11 = .bool (rightAt xs dust x y i) ∧ Below W5.heap.size W5 wx)
                          case first =>
                            as_aux_lemma =>
                            have p0 := blk_cell hB5 0 (.int .i64 dust) rfl
                            by_cases hdd : du ≤ dust
                            · have tdd : decide (du ≤ dust) = true := decide_eq_true hdd
                              have p1 := blk_cell hB5 1 (.bool s1) rfl
                              have p2 := blk_cell hB5 2 (.slice a1 n1 c1) rfl
                              have p3 := blk_cell hB5 3 (.slice a2 n2 c2) rfl
                              have p4 := blk_cell hB5 4 (.bool s2) rfl
                              have p5 := blk_cell hB5 5 (.slice a3 n3 c3) rfl
                              have p6 := blk_cell hB5 6 (.slice a4 n4 c4) rfl
                              have d0 := blk_cell hD5 0 (.bool s5) rfl
                              have d1 := blk_cell hD5 1 (.slice a5 n5 c5) rfl
                              have d2 := blk_cell hD5 2 (.slice a6 n6 c6) rfl
                              have Hr2 : Hid (rightAt xs dust x y i = (decide (cmpR x q ≤ 0) && decide (cmpR q y ≤ 0))) := by show _ = _; rw [Hri.out, tdd]; simp
                              have HC1 : Hid (∀ W', IsR W' (.agg #[.bool s1, .slice a1 n1 c1, .slice a2 n2 c2]) x → IsR W' (.agg #[.bool s5, .slice a5 n5 c5, .slice a6 n6 c6]) q → Calls Try.prog 49 #[.agg #[.bool s1, .slice a1 n1 c1, .slice a2 n2 c2], .agg #[.bool s5, .slice a5 n5 c5, .slice a6 n6 c6]] W' (RetInt (cmpR x q) W')) := fun W' h1 h2 => qcmp_any x q _ _ W' h1 h2 Hsx.out Hsq.out
                              have HC2 : Hid (∀ W', IsR W' (.agg #[.bool s5, .slice a5 n5 c5, .slice a6 n6 c6]) q → IsR W' (.agg #[.bool s2, .slice a3 n3 c3, .slice a4 n4 c4]) y → Calls Try.prog 49 #[.agg #[.bool s5, .slice a5 n5 c5, .slice a6 n6 c6], .agg #[.bool s2, .slice a3 n3 c3, .slice a4 n4 c4]] W' (RetInt (cmpR q y) W')) := fun W' h1 h2 => qcmp_any q y _ _ W' h1 h2 Hsq.out Hsy.out
                              have hdr := (Below.refl W5.heap.size W5).drew
                              have HX6 := Lib.hid (HX5.out.below hdr)
                              have HY6 := Lib.hid (HY5.out.below hdr)
                              have HQ6 := Lib.hid (HQ5.out.below hdr)
                              clear hdd Hri HX5 HY5 HQ5 hB5 hD5
                              generalize cmpR x q = cw at *
                              generalize cmpR q y = cz at *
                              by_cases h6 : cw ≤ 0
                              · have t6 : decide (cw ≤ 0) = true := decide_eq_true h6
                                have Hr3 : Hid (rightAt xs dust x y i = decide (cz ≤ 0)) := by show _ = _; rw [Hr2.out, t6]; simp
                                clear h6 Hr2
                                go_region_held3 (fun w' => w'.cell? ⟨b, off + i * 3 + 1, none⟩ = some (.int .i64 du) ∧ w'.cell? ⟨w.heap.size, 0, none⟩ = some (.int .i64 dust) ∧ w'.cell? ⟨w.heap.size, 1, none⟩ = some (.bool s1) ∧ w'.cell? ⟨w.heap.size, 2, none⟩ = some (.slice a1 n1 c1) ∧ w'.cell? ⟨w.heap.size, 3, none⟩ = some (.slice a2 n2 c2) ∧ w'.cell? ⟨w.heap.size, 4, none⟩ = some (.bool s2) ∧ w'.cell? ⟨w.heap.size, 5, none⟩ = some (.slice a3 n3 c3) ∧ w'.cell? ⟨w.heap.size, 6, none⟩ = some (.slice a4 n4 c4) ∧ w'.cell? ⟨D5, 0, none⟩ = some (.bool s5) ∧ w'.cell? ⟨D5, 1, none⟩ = some (.slice a5 n5 c5) ∧ w'.cell? ⟨D5, 2, none⟩ = some (.slice a6 n6 c6))
                                  (first | exact ⟨v1d, p0, p1, p2, p3, p4, p5, p6, d0, d1, d2⟩ | assumption | (refine keep11 hbA ?_; assumption) | (refine keep11 hbB ?_; assumption))
                                  (first | (go_at_call 49; refine (HC1.out _ HX6.out HQ6.out).mono ?_; rintro e wA ⟨rfl, hbA⟩; have HQ7 := Lib.hid (HQ6.out.below hbA); have HY7 := Lib.hid (HY6.out.below hbA)) | (go_at_call 49; refine (HC2.out _ HQ7.out HY7.out).mono ?_; rintro e wB ⟨rfl, hbB⟩))
                                go_wp2_with fail
                                go_meet
                                exact ⟨by rw [Hr3.out], hdr.trans ((below_join hbA hbB).mono hdr.size)⟩
                              · have t6 : decide (cw ≤ 0) = false := decide_eq_false h6
                                have Hr3 : Hid (rightAt xs dust x y i = false) := by show _ = _; rw [Hr2.out, t6]; simp
                                clear h6 Hr2
                                refine wp_region_held_drew (S := fun w' => w'.cell? ⟨b, off + i * 3 + 1, none⟩ = some (.int .i64 du) ∧ w'.cell? ⟨w.heap.size, 0, none⟩ = some (.int .i64 dust) ∧ w'.cell? ⟨w.heap.size, 1, none⟩ = some (.bool s1) ∧ w'.cell? ⟨w.heap.size, 2, none⟩ = some (.slice a1 n1 c1) ∧ w'.cell? ⟨w.heap.size, 3, none⟩ = some (.slice a2 n2 c2) ∧ w'.cell? ⟨w.heap.size, 4, none⟩ = some (.bool s2) ∧ w'.cell? ⟨w.heap.size, 5, none⟩ = some (.slice a3 n3 c3) ∧ w'.cell? ⟨w.heap.size, 6, none⟩ = some (.slice a4 n4 c4) ∧ w'.cell? ⟨D5, 0, none⟩ = some (.bool s5) ∧ w'.cell? ⟨D5, 1, none⟩ = some (.slice a5 n5 c5) ∧ w'.cell? ⟨D5, 2, none⟩ = some (.slice a6 n6 c6)) (by kernel_rfl) ⟨v1d, p0, p1, p2, p3, p4, p5, p6, d0, d1, d2⟩ (fun hHeld => ?_)
                                refine wpAnyH_take (i := 0) (v := ?vb0) rfl (by kernel_rfl) (by kernel_rfl) (by kernel_rfl) (fun _ _ _ h => h) (Or.inl ⟨by rfl, ?hyb0⟩) (by assumption) ?reb0
                                case hyb0 => first | (intro w hSw; (try dsimp only at hSw); go_simp; done) | (intro w hSw; (try dsimp only at hSw); go_simp; with_reducible rfl)
                                try simp only [List.getElem_toArray, List.getElem_cons_zero, List.getElem_cons_succ, Act.put, List.setIfInBounds_toArray, List.set_cons_zero, List.set_cons_succ]
                                refine wpAnyH_take (i := 1) (v := ?vb1) rfl (by kernel_rfl) (by kernel_rfl) (by kernel_rfl) (fun _ _ _ h => h) (Or.inl ⟨by rfl, ?hyb1⟩) (by assumption) ?reb1
                                case hyb1 => first | (intro w hSw; (try dsimp only at hSw); go_simp; done) | (intro w hSw; (try dsimp only at hSw); go_simp; with_reducible rfl)
                                try simp only [List.getElem_toArray, List.getElem_cons_zero, List.getElem_cons_succ, Act.put, List.setIfInBounds_toArray, List.set_cons_zero, List.set_cons_succ]
                                refine wpAnyH_take (i := 2) (v := ?vb2) rfl (by kernel_rfl) (by kernel_rfl) (by kernel_rfl) (fun _ _ _ h => h) (Or.inl ⟨by rfl, ?hyb2⟩) (by assumption) ?reb2
                                case hyb2 => first | (intro w hSw; (try dsimp only at hSw); go_simp; done) | (intro w hSw; (try dsimp only at hSw); go_simp; with_reducible rfl)
                                try simp only [List.getElem_toArray, List.getElem_cons_zero, List.getElem_cons_succ, Act.put, List.setIfInBounds_toArray, List.set_cons_zero, List.set_cons_succ]
                                refine wpAnyH_take (i := 3) (v := ?vb3) rfl (by kernel_rfl) (by kernel_rfl) (by kernel_rfl) (fun _ _ _ h => h) (Or.inl ⟨by rfl, ?hyb3⟩) (by assumption) ?reb3
                                case hyb3 => first | (intro w hSw; (try dsimp only at hSw); go_simp; done) | (intro w hSw; (try dsimp only at hSw); go_simp; with_reducible rfl)
                                try simp only [List.getElem_toArray, List.getElem_cons_zero, List.getElem_cons_succ, Act.put, List.setIfInBounds_toArray, List.set_cons_zero, List.set_cons_succ]
                                refine wpAnyH_take (i := 4) (v := ?vb4) rfl (by kernel_rfl) (by kernel_rfl) (by kernel_rfl) (fun _ _ _ h => h) (Or.inl ⟨by rfl, ?hyb4⟩) (by assumption) ?reb4
                                case hyb4 => first | (intro w hSw; (try dsimp only at hSw); go_simp; done) | (intro w hSw; (try dsimp only at hSw); go_simp; with_reducible rfl)
                                try simp only [List.getElem_toArray, List.getElem_cons_zero, List.getElem_cons_succ, Act.put, List.setIfInBounds_toArray, List.set_cons_zero, List.set_cons_succ]
                                refine wpAnyH_take (i := 5) (v := ?vb5) rfl (by kernel_rfl) (by kernel_rfl) (by kernel_rfl) (fun _ _ _ h => h) (Or.inl ⟨by rfl, ?hyb5⟩) (by assumption) ?reb5
                                case hyb5 => first | (intro w hSw; (try dsimp only at hSw); go_simp; done) | (intro w hSw; (try dsimp only at hSw); go_simp; with_reducible rfl)
                                try simp only [List.getElem_toArray, List.getElem_cons_zero, List.getElem_cons_succ, Act.put, List.setIfInBounds_toArray, List.set_cons_zero, List.set_cons_succ]
                                refine wpAnyH_take (i := 6) (v := ?vb6) rfl (by kernel_rfl) (by kernel_rfl) (by kernel_rfl) (fun _ _ _ h => h) (Or.inl ⟨by rfl, ?hyb6⟩) (by assumption) ?reb6
                                case hyb6 => first | (intro w hSw; (try dsimp only at hSw); go_simp; done) | (intro w hSw; (try dsimp only at hSw); go_simp; with_reducible rfl)
                                try simp only [List.getElem_toArray, List.getElem_cons_zero, List.getElem_cons_succ, Act.put, List.setIfInBounds_toArray, List.set_cons_zero, List.set_cons_succ]
                                refine wpAnyH_take (i := 7) (v := ?vb7) rfl (by kernel_rfl) (by kernel_rfl) (by kernel_rfl) (fun _ _ _ h => h) (Or.inl ⟨by rfl, ?hyb7⟩) (by assumption) ?reb7
                                case hyb7 => first | (intro w hSw; (try dsimp only at hSw); go_simp; done) | (intro w hSw; (try dsimp only at hSw); go_simp; with_reducible rfl)
                                try simp only [List.getElem_toArray, List.getElem_cons_zero, List.getElem_cons_succ, Act.put, List.setIfInBounds_toArray, List.set_cons_zero, List.set_cons_succ]
                                refine wpAnyH_take (i := 8) (v := ?vb8) rfl (by kernel_rfl) (by kernel_rfl) (by kernel_rfl) (fun _ _ _ h => h) (Or.inl ⟨by rfl, ?hyb8⟩) (by assumption) ?reb8
                                case hyb8 => first | (intro w hSw; (try dsimp only at hSw); go_simp; done) | (intro w hSw; (try dsimp only at hSw); go_simp; with_reducible rfl)
                                try simp only [List.getElem_toArray, List.getElem_cons_zero, List.getElem_cons_succ, Act.put, List.setIfInBounds_toArray, List.set_cons_zero, List.set_cons_succ]
                                refine wpAnyH_take (i := 9) (v := ?vb9) rfl (by kernel_rfl) (by kernel_rfl) (by kernel_rfl) (fun _ _ _ h => h) (Or.inl ⟨by rfl, ?hyb9⟩) (by assumption) ?reb9
                                case hyb9 => first | (intro w hSw; (try dsimp only at hSw); go_simp; done) | (intro w hSw; (try dsimp only at hSw); go_simp; with_reducible rfl)
                                try simp only [List.getElem_toArray, List.getElem_cons_zero, List.getElem_cons_succ, Act.put, List.setIfInBounds_toArray, List.set_cons_zero, List.set_cons_succ]
                                refine wpAnyH_take (i := 10) (v := ?vb10) rfl (by kernel_rfl) (by kernel_rfl) (by kernel_rfl) (fun _ _ _ h => h) (Or.inl ⟨by rfl, ?hyb10⟩) (by assumption) ?reb10
                                case hyb10 => first | (intro w hSw; (try dsimp only at hSw); go_simp; done) | (intro w hSw; (try dsimp only at hSw); go_simp; with_reducible rfl)
                                try simp only [List.getElem_toArray, List.getElem_cons_zero, List.getElem_cons_succ, Act.put, List.setIfInBounds_toArray, List.set_cons_zero, List.set_cons_succ]
                                refine wpAnyH_take (i := 11) (v := ?vb11) rfl (by kernel_rfl) (by kernel_rfl) (by kernel_rfl) (fun _ _ _ h => h) (Or.inl ⟨by rfl, ?hyb11⟩) (by assumption) ?reb11
                                case hyb11 => first | (intro w hSw; (try dsimp only at hSw); go_simp; done) | (intro w hSw; (try dsimp only at hSw); go_simp; with_reducible rfl)
                                try simp only [List.getElem_toArray, List.getElem_cons_zero, List.getElem_cons_succ, Act.put, List.setIfInBounds_toArray, List.set_cons_zero, List.set_cons_succ]
                                refine wpAnyH_ready (rs := [12]) (by kernel_rfl) (by simp) ?_
                                refine AllReadyH.cons rfl (fun K hK => ?_) AllReadyH.nil
                                go_simp
                                go_wp2_with (go_at_call 49; refine (HC1.out _ HX6.out HQ6.out).mono ?_; rintro e wA ⟨rfl, hbA⟩)
                                refine hK.out _ _ (keep11 hbA hHeld) (fun hHeld2 => ?_)
                                clear hK K hHeld
                                refine wpAnyH_take (i := 13) (v := ?vb13) rfl (by kernel_rfl) (by kernel_rfl) (by kernel_rfl) (fun _ _ _ h => h) (Or.inl ⟨by rfl, ?hyb13⟩) (by assumption) ?reb13
                                case hyb13 => first | (intro w hSw; (try dsimp only at hSw); go_simp; done) | (intro w hSw; (try dsimp only at hSw); go_simp; with_reducible rfl)
                                try simp only [List.getElem_toArray, List.getElem_cons_zero, List.getElem_cons_succ, Act.put, List.setIfInBounds_toArray, List.set_cons_zero, List.set_cons_succ]
                                refine wpAnyH_take (i := 14) (v := ?vb14) rfl (by kernel_rfl) (by kernel_rfl) (by kernel_rfl) (fun _ _ _ h => h) (Or.inl ⟨by rfl, ?hyb14⟩) (by assumption) ?reb14
                                case hyb14 => first | (intro w hSw; (try dsimp only at hSw); go_simp; done) | (intro w hSw; (try dsimp only at hSw); go_simp; with_reducible rfl)
                                try simp only [List.getElem_toArray, List.getElem_cons_zero, List.getElem_cons_succ, Act.put, List.setIfInBounds_toArray, List.set_cons_zero, List.set_cons_succ]
                                refine wpAnyH_take (i := 15) (v := ?vb15) rfl (by kernel_rfl) (by kernel_rfl) (by kernel_rfl) (fun _ _ _ h => h) (Or.inl ⟨by rfl, ?hyb15⟩) (by assumption) ?reb15
                                case hyb15 => first | (intro w hSw; (try dsimp only at hSw); go_simp; done) | (intro w hSw; (try dsimp only at hSw); go_simp; with_reducible rfl)
                                try simp only [List.getElem_toArray, List.getElem_cons_zero, List.getElem_cons_succ, Act.put, List.setIfInBounds_toArray, List.set_cons_zero, List.set_cons_succ]
                                refine wpAnyH_take (i := 16) (v := undef) rfl (by kernel_rfl) (by kernel_rfl) (by kernel_rfl) (fun _ _ _ h => h) (Or.inr ⟨by rfl, rfl⟩) (by assumption) ?_
                                try simp only [List.getElem_toArray, List.getElem_cons_zero, List.getElem_cons_succ, Act.put, List.setIfInBounds_toArray, List.set_cons_zero, List.set_cons_succ]
                                refine wpAnyH_take (i := 17) (v := undef) rfl (by kernel_rfl) (by kernel_rfl) (by kernel_rfl) (fun _ _ _ h => h) (Or.inr ⟨by rfl, rfl⟩) (by assumption) ?_
                                try simp only [List.getElem_toArray, List.getElem_cons_zero, List.getElem_cons_succ, Act.put, List.setIfInBounds_toArray, List.set_cons_zero, List.set_cons_succ]
                                refine wpAnyH_take (i := 18) (v := undef) rfl (by kernel_rfl) (by kernel_rfl) (by kernel_rfl) (fun _ _ _ h => h) (Or.inr ⟨by rfl, rfl⟩) (by assumption) ?_
                                try simp only [List.getElem_toArray, List.getElem_cons_zero, List.getElem_cons_succ, Act.put, List.setIfInBounds_toArray, List.set_cons_zero, List.set_cons_succ]
                                refine wpAnyH_take (i := 19) (v := undef) rfl (by kernel_rfl) (by kernel_rfl) (by kernel_rfl) (fun _ _ _ h => h) (Or.inr ⟨by rfl, rfl⟩) (by assumption) ?_
                                try simp only [List.getElem_toArray, List.getElem_cons_zero, List.getElem_cons_succ, Act.put, List.setIfInBounds_toArray, List.set_cons_zero, List.set_cons_succ]
                                refine wpAnyH_take (i := 20) (v := undef) rfl (by kernel_rfl) (by kernel_rfl) (by kernel_rfl) (fun _ _ _ h => h) (Or.inr ⟨by rfl, rfl⟩) (by assumption) ?_
                                try simp only [List.getElem_toArray, List.getElem_cons_zero, List.getElem_cons_succ, Act.put, List.setIfInBounds_toArray, List.set_cons_zero, List.set_cons_succ]
                                refine wpAnyH_take (i := 21) (v := ?vb21) rfl (by kernel_rfl) (by kernel_rfl) (by kernel_rfl) (fun _ _ _ h => h) (Or.inl ⟨by rfl, ?hyb21⟩) (by assumption) ?reb21
                                case hyb21 => first | (intro w hSw; (try dsimp only at hSw); go_simp; done) | (intro w hSw; (try dsimp only at hSw); go_simp; with_reducible rfl)
                                try simp only [List.getElem_toArray, List.getElem_cons_zero, List.getElem_cons_succ, Act.put, List.setIfInBounds_toArray, List.set_cons_zero, List.set_cons_succ]
                                refine wpAnyH_take (i := 22) (v := ?vb22) rfl (by kernel_rfl) (by kernel_rfl) (by kernel_rfl) (fun _ _ _ h => h) (Or.inl ⟨by rfl, ?hyb22⟩) (by assumption) ?reb22
                                case hyb22 => first | (intro w hSw; (try dsimp only at hSw); go_simp; done) | (intro w hSw; (try dsimp only at hSw); go_simp; with_reducible rfl)
                                try simp only [List.getElem_toArray, List.getElem_cons_zero, List.getElem_cons_succ, Act.put, List.setIfInBounds_toArray, List.set_cons_zero, List.set_cons_succ]
                                refine wpAnyH_done (by kernel_rfl) ?_ _
                                go_wp2_with fail
                                go_meet
                                exact ⟨by rw [Hr3.out], hdr.trans (hbA.mono hdr.size)⟩
                            · have tdd : decide (du ≤ dust) = false := decide_eq_false hdd
                              have Hr3 : Hid (rightAt xs dust x y i = false) := by show _ = _; rw [Hri.out, tdd]; simp
                              clear hdd Hri
                              go_region
                              go_wp2_with fail
                              go_meet
                              exact ⟨by rw [Hr3.out], (Below.refl _ _).drew⟩
                          case rest =>
                            as_aux_lemma =>
                            obtain ⟨rfl, hxc⟩ := hcut
                            have hx6 : Below wr.heap.size wr wc := ext_trans hxd hxc
                            have hx7 := hbel.trans (hx6.mono hbel.size)
                            have e7 := blk_cell (blk_keep hB5 hxc hBl5) 7 (.int .i64 gap) rfl
                            have z0 := (hxc.cell (p := ⟨b, off + i * 3, none⟩) hbl5).trans v0d
                            have hblc : b < wc.heap.size := Nat.lt_of_lt_of_le hbl5 hxc.size
                            have hBlc : w.heap.size < wc.heap.size := Nat.lt_of_lt_of_le hBl5 hxc.size
                            have y0 := (hxc.cell (p := ⟨b, off + j * 3, none⟩) hbl5).trans k0d
                            have hLc := hL.below hx6
                            have hwl := workTo_length xs dust gap x y i
                            have hi1 : 1 ≤ i := hi0
                            clear hL Hri hB5 hD5 HX5 HY5 HQ5 hxc v0d v1d k0d hi0
                            rw [Hpv.out]
                            clear Hpv
                            generalize rightAt xs dust x y i = ri at *
                            generalize rightAt xs dust x y j = rj at *
                            generalize workTo xs dust gap x y i = l at *
                            clear hty
                            generalize ty = ti at *
                            have hws : IntKind.i64.wrap (ti - tj) = ti - tj := IntWalk.i64_in _ (by omega)
                            cases ri with
                            | false =>
                              have Hs := Lib.hid (Hsk.out (by rw [Hjo.out]; simp))
                              clear Hsk Hjn Hjo
                              go_wp2_with fail
                              go_region
                              go_wp2_with fail
                              exact ⟨⟨i + 1, by omega, by go_num, by rw [Hpn.out], Hv.out, by rw [Hs.out]; exact hLc.below (Below.refl _ _).drew, hx7.drew⟩, meas_up hlt⟩
                            | true =>
                              cases rj with
                              | false =>
                                have Hs := Lib.hid (Hsk.out (by rw [Hjo.out]; simp))
                                clear Hsk Hjn Hjo
                                go_wp2_with fail
                                go_region
                                go_wp2_with fail
                                exact ⟨⟨i + 1, by omega, by go_num, by rw [Hpn.out], Hv.out, by rw [Hs.out]; exact hLc.below (Below.refl _ _).drew, hx7.drew⟩, meas_up hlt⟩
                              | true =>
                                by_cases hgap : ti - tj ≤ gap
                                · have tg : decide (ti - tj ≤ gap) = true := decide_eq_true hgap
                                  have Hn := Lib.hid (Hjn.out (by rw [Hjo.out]; simp; exact hgap))
                                  have g0d : wc.drew.cell? ⟨b, off + i * 3, none⟩ = some (.int .i64 ti) := z0
                                  have k0d : wc.drew.cell? ⟨b, off + j * 3, none⟩ = some (.int .i64 tj) := y0
                                  have hLd : LRow wc.drew w2.heap.size 112 2 u6 l.length (pairCells l) := hLc.below (Below.refl _ _).drew
                                  have hxd2 := hx7.drew
                                  have hbld : b < wc.drew.heap.size := hblc
                                  have hbne : some b ≠ u6.ownBlock := fun e => by have := (hLc.lt e.symm).2; omega
                                  have hll : l.length ≤ 256 := by omega
                                  clear Hsk Hjn Hjo hgap
                                  go_wp2_with fail
                                  go_region
                                  clear e7 hws tg z0 y0 hLc hx7 hx6 hblc hBlc
                                  generalize wc.drew = W6 at *
                                  by_cases hl0 : 0 < l.length
                                  · have tl : decide (0 < l.length) = true := decide_eq_true hl0
                                    obtain ⟨go, capo, rfl⟩ := ownsRow_some hLd.1 hl0
                                    obtain ⟨k, hk⟩ : ∃ k, l.length = k + 1 := ⟨l.length - 1, by omega⟩
                                    have f1 := hLd.at (pairCells_get l k (by omega)).2
                                    have hgo := hLd.lt (g := go) rfl
                                    have f1' : IntKind.i64.wrap ((l.length : Int) - 1) = (k : Int) := by rw [show (l.length : Int) - 1 = (k : Int) by omega]; exact IntWalk.i64_in _ (by omega)
                                    have f2' : (l.length : Int) - 1 = (k : Int) := by omega
                                    have hk2 : (k : Int) < l.length := by omega
                                    have hk0 : (0 : Int) ≤ k := by omega
                                    have ek : l.length - 1 = k := by omega
                                    have Hadd : Hid (addSpan l tj ti = if (l.getD k (0, 0)).2 = tj then l.set k ((l.getD k (0, 0)).1, ti) else l ++ [(tj, ti)]) := by
                                      show _ = _
                                      unfold addSpan
                                      rw [ek]
                                      by_cases h : (l.getD k (0, 0)).2 = tj
                                      · rw [if_pos ⟨hl0, h⟩, if_pos h]
                                      · rw [if_neg (fun h2 => h h2.2), if_neg h]
                                    have hset := pairCells_set l k ti (by omega)
                                    have Hset : Hid ((pairCells l).set (k * 2 + 1) (.int .i64 ti) = pairCells (l.set k ((l.getD k (0, 0)).1, ti))) := hset
                                    have Hlen : Hid ((l.set k ((l.getD k (0, 0)).1, ti)).length = l.length) := by show _ = _; simp
                                    have HLd := Lib.hid hLd
                                    clear hk ek hset hLd
                                    generalize (l.getD k (0, 0)).2 = lt at *
                                    generalize (l.getD k (0, 0)).1 = lf at *
                                    have f1d : W6.drew.cell? ⟨go, k * 2 + 1, none⟩ = some (.int .i64 lt) := f1
                                    have g0e : W6.drew.cell? ⟨b, off + i * 3, none⟩ = some (.int .i64 ti) := g0d
                                    have k0e : W6.drew.cell? ⟨b, off + j * 3, none⟩ = some (.int .i64 tj) := k0d
                                    have HLe := Lib.hid (HLd.out.below (Below.refl _ _).drew)
                                    have hxe := hxd2.drew
                                    have hble : b < W6.drew.heap.size := hbld
                                    have hgo3 := hgo.1
                                    have hgoe : go < W6.drew.heap.size := hgo3
                                    by_cases heq : lt = tj
                                    · have te : (lt == tj) = true := beq_iff_eq.2 heq
                                      have Ha : Hid (addSpan l tj ti = l.set k (lf, ti)) := by show _ = _; rw [Hadd.out, if_pos heq]
                                      clear heq Hadd
                                      go_wp2_with fail
                                      go_region
                                      clear f1 g0d k0d hxd2 te tl
                                      generalize W6.drew = W4 at *
                                      have hfr : W4.frozen? ⟨go, k * 2 + 1, none⟩ = false := HLe.out.1.frozenAt _
                                      go_wp2_with fail
                                      exact ⟨⟨i + 1, by omega, by go_num, by rw [Hpn.out], Hv.out, by rw [Hn.out, Ha.out, Hlen.out, ← Hset.out]; exact (HLe.out.stored _ _ (noDig_i64 _)).1, hxe.setCell (p := ⟨go, k * 2 + 1, none⟩) hgo.2 _⟩, meas_up hlt⟩
                                    · have te : (lt == tj) = false := beq_eq_false_iff_ne.2 heq
                                      have Ha : Hid (addSpan l tj ti = l ++ [(tj, ti)]) := by show _ = _; rw [Hadd.out, if_neg heq]
                                      clear heq Hadd
                                      go_wp2_with fail
                                      go_region
                                      clear f1 f1d g0d k0d hxd2 te tl
                                      generalize W6.drew = W4 at *
                                      have hWb := hxe.size
                                      have hxf : Below w2.heap.size w2 (W4.drew.alloc (.cells #[.int .i64 tj, .int .i64 ti] 112)) := hxe.drew.alloc hxe.size _
                                      have HLf := Lib.hid (HLe.out.below ((Below.refl W4.heap.size W4).drew.alloc (Nat.le_refl _) (.cells #[.int .i64 tj, .int .i64 ti] 112)))
                                      clear HLe e2'
                                      go_wp2_with fail
                                      go_region_held3 (fun w' => w'.cell? ⟨b, off + j * 3, none⟩ = some (.int .i64 tj) ∧ w'.cell? ⟨b, off + i * 3, none⟩ = some (.int .i64 ti))
                                        (first | exact ⟨k0e, g0e⟩ | assumption | (refine two_alloc _ ?_; assumption) | (refine two_grown hgrA hbne hbne ?_; assumption))
                                        (first | (refine step_append_lrow _ rfl (.tmp 153) (.tmp 166) 93 rfl w2.heap.size 112 iS _ 2 16 Try.underlying93 hiS hzS hsS hyS rfl (by decide) zd2 _ _ _ rfl HLf.out ⟨W4.heap.size, 0, none⟩ 1 1 [.int .i64 tj, .int .i64 ti] rfl rfl (cell_new2 _ _ _ _) (one2 _ _) (nd2 _ _) (by omega) (by unfold maxLen; omega) (by omega) hxf.size ?_; intro gA capA wA hLA hgrA hatA))
                                      have hxA : Below w2.heap.size w2 wA := hxf.grown hgrA hxf.size (ownBlock_base HLf.out.1)
                                      have HLA := Lib.hid hLA
                                      clear hLA
                                      go_wp2_with fail
                                      exact ⟨⟨i + 1, by omega, by go_num, by rw [Hpn.out], Hv.out, by rw [Hn.out, Ha.out, List.length_append, pairCells_append]; exact HLA.out, hxA⟩, meas_up hlt⟩
                                  · have tl : decide (0 < l.length) = false := decide_eq_false hl0
                                    have Ha : Hid (addSpan l tj ti = l ++ [(tj, ti)]) := by show _ = _; exact addSpan_new (fun h => hl0 h.1)
                                    obtain ⟨aoo, capo, rfl⟩ := hLd.form
                                    have g0e : W6.drew.cell? ⟨b, off + i * 3, none⟩ = some (.int .i64 ti) := g0d
                                    have k0e : W6.drew.cell? ⟨b, off + j * 3, none⟩ = some (.int .i64 tj) := k0d
                                    have HLe := Lib.hid (hLd.below (Below.refl _ _).drew)
                                    have hxe := hxd2.drew
                                    have hble : b < W6.drew.heap.size := hbld
                                    clear hl0
                                    go_wp2_with fail
                                    go_region
                                    clear hLd g0d k0d hxd2 tl
                                    generalize W6.drew = W4 at *
                                    have hWb := hxe.size
                                    have hxf : Below w2.heap.size w2 (W4.drew.alloc (.cells #[.int .i64 tj, .int .i64 ti] 112)) := hxe.drew.alloc hxe.size _
                                    have HLf := Lib.hid (HLe.out.below ((Below.refl W4.heap.size W4).drew.alloc (Nat.le_refl _) (.cells #[.int .i64 tj, .int .i64 ti] 112)))
                                    clear HLe e2'
                                    go_wp2_with fail
                                    go_region_held3 (fun w' => w'.cell? ⟨b, off + j * 3, none⟩ = some (.int .i64 tj) ∧ w'.cell? ⟨b, off + i * 3, none⟩ = some (.int .i64 ti))
                                      (first | exact ⟨k0e, g0e⟩ | assumption | (refine two_alloc _ ?_; assumption) | (refine two_grown hgrA hbne hbne ?_; assumption))
                                      (first | (refine step_append_lrow _ rfl (.tmp 153) (.tmp 166) 93 rfl w2.heap.size 112 iS _ 2 16 Try.underlying93 hiS hzS hsS hyS rfl (by decide) zd2 _ _ _ rfl HLf.out ⟨W4.heap.size, 0, none⟩ 1 1 [.int .i64 tj, .int .i64 ti] rfl rfl (cell_new2 _ _ _ _) (one2 _ _) (nd2 _ _) (by omega) (by unfold maxLen; omega) (by omega) hxf.size ?_; intro gA capA wA hLA hgrA hatA))
                                    have hxA : Below w2.heap.size w2 wA := hxf.grown hgrA hxf.size (ownBlock_base HLf.out.1)
                                    have HLA := Lib.hid hLA
                                    clear hLA
                                    go_wp2_with fail
                                    exact ⟨⟨i + 1, by omega, by go_num, by rw [Hpn.out], Hv.out, by rw [Hn.out, Ha.out, List.length_append, pairCells_append]; exact HLA.out, hxA⟩, meas_up hlt⟩
                                · have tg : decide (ti - tj ≤ gap) = false := decide_eq_false hgap
                                  have Hs := Lib.hid (Hsk.out (by rw [Hjo.out]; simp; omega))
                                  clear Hsk Hjn Hjo hgap
                                  go_wp2_with fail
                                  go_region
                                  go_wp2_with fail
                                  exact ⟨⟨i + 1, by omega, by go_num, by rw [Hpn.out], Hv.out, by rw [Hs.out]; exact hLc.below (Below.refl _ _).drew, hx7.drew⟩, meas_up hlt⟩
              · have HFl := Lib.hid hFl
                clear hFl
                go_wp2_with (simp only [hc])
                refine (HFl.out _ _).mono ?_
                rintro e w3 ⟨v, rfl, hv, hb3⟩
                have hxa : Below wr.heap.size wr w3 := ext_trans (Below.refl wr.heap.size wr).drew hb3
                obtain ⟨d5, a5, c5, a6, c6, rfl, _, _, _⟩ := hv.opened
                have HQ := Lib.hid hv
                clear hv hb3
                generalize tempQ bt = q at *
                generalize hs5 : decide (q.num < 0) = s5 at *
                generalize hn5 : (dig b32 q.num.natAbs).length = n5 at *
                generalize hn6 : (dig b32 d5).length = n6 at *
                clear hs5 hn5 hn6
                have hxb : Below wr.heap.size wr (w3.alloc (.cells #[.bool s5, .slice a5 n5 c5, .slice a6 n6 c6] 50)) := hxa.alloc hxa.size _
                have hx4 : Below w2.heap.size w2 (w3.alloc (.cells #[.bool s5, .slice a5 n5 c5, .slice a6 n6 c6] 50)) := hbel.trans (hxb.mono hbel.size)
                have v0 := (hxb.cell (p := ⟨b, off + i * 3, none⟩) hbl2).trans g0
                have v1 := (hxb.cell (p := ⟨b, off + i * 3 + 1, none⟩) hbl2).trans g1
                have v0' := (hxa.cell (p := ⟨b, off + i * 3, none⟩) hbl2).trans g0
                have v1' := (hxa.cell (p := ⟨b, off + i * 3 + 1, none⟩) hbl2).trans g1
                have hbl3 : b < (w3.alloc (.cells #[.bool s5, .slice a5 n5 c5, .slice a6 n6 c6] 50)).heap.size := Nat.lt_of_lt_of_le hbl hx4.size
                have hbl3' : b < w3.heap.size := Nat.lt_of_lt_of_le hbl2 hxa.size
                go_wp2_with fail
                refine (qtime_any ty _).mono ?_
                rintro e wz ⟨rfl, rfl⟩
                cases hT : timeB ty with
                | false =>
                  have Hv := bad 1 (by rw [Hent0.out, if_pos (.inl hT)]) (by decide)
                  clear bad hT
                  go_wp2_with fail
                  go_ret2
                  exact ⟨.slice none 0 0, by rw [Hv.out.1]; rfl, by rw [Hv.out.2]; exact PairsOf.nil _, hx2.trans (hx4.mono hx2.size)⟩
                | true =>
                  by_cases hdu : du < 0
                  · have td : decide (du < 0) = true := decide_eq_true hdu
                    have Hv := bad 1 (by rw [Hent0.out, if_pos (.inr (.inl hdu))]) (by decide)
                    clear bad hT hdu
                    go_wp2_with fail
                    go_ret2
                    exact ⟨.slice none 0 0, by rw [Hv.out.1]; rfl, by rw [Hv.out.2]; exact PairsOf.nil _, hx2.trans (hx4.mono hx2.size)⟩
                  · have td : decide (du < 0) = false := decide_eq_false hdu
                    have hK : tempOk bt = false := by
                      cases h : tempOk bt
                      · rfl
                      · unfold tempE at hE1
                        rw [if_pos h] at hE1
                        exact absurd hE1 (by decide)
                    have hte : (tempE bt != 0) = true := by rw [hE1]; rfl
                    have Hv := bad 1 (by rw [Hent0.out, if_pos (.inr (.inr hK))]) (by decide)
                    clear bad hT hdu hK hE1
                    generalize tempE bt = te at *
                    go_wp2_with fail
                    go_ret2
                    exact ⟨.slice none 0 0, by rw [Hv.out.1]; rfl, by rw [Hv.out.2]; exact PairsOf.nil _, hx2.trans (hx4.mono hx2.size)⟩
            · obtain rfl : i = xs.length := by omega
              have Hf : Hid (workErr xs gap x y = 0) := by show _ = _; rw [Hw.out, hF.out]
              have Hl : Hid (workL xs dust gap x y = workTo xs dust gap x y xs.length) := by show _ = _; unfold workL; rw [if_pos Hf.out]
              have HP := Lib.hid (PairsOf.ofRow hL)
              clear hL
              go_wp2_with fail
              go_ret2
              exact ⟨_, by rw [Hf.out]; rfl, by rw [Hl.out]; exact HP.out, hx2.trans (hbel.mono hx2.size)⟩

end Go.Proofs.Ytdjdnfjgklaneaa

/- THE WALK OF law06.StoreWorks. -/
namespace Go.Proofs.Ytdjdnfjgklaneaa
open Go.RowKit

theorem span_fields : (Try.prog.fieldsOf 112).toList = [{ name := "From", type := 3, offset := 0, embedded := false, tag := "", pkgPath := "", byteOffset := 0 }, { name := "To", type := 3, offset := 1, embedded := false, tag := "", pkgPath := "", byteOffset := 8 }] := by kernel_rfl
set_option maxRecDepth 100000 in
theorem neq_span (a b : Int) (w : World) : (binOp .neq 112 (.agg #[.int .i64 a, .int .i64 b]) (.agg #[.int .i64 a, .int .i64 b])).run Try.prog w = .ok (.bool false) w := by
  rw [run_neq_struct, run_equalIn_struct w 9999 112 _ _ (by kernel_rfl) (by kernel_rfl), span_fields]
  have h1 : ∀ w, (part 3 #[Value.int .i64 a, .int .i64 b] 0).run Try.prog w = .ok (.int .i64 a) w := fun w => by kernel_rfl
  have h2 : ∀ w, (part 3 #[Value.int .i64 a, .int .i64 b] 1).run Try.prog w = .ok (.int .i64 b) w := fun w => by kernel_rfl
  have h3 : ∀ (x : Int) w, (Op.equalIn 9999 3 (.int .i64 x) (.int .i64 x)).run Try.prog w = .ok true w := fun x w => by rw [run_equalIn_int w 9998 3 .i64 .i64 x x Try.underlying3]; simp
  have n0 : ("From" ≠ "_") := by decide
  have n1 : ("To" ≠ "_") := by decide
  unfold Op.eqFields
  rw [if_pos n0]
  simp only [Sem.run_bind, h1, h3, Result.andThen_ok, Sem.run_ite]
  unfold Op.eqFields
  rw [if_pos n1]
  simp only [Sem.run_bind, h2, h3, Result.andThen_ok, Sem.run_ite]
  unfold Op.eqFields
  simp

set_option maxRecDepth 100000 in
set_option maxHeartbeats 4000000 in
theorem spans_same (l : List (Int × Int)) (va vb : Value) (w : World) (ha : PairsOf w va l) (hb : PairsOf w vb l) (hl : l.length ≤ 1000000) : Calls Try.prog 35 #[va, vb] w (RetBool true w) := by
  obtain ⟨aoa, capa, rfl, hA⟩ := ha
  obtain ⟨aob, capb, rfl, hB⟩ := hb
  have HA := Lib.hid hA
  have HB := Lib.hid hB
  clear hA hB
  have hns := neq_span
  have t1 : ((l.length : Int) != (l.length : Int)) = false := by simp
  go_enter Try.func35, Try.ntmps35
  go_wp2_with fail
  go_loopw [13] (fun iv wr => ∃ (i : Nat), i ≤ l.length ∧ iv = .int .i64 i ∧ Below w.heap.size w wr) (fun iv _ => l.length - (intOf iv).toNat)
  case atStart => exact ⟨0, Nat.zero_le _, rfl, Below.refl _ _⟩
  case round =>
    obtain ⟨i, hi, rfl, hbel⟩ := hrel
    by_cases hlt : i < l.length
    · obtain ⟨b, off, rfl, hbl, hAA⟩ := HA.out (by omega)
      obtain ⟨b2, off2, rfl, hbl2, hBB⟩ := HB.out (by omega)
      obtain ⟨g0, g1⟩ := (hAA i hlt).below hbel hbl
      obtain ⟨k0, k1⟩ := (hBB i hlt).below hbel hbl2
      have hlt' : (i : Int) < l.length := by omega
      have hge' : (0 : Int) ≤ i := by omega
      clear hAA hBB
      generalize (l.getD i (0, 0)).1 = x at *
      generalize (l.getD i (0, 0)).2 = y at *
      go_wp2_with fail
      go_region
      go_wp2_with fail
      exact ⟨⟨i + 1, by omega, by go_num, hbel.drew⟩, meas_up hlt⟩
    · obtain rfl : i = l.length := by omega
      go_wp2_with fail
      go_ret
      exact ⟨rfl, hbel⟩

theorem info_qair : (Try.prog.info? 92).map (fun i => (i.zero, i.size, i.bytes)) = some (some (.agg #[.int .i64 0, .int .i64 0, .float .f32 0]), 3, 24) := by kernel_rfl
/-- Airs as cells. -/
def airCells : List (Int × Int × Nat) → List Value
  | [] => []
  | r :: l => .int .i64 r.1 :: .int .i64 r.2.1 :: .float .f32 r.2.2 :: airCells l
theorem airCells_append (a b : List (Int × Int × Nat)) : airCells (a ++ b) = airCells a ++ airCells b := by
  induction a with
  | nil => rfl
  | cons r a ih => simp [airCells, ih]
theorem airCells_take (ls : List (Int × Int × Nat)) (i : Nat) (hi : i < ls.length) : airCells (ls.take (i + 1)) = airCells (ls.take i) ++ [.int .i64 (ls.getD i (0, 0, 0)).1, .int .i64 (ls.getD i (0, 0, 0)).2.1, .float .f32 (ls.getD i (0, 0, 0)).2.2] := by
  rw [List.take_add_one, airCells_append]
  simp [hi, airCells]
theorem airCells_get (ls : List (Int × Int × Nat)) : ∀ i, i < ls.length → (airCells ls)[i * 3]? = some (.int .i64 (ls.getD i (0, 0, 0)).1) ∧ (airCells ls)[i * 3 + 1]? = some (.int .i64 (ls.getD i (0, 0, 0)).2.1) ∧ (airCells ls)[i * 3 + 2]? = some (.float .f32 (ls.getD i (0, 0, 0)).2.2) := by
  induction ls with
  | nil => intro i hi; simp at hi
  | cons r l ih =>
    intro i hi
    cases i with
    | zero => simp [airCells]
    | succ i =>
      have := ih i (by simpa using hi)
      simpa [airCells, Nat.succ_mul] using this
theorem AirsOf.ofRow {w : World} {base : Nat} {e : TypeId} {v : Value} {ls : List (Int × Int × Nat)} (h : LRow w base e 3 v ls.length (airCells ls)) : AirsOf w v ls := by
  rcases Nat.eq_zero_or_pos ls.length with h0 | hp
  · rcases h.1.2 with ⟨rfl, _⟩ | ⟨g, cap, cur, rfl, _⟩
    · exact ⟨none, 0, by rw [h0], fun h => absurd h (by omega)⟩
    · exact ⟨_, _, rfl, fun h => absurd h (by omega)⟩
  · obtain ⟨g, cap, rfl⟩ := ownsRow_some h.1 hp
    have hlt : g < w.heap.size := (h.lt rfl).1
    refine ⟨_, _, rfl, fun _ => ⟨g, 0, rfl, hlt, fun i hi => ?_⟩⟩
    obtain ⟨h0, h1, h2⟩ := airCells_get ls i hi
    rw [Nat.zero_add]
    exact ⟨h.at h0, h.at h1, h.at h2⟩
theorem cell_new3 (w : World) (a b c : Value) (t : TypeId) : ∀ j u, [a, b, c][j]? = some u → (w.alloc (.cells #[a, b, c] t)).cell? ((⟨w.heap.size, 0, none⟩ : Addr).add j) = some u := by
  intro j u hj
  match j, hj with
  | 0, hj => simp at hj; subst hj; simp [Addr.add]
  | 1, hj => simp at hj; subst hj; simp [Addr.add]
  | 2, hj => simp at hj; subst hj; simp [Addr.add]
  | j + 3, hj => simp at hj
theorem workL_length (xs : List (Int × Int × Nat)) (dust gap : Int) (x y : Rat) : (workL xs dust gap x y).length ≤ xs.length := by
  unfold workL
  split
  · exact workTo_length _ _ _ _ _ _
  · simp

set_option maxRecDepth 100000 in
set_option maxHeartbeats 8000000 in
theorem storeWorks_any (xs : List (Int × Int × Nat)) (dust ln ld mn md gap : Int) (va : Value) (w : World) (ha : AirsOf w va xs) (hl1 : i64R ln) (hl2 : i64R ld) (hm1 : i64R mn) (hm2 : i64R md) :
    Calls Try.prog 8 #[va, .agg #[.int .i64 dust, .int .i64 ln, .int .i64 ld, .int .i64 mn, .int .i64 md, .int .i64 gap]] w (RetBool true w) := by
  have HA := Lib.hid ha
  obtain ⟨aoa, capa, rfl, hA⟩ := ha
  have HAE := Lib.hid hA
  clear hA
  have hal := (Below.refl w.heap.size w).alloc (Nat.le_refl _) (.cells #[.int .i64 dust, .int .i64 ln, .int .i64 ld, .int .i64 mn, .int .i64 md, .int .i64 gap] 88)
  have hB := blk_new w #[.int .i64 dust, .int .i64 ln, .int .i64 ld, .int .i64 mn, .int .i64 md, .int .i64 gap] 88
  by_cases c1 : 300 < xs.length
  · have t1 : decide ((xs.length : Int) > 300) = true := by simp; omega
    clear c1
    go_enter Try.func8, Try.ntmps8
    go_wp2_with fail
    refine (awake_any _).mono ?_
    rintro e w1 ⟨rfl, hb1⟩
    go_wp2_with fail
    go_ret
    exact ⟨rfl, ext_trans hal hb1⟩
  · have t1 : decide ((xs.length : Int) > 300) = false := by simp; omega
    have hlx : xs.length ≤ 300 := by omega
    have Hsl := fracQ_szR ln ld hl1.1 hl1.2 hl2.1 hl2.2
    have Hsm := fracQ_szR mn md hm1.1 hm1.2 hm2.1 hm2.2
    have Hql := fracQ_szQ ln ld hl1.1 hl1.2 hl2.1 hl2.2
    have Hqm := fracQ_szQ mn md hm1.1 hm1.2 hm2.1 hm2.2
    have HSL : Hid (szR (fracQ ln ld) 274877906944) := ⟨Nat.le_trans Hsl.1 (by omega), Nat.le_trans Hsl.2 (by omega)⟩
    have HSM : Hid (szR (fracQ mn md) 274877906944) := ⟨Nat.le_trans Hsm.1 (by omega), Nat.le_trans Hsm.2 (by omega)⟩
    have HQL : Hid (szQ (fracQ ln ld) 17179869184) := ⟨Nat.le_trans Hql.1 (by omega), Nat.le_trans Hql.2 (by omega)⟩
    have HQM : Hid (szQ (fracQ mn md) 17179869184) := ⟨Nat.le_trans Hqm.1 (by omega), Nat.le_trans Hqm.2 (by omega)⟩
    have HO1 : Hid (∀ W, Calls Try.prog 16 #[.agg #[.int .i64 ln, .int .i64 ld]] W (RetRat (fracQ ln ld) W)) := fun W => of_any ln ld W hl1.1 hl1.2 hl2.1 hl2.2
    have HO2 : Hid (∀ W, Calls Try.prog 16 #[.agg #[.int .i64 mn, .int .i64 md]] W (RetRat (fracQ mn md) W)) := fun W => of_any mn md W hm1.1 hm1.2 hm2.1 hm2.2
    have HP1 : Hid (∀ W, Calls Try.prog 18 #[.agg #[.int .i64 ln, .int .i64 ld]] W (RetR (fracQ ln ld) W)) := fun W => qof_any ln ld W hl1.1 hl1.2 hl2.1 hl2.2
    have HP2 : Hid (∀ W, Calls Try.prog 18 #[.agg #[.int .i64 mn, .int .i64 md]] W (RetR (fracQ mn md) W)) := fun W => qof_any mn md W hm1.1 hm1.2 hm2.1 hm2.2
    obtain ⟨i0, hi0, hz0, hz1, hz2⟩ := info_parts info_qair
    have hzd : ∀ u ∈ (Value.agg #[.int .i64 0, .int .i64 0, .float .f32 0]).cells.toList, noDig u := by
      intro u hu
      simp [Value.cells] at hu
      rcases hu with rfl | rfl
      · exact noDig_i64 _
      · exact noDig_f32 _
    have hsf := run_store_f32
    clear Hsl Hsm Hql Hqm hl1 hl2 hm1 hm2 c1
    generalize fracQ ln ld = ql at *
    generalize fracQ mn md = qm at *
    go_enter Try.func8, Try.ntmps8
    go_wp2_with fail
    generalize hW0 : w.alloc (.cells #[.int .i64 dust, .int .i64 ln, .int .i64 ld, .int .i64 mn, .int .i64 md, .int .i64 gap] 88) = W0 at *
    generalize hB0 : w.heap.size = B0 at *
    have hBl := blk_lt hB
    have HA0 := Lib.hid (HA.out.below (by rw [hB0]; exact hal))
    have hX0 : Hid (Below w.heap.size w W0) := by show Below _ _ _; rw [hB0]; exact hal
    clear hW0 hB0
    go_loopw [5, 18] (fun mv iv wr => ∃ (i : Nat), i ≤ xs.length ∧ iv = .int .i64 i ∧ LRow wr W0.heap.size 92 3 mv i (airCells (xs.take i)) ∧ Below W0.heap.size W0 wr)
      (fun _ iv _ => xs.length - (intOf iv).toNat)
    case atStart => exact ⟨0, Nat.zero_le _, rfl, LRow.nil _ _ _ _, Below.refl _ _⟩
    case round =>
      obtain ⟨i, hi, rfl, hL, hbel⟩ := hrel
      by_cases hlt : i < xs.length
      · obtain ⟨ao', cap', ea, hAE⟩ := HA0.out
        simp only [Value.slice.injEq, true_and] at ea
        obtain ⟨rfl, rfl⟩ := ea
        obtain ⟨b, off, rfl, hbl, hLL⟩ := hAE (by omega)
        obtain ⟨g0, g1, g2⟩ := (hLL i hlt).below hbel hbl
        have hlt' : (i : Int) < xs.length := by omega
        have hge' : (0 : Int) ≤ i := by omega
        have hbl2 : b < wr.heap.size := Nat.lt_of_lt_of_le hbl hbel.size
        have Htk := Lib.hid (airCells_take xs i hlt)
        clear hLL hAE
        generalize (xs.getD i (0, 0, 0)).1 = ty at *
        generalize (xs.getD i (0, 0, 0)).2.1 = du at *
        generalize (xs.getD i (0, 0, 0)).2.2 = bt at *
        have hx1 := (Below.refl wr.heap.size wr).alloc (Nat.le_refl _) (.cells #[.int .i64 ty, .int .i64 du, .float .f32 bt] 91)
        have hx2 := hx1.alloc hx1.size (.cells #[.int .i64 ty, .int .i64 du, .float .f32 bt] 92)
        have hcn := cell_new3 (wr.alloc (.cells #[.int .i64 ty, .int .i64 du, .float .f32 bt] 91)) (.int .i64 ty) (.int .i64 du) (.float .f32 bt) 92
        rw [World.size_alloc] at hcn
        have HCN := Lib.hid hcn
        have HL2 := Lib.hid (hL.below hx2)
        clear hcn hL hx1
        go_wp2_with (at_builtin; refine wpList_append_lrow _ rfl (.tmp 22) (.tmp 24) 89 rfl W0.heap.size 92 i0 _ 3 24 Try.underlying89 hi0 hz0 hz1 hz2 rfl (by decide) hzd _ _ _ rfl HL2.out ⟨wr.heap.size + 1, 0, none⟩ 1 1 [.int .i64 ty, .int .i64 du, .float .f32 bt] rfl rfl HCN.out (by simp [Value.oneCell']) (by intro u hu; simp at hu; rcases hu with rfl | rfl | rfl; exact noDig_i64 _; exact noDig_i64 _; exact noDig_f32 _) (by omega) (by unfold maxLen; omega) (by omega) (by simp; have := hbel.size; omega) ?_)
        intro g cap' w3 hL3 hgr hat
        have hx3 : Below W0.heap.size W0 w3 := (hbel.trans (hx2.mono hbel.size)).grown hgr (by simp; have := hbel.size; omega) (ownBlock_base HL2.out.1)
        go_wp2_with fail
        exact ⟨⟨i + 1, by omega, by go_num, by rw [Htk.out]; exact hL3, hx3⟩, meas_up hlt⟩
      · obtain rfl : i = xs.length := by omega
        rw [List.take_length] at hL
        have hM := AirsOf.ofRow hL
        have HM := Lib.hid hM
        obtain ⟨aom, capm, rfl, _⟩ := hM
        have hBr := blk_keep hB hbel hBl
        have c0 := blk_cell hBr 0 (.int .i64 dust) rfl
        have c1 := blk_cell hBr 1 (.int .i64 ln) rfl
        have c2 := blk_cell hBr 2 (.int .i64 ld) rfl
        have c3 := blk_cell hBr 3 (.int .i64 mn) rfl
        have c4 := blk_cell hBr 4 (.int .i64 md) rfl
        have c5 := blk_cell hBr 5 (.int .i64 gap) rfl
        have HAr := Lib.hid (HA0.out.below hbel)
        clear hL hBr HA0
        go_wp2_with fail
        go_region_held3 (fun w' => Below wr.heap.size wr w' ∧ w'.cell? ⟨B0, 0, none⟩ = some (.int .i64 dust) ∧ w'.cell? ⟨B0, 1, none⟩ = some (.int .i64 ln) ∧ w'.cell? ⟨B0, 2, none⟩ = some (.int .i64 ld) ∧ w'.cell? ⟨B0, 3, none⟩ = some (.int .i64 mn) ∧ w'.cell? ⟨B0, 4, none⟩ = some (.int .i64 md) ∧ w'.cell? ⟨B0, 5, none⟩ = some (.int .i64 gap))
          (first | exact ⟨(Below.refl _ _).drew, c0, c1, c2, c3, c4, c5⟩ | assumption | (refine keepA6 (Nat.le_refl _) hbC ?_; assumption) | (refine keepA6 (Nat.le_refl _) hbB ?_; assumption) | (refine keepA6 (Nat.le_refl _) hbA ?_; assumption))
          (first
            | (go_at_call 16; (with_reducible refine (HO1.out _).mono ?_); rintro e wA ⟨vA, rfl, hvA, hbA⟩; obtain ⟨a1, k1, a2, k2, rfl, _, _⟩ := hvA.opened; have HVA := Lib.hid hvA; clear hvA)
            | (go_at_call 16; (with_reducible refine (HO2.out _).mono ?_); rintro e wB ⟨vB, rfl, hvB, hbB⟩; obtain ⟨a3, k3, a4, k4, rfl, _, _⟩ := hvB.opened; have HVB := Lib.hid hvB; have HVA2 := Lib.hid (HVA.out.below hbB); clear hvB)
            | (go_at_call 33; (with_reducible refine (working_any xs dust gap ql qm _ _ _ _ _ _ _ _ (HAr.out.below (And.left (by assumption))) HVA2.out HVB.out HSL.out HSM.out).mono ?_); rintro e wC ⟨vC, rfl, hvC, hbC⟩; have HVC := Lib.hid hvC; clear hvC))
        rename_i hS
        obtain ⟨hxC, c0', c1', c2', c3', c4', c5'⟩ := hS
        have HM2 := Lib.hid (HM.out.below hxC)
        have HX := Lib.hid (below_join hbel hxC)
        obtain ⟨aov, capv, rfl, _⟩ := HVC.out
        clear c0 c1 c2 c3 c4 c5 HVA HVA2 HVB hbA hbB hbC hxC HAr HM
        generalize hE : workErr xs gap ql qm = E at *
        have HE := Lib.hid hE
        have Hwl := Lib.hid (workL_length xs dust gap ql qm)
        clear hE
        go_wp2_with fail
        go_region_held3 (fun w' => Below wC.heap.size wC w' ∧ w'.cell? ⟨B0, 0, none⟩ = some (.int .i64 dust) ∧ w'.cell? ⟨B0, 1, none⟩ = some (.int .i64 ln) ∧ w'.cell? ⟨B0, 2, none⟩ = some (.int .i64 ld) ∧ w'.cell? ⟨B0, 3, none⟩ = some (.int .i64 mn) ∧ w'.cell? ⟨B0, 4, none⟩ = some (.int .i64 md) ∧ w'.cell? ⟨B0, 5, none⟩ = some (.int .i64 gap))
          (first | exact ⟨(Below.refl _ _).drew, c0', c1', c2', c3', c4', c5'⟩ | assumption | (refine keepA6 (Nat.le_refl _) hbF ?_; assumption) | (refine keepA6 (Nat.le_refl _) hbE ?_; assumption) | (refine keepA6 (Nat.le_refl _) hbD ?_; assumption))
          (first
            | (go_at_call 18; (with_reducible refine (HP1.out _).mono ?_); rintro e wD ⟨vD, rfl, hvD, hbD⟩; obtain ⟨dD, a1, k1, a2, k2, rfl, _, _, _⟩ := hvD.opened; have HVD := Lib.hid hvD; clear hvD)
            | (go_at_call 18; (with_reducible refine (HP2.out _).mono ?_); rintro e wE ⟨vE, rfl, hvE, hbE⟩; obtain ⟨dE, a3, k3, a4, k4, rfl, _, _, _⟩ := hvE.opened; have HVE := Lib.hid hvE; have HVD2 := Lib.hid (HVD.out.below hbE); clear hvE)
            | (go_at_call 34; (with_reducible refine (qworking_any xs dust gap ql qm _ _ _ _ _ _ _ _ (HM2.out.below (And.left (by assumption))) HVD2.out HVE.out HQL.out HQM.out).mono ?_); rintro e wF ⟨vF, rfl, hvF, hbF⟩; have HVF := Lib.hid hvF; clear hvF))
        rename_i hS
        obtain ⟨hxF, _⟩ := hS
        have HVC2 := Lib.hid (HVC.out.below hxF)
        have hx := HX.out.trans (hxF.mono HX.out.size)
        clear c0' c1' c2' c3' c4' c5' HVD HVD2 HVE hbD hbE hbF hxF HVC HX
        rw [HE.out]
        clear HE
        have te : (E == E) = true := by simp
        go_wp2_with fail
        refine (spans_same _ _ _ _ HVC2.out HVF.out (Nat.le_trans Hwl.out (by omega))).mono ?_
        rintro e wG ⟨rfl, hbG⟩
        go_wp2_with fail
        refine (awake_any _).mono ?_
        rintro e wH ⟨rfl, hbH⟩
        go_wp2_with fail
        go_ret
        exact ⟨rfl, hX0.out.trans ((below_join hx (below_join hbG hbH)).mono hX0.out.size)⟩

end Go.Proofs.Ytdjdnfjgklaneaa
