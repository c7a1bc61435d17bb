/- Part g of the lemmas and walks. -/
import Derived.Test.YtdjdnfjgklaneaaGa
import Derived.Test.YtdjdnfjgklaneaaGb
import Derived.Test.YtdjdnfjgklaneaaGc
import Derived.Test.YtdjdnfjgklaneaaGd
import Derived.Test.YtdjdnfjgklaneaaGe
import Derived.Test.YtdjdnfjgklaneaaGf

/- PLANS: plain; the walks of store.collide and store.CheckPlan. -/
namespace Go.Proofs.Ytdjdnfjgklaneaa
open Go.RowKit

/-- Two jobs occupy the same oven in the same minute. -/
def hitB (a b x y : Int × Int) : Bool := decide (x.1 = y.1) && decide (0 < a.2) && decide (0 < b.2) && decide (x.2 < y.2 + b.2) && decide (y.2 < x.2 + a.2)
def hitAt (js ls : List (Int × Int)) (i k : Nat) : Bool := hitB (js.getD i (0, 0)) (js.getD k (0, 0)) (ls.getD i (0, 0)) (ls.getD k (0, 0))
/-- Job i hits one of the first k. -/
def hitTo (js ls : List (Int × Int)) (i : Nat) : Nat → Bool
  | 0 => false
  | k + 1 => hitTo js ls i k || hitAt js ls i k
theorem hitTo_mono {js ls : List (Int × Int)} {i k m : Nat} (h : hitTo js ls i k = true) (hk : k ≤ m) : hitTo js ls i m = true := by
  induction m with
  | zero =>
    have h0 : k = 0 := by omega
    rw [h0] at h
    exact h
  | succ m ih =>
    rcases Nat.lt_or_ge k (m + 1) with h1 | h1
    · unfold hitTo
      rw [ih (by omega)]
      rfl
    · obtain rfl : k = m + 1 := by omega
      exact h
/-- The error of slot i of a plan. -/
def slotErr (js : List (Int × Int)) (ovens : Int) (ls : List (Int × Int)) (i : Nat) : Int :=
  if (ls.getD i (0, 0)).1 < 0 ∨ ovens ≤ (ls.getD i (0, 0)).1 ∨ timeB (ls.getD i (0, 0)).2 = false then 1
  else if (ls.getD i (0, 0)).2 < (js.getD i (0, 0)).1 then 7 else if hitTo js ls i i = true then 8 else 0
def planErr (js : List (Int × Int)) (ovens : Int) (ls : List (Int × Int)) : Int :=
  if jobsErr js ovens ≠ 0 then jobsErr js ovens else if ls.length ≠ js.length then 4 else firstErr (slotErr js ovens ls) ls.length
/-- A slot that has passed is in range. -/
theorem slotErr_range {js : List (Int × Int)} {ovens : Int} {ls : List (Int × Int)} {i : Nat} (h : slotErr js ovens ls i = 0) : 0 ≤ (ls.getD i (0, 0)).2 ∧ (ls.getD i (0, 0)).2 ≤ 1073741824 := by
  unfold slotErr at h
  split at h
  · omega
  · rename_i hn
    have ht : timeB (ls.getD i (0, 0)).2 = true := by
      cases h3 : timeB (ls.getD i (0, 0)).2
      · exact absurd (.inr (.inr h3)) hn
      · rfl
    exact timeB_spec ht

/-- The slice's length fits its capacity. -/
def CapOk (v : Value) : Prop := ∃ a l c, v = .slice a l c ∧ l ≤ c ∧ c ≤ maxLen

set_option maxHeartbeats 2000000 in
theorem collide_any (a0 a1 b0 b1 x0 x1 y0 y1 : Int) (w : World) (h1 : IntKind.i64.wrap (y1 + b1) = y1 + b1) (h2 : IntKind.i64.wrap (x1 + a1) = x1 + a1) :
    Calls Try.prog 61 #[.agg #[.int .i64 a0, .int .i64 a1], .agg #[.int .i64 b0, .int .i64 b1], .agg #[.int .i64 x0, .int .i64 x1], .agg #[.int .i64 y0, .int .i64 y1]] w (RetBool (hitB (a0, a1) (b0, b1) (x0, x1) (y0, y1)) w) := by
  have hal := ((((Below.refl w.heap.size w).alloc (Nat.le_refl _) (.cells #[.int .i64 a0, .int .i64 a1] 106)).alloc (by simp) (.cells #[.int .i64 b0, .int .i64 b1] 106)).alloc (by simp; omega) (.cells #[.int .i64 x0, .int .i64 x1] 79)).alloc (by simp; omega) (.cells #[.int .i64 y0, .int .i64 y1] 79)
  have Hv : Hid (hitB (a0, a1) (b0, b1) (x0, x1) (y0, y1) = (decide (x0 = y0) && decide (0 < a1) && decide (0 < b1) && decide (x1 < y1 + b1) && decide (y1 < x1 + a1))) := rfl
  by_cases c0 : x0 = y0
  · have t0 : (x0 == y0) = true := beq_iff_eq.2 c0
    have d0 : decide (x0 = y0) = true := decide_eq_true c0
    by_cases c1 : 0 < a1
    · have t1 : decide (a1 > 0) = true := decide_eq_true c1
      have d1 : decide (0 < a1) = true := decide_eq_true c1
      by_cases c2 : 0 < b1
      · have t2 : decide (b1 > 0) = true := decide_eq_true c2
        have d2 : decide (0 < b1) = true := decide_eq_true c2
        by_cases c3 : x1 < y1 + b1
        · have t3 : decide (x1 < y1 + b1) = true := decide_eq_true c3
          have Hv2 : Hid (hitB (a0, a1) (b0, b1) (x0, x1) (y0, y1) = decide (y1 < x1 + a1)) := by show _ = _; rw [Hv.out, d0, d1, d2, t3]; simp
          clear Hv d0 d1 d2 c0 c1 c2 c3
          go_enter Try.func61, Try.ntmps61
          go_wp2_with fail
          go_ret
          exact ⟨by rw [Hv2.out]; rfl, hal⟩
        · have t3 : decide (x1 < y1 + b1) = false := decide_eq_false c3
          have Hv2 : Hid (hitB (a0, a1) (b0, b1) (x0, x1) (y0, y1) = false) := by show _ = _; rw [Hv.out, t3]; simp
          clear Hv d0 d1 d2 c0 c1 c2 c3
          go_enter Try.func61, Try.ntmps61
          go_wp2_with fail
          go_ret
          exact ⟨by rw [Hv2.out]; rfl, hal⟩
      · have t2 : decide (b1 > 0) = false := decide_eq_false c2
        have d2 : decide (0 < b1) = false := decide_eq_false c2
        have Hv2 : Hid (hitB (a0, a1) (b0, b1) (x0, x1) (y0, y1) = false) := by show _ = _; rw [Hv.out, d2]; simp
        clear Hv d0 d1 d2 c0 c1 c2
        go_enter Try.func61, Try.ntmps61
        go_wp2_with fail
        go_ret
        exact ⟨by rw [Hv2.out]; rfl, hal⟩
    · have t1 : decide (a1 > 0) = false := decide_eq_false c1
      have d1 : decide (0 < a1) = false := decide_eq_false c1
      have Hv2 : Hid (hitB (a0, a1) (b0, b1) (x0, x1) (y0, y1) = false) := by show _ = _; rw [Hv.out, d1]; simp
      clear Hv d0 d1 c0 c1
      go_enter Try.func61, Try.ntmps61
      go_wp2_with fail
      go_ret
      exact ⟨by rw [Hv2.out]; rfl, hal⟩
  · have t0 : (x0 == y0) = false := beq_eq_false_iff_ne.2 c0
    have d0 : decide (x0 = y0) = false := decide_eq_false c0
    have Hv2 : Hid (hitB (a0, a1) (b0, b1) (x0, x1) (y0, y1) = false) := by show _ = _; rw [Hv.out, d0]; simp
    clear Hv d0 c0
    go_enter Try.func61, Try.ntmps61
    go_wp2_with fail
    go_ret
    exact ⟨by rw [Hv2.out]; rfl, hal⟩

set_option maxRecDepth 100000 in
set_option maxHeartbeats 8000000 in
theorem checkPlan_any (js : List (Int × Int)) (ovens : Int) (ls : List (Int × Int)) (vj vl : Value) (w : World) (hj : PairsOf w vj js) (hl : PairsOf w vl ls) (hcap : CapOk vl) :
    Calls Try.prog 31 #[vj, .int .i64 ovens, vl] w (RetInt (planErr js ovens ls) w) := by
  have HJ := Lib.hid hj
  obtain ⟨aoj, capj, rfl, hJ⟩ := hj
  obtain ⟨aol, capl, rfl, hL⟩ := hl
  have HJE := Lib.hid hJ
  have HLE := Lib.hid hL
  have hcp : ls.length ≤ capl ∧ capl ≤ maxLen := by
    obtain ⟨a, l, c, e, h1, h2⟩ := hcap
    simp only [Value.slice.injEq] at e
    obtain ⟨rfl, rfl, rfl⟩ := e
    exact ⟨h1, h2⟩
  unfold maxLen at hcp
  clear hJ hL hcap
  by_cases h0 : jobsErr js ovens = 0
  · have t0 : (jobsErr js ovens != 0) = false := by simp [h0]
    have HG := Lib.hid (jobs_ok h0)
    have hlen := HG.out.len
    have H0 := Lib.hid h0
    by_cases h1 : ls.length = js.length
    · have t1 : ((ls.length : Int) != (js.length : Int)) = false := by simp [h1]
      have Hr : Hid (planErr js ovens ls = firstErr (slotErr js ovens ls) ls.length) := by show _ = _; unfold planErr; rw [if_neg (fun h => h h0), if_neg (fun h => h h1)]
      have hls : ls.length ≤ 64 := by omega
      have H1 := Lib.hid h1
      clear h0 h1
      go_enter Try.func31, Try.ntmps31
      go_wp2_with fail
      refine (checkJobs_any js ovens _ _ HJ.out).mono ?_
      rintro e w1 ⟨rfl, hb1⟩
      generalize jobsErr js ovens = je at *
      go_wp2_with fail
      go_loopw [25] (fun iv wr => ∃ (i : Nat), i ≤ ls.length ∧ iv = .int .i64 i ∧ Hid (firstErr (slotErr js ovens ls) i = 0) ∧ Below w.heap.size w wr)
        (fun iv _ => ls.length - (intOf iv).toNat)
      case atStart => exact ⟨0, Nat.zero_le _, rfl, rfl, hb1⟩
      case round =>
        clear hb1
        obtain ⟨i, hi, rfl, hF, hbel⟩ := hrel
        by_cases hlt : i < ls.length
        · obtain ⟨b, off, rfl, hbl, hLL⟩ := HLE.out (by omega)
          have hltj : i < js.length := by rw [← H1.out]; exact hlt
          obtain ⟨bj, offj, rfl, hblj, hJJ⟩ := HJE.out (by omega)
          obtain ⟨g0, g1⟩ := (hLL i hlt).below hbel hbl
          obtain ⟨k0, k1⟩ := (hJJ i hltj).below hbel hblj
          have hst := Lib.hid (firstErr_step hF.out)
          have hstay : Hid (slotErr js ovens ls i ≠ 0 → planErr js ovens ls = slotErr js ovens ls i) := fun h => by
            rw [Hr.out, ← hst.out]
            exact firstErr_stay (by rw [hst.out]; exact h) hlt
          have hlt' : (i : Int) < ls.length := by omega
          have hltj' : (i : Int) < js.length := by omega
          have hge' : (0 : Int) ≤ i := by omega
          have hicap : (i : Int) ≤ capl := by omega
          have hbl2 : b < wr.heap.size := Nat.lt_of_lt_of_le hbl hbel.size
          have hblj2 : bj < wr.heap.size := Nat.lt_of_lt_of_le hblj hbel.size
          have hjob := HG.out.job i hltj
          have Hprev : Hid (∀ k, k < i → 0 ≤ (ls.getD k (0, 0)).2 ∧ (ls.getD k (0, 0)).2 ≤ 1073741824) := fun k hk => slotErr_range (firstErr_all hF.out k hk)
          have Hent : Hid (slotErr js ovens ls i = if (ls.getD i (0, 0)).1 < 0 ∨ ovens ≤ (ls.getD i (0, 0)).1 ∨ timeB (ls.getD i (0, 0)).2 = false then 1 else if (ls.getD i (0, 0)).2 < (js.getD i (0, 0)).1 then 7 else if hitTo js ls i i = true then 8 else 0) := rfl
          have Hhit : Hid (∀ k, hitAt js ls i k = hitB ((js.getD i (0, 0)).1, (js.getD i (0, 0)).2) (js.getD k (0, 0)) ((ls.getD i (0, 0)).1, (ls.getD i (0, 0)).2) (ls.getD k (0, 0))) := fun k => rfl
          have HLL := Lib.hid hLL
          have HJJ := Lib.hid hJJ
          clear hLL hJJ
          generalize (ls.getD i (0, 0)).1 = x0 at *
          generalize (ls.getD i (0, 0)).2 = x1 at *
          generalize (js.getD i (0, 0)).1 = r at *
          generalize (js.getD i (0, 0)).2 = m at *
          have hN := blk_new wr #[.int .i64 x0, .int .i64 x1] 79
          have hal := (Below.refl wr.heap.size wr).alloc (Nat.le_refl _) (.cells #[.int .i64 x0, .int .i64 x1] 79)
          have hxa := hbel.alloc hbel.size (.cells #[.int .i64 x0, .int .i64 x1] 79)
          have bad1 : (x0 < 0 ∨ ovens ≤ x0 ∨ timeB x1 = false) → Hid (planErr js ovens ls = 1) := fun hb => by
            have h : slotErr js ovens ls i = 1 := by rw [Hent.out, if_pos hb]
            show planErr js ovens ls = 1
            rw [hstay.out (by rw [h]; decide), h]
          by_cases c0 : x0 < 0
          · have t4 : decide (x0 < 0) = true := decide_eq_true c0
            have Hv := bad1 (.inl c0)
            clear c0 bad1
            go_wp2_with fail
            go_ret
            exact ⟨by rw [Hv.out]; rfl, hxa⟩
          · have t4 : decide (x0 < 0) = false := decide_eq_false c0
            by_cases c1 : ovens ≤ x0
            · have t5 : decide (x0 ≥ ovens) = true := decide_eq_true c1
              have Hv := bad1 (.inr (.inl c1))
              clear c0 c1 bad1
              go_wp2_with fail
              go_ret
              exact ⟨by rw [Hv.out]; rfl, hxa⟩
            · have t5 : decide (x0 ≥ ovens) = false := decide_eq_false c1
              cases htb : timeB x1 with
              | false =>
                have Hv := bad1 (.inr (.inr htb))
                clear c0 c1 bad1
                go_wp2_with fail
                refine (time_any x1 _).mono ?_
                rintro e w2 ⟨rfl, rfl⟩
                rw [htb]
                go_wp2_with fail
                go_ret
                exact ⟨by rw [Hv.out]; rfl, hxa⟩
              | true =>
                have hx1 := timeB_spec htb
                by_cases c2 : x1 < r
                · have t6 : decide (x1 < r) = true := decide_eq_true c2
                  have Hv : Hid (planErr js ovens ls = 7) := by
                    have h : slotErr js ovens ls i = 7 := by rw [Hent.out, if_neg (by rw [htb]; simp; omega), if_pos c2]
                    show planErr js ovens ls = 7
                    rw [hstay.out (by rw [h]; decide), h]
                  clear c0 c1 c2 bad1
                  go_wp2_with fail
                  refine (time_any x1 _).mono ?_
                  rintro e w2 ⟨rfl, rfl⟩
                  rw [htb]
                  go_wp2_with fail
                  go_region
                  go_wp2_with fail
                  go_ret
                  exact ⟨by rw [Hv.out]; rfl, hxa.drew⟩
                · have t6 : decide (x1 < r) = false := decide_eq_false c2
                  have Hent2 : Hid (slotErr js ovens ls i = if hitTo js ls i i = true then 8 else 0) := by show _ = _; rw [Hent.out, if_neg (by rw [htb]; simp; omega), if_neg c2]
                  clear c0 c1 c2 bad1 Hent
                  go_wp2_with fail
                  refine (time_any x1 _).mono ?_
                  rintro e w2 ⟨rfl, rfl⟩
                  rw [htb]
                  go_wp2_with fail
                  go_region
                  go_wp2_with fail
                  have hNd : (wr.alloc (.cells #[.int .i64 x0, .int .i64 x1] 79)).drew.heap[wr.heap.size]? = some (.cells #[.int .i64 x0, .int .i64 x1] 79 (0, 0)) := hN
                  have hxd := hxa.drew
                  have j0d := (hal.cell (p := ⟨bj, offj + i * 2, none⟩) hblj2).trans k0
                  have j1d := (hal.cell (p := ⟨bj, offj + i * 2 + 1, none⟩) hblj2).trans k1
                  have hsz1 : wr.heap.size < (wr.alloc (.cells #[.int .i64 x0, .int .i64 x1] 79)).drew.heap.size := by show wr.heap.size < (wr.alloc _).heap.size; simp
                  replace j0d : (wr.alloc (.cells #[.int .i64 x0, .int .i64 x1] 79)).drew.cell? ⟨bj, offj + i * 2, none⟩ = some (.int .i64 r) := j0d
                  replace j1d : (wr.alloc (.cells #[.int .i64 x0, .int .i64 x1] 79)).drew.cell? ⟨bj, offj + i * 2 + 1, none⟩ = some (.int .i64 m) := j1d
                  clear hN hal hxa g0 g1 k0 k1 hbel hbl2 hblj2
                  generalize wr.heap.size = B9 at *
                  generalize (wr.alloc (.cells #[.int .i64 x0, .int .i64 x1] 79)).drew = W1 at *
                  go_loopw [59] (fun kv wq => ∃ (k : Nat), k ≤ i ∧ kv = .int .i64 k ∧ Hid (hitTo js ls i k = false) ∧ Below W1.heap.size W1 wq) (fun kv _ => i - (intOf kv).toNat)
                  case atStart => exact ⟨0, Nat.zero_le _, rfl, rfl, Below.refl _ _⟩
                  case round =>
                    obtain ⟨k, hk, rfl, hHt, hxq⟩ := hrel
                    have hxw := hxd.trans (hxq.mono hxd.size)
                    by_cases hkl : k < i
                    · have hkl' : (k : Int) < i := by omega
                      have hkg' : (0 : Int) ≤ k := by omega
                      have hkj' : (k : Int) < js.length := by omega
                      obtain ⟨e0, e1⟩ := (HLL.out k (by omega)).below hxw hbl
                      obtain ⟨f0, f1⟩ := (HJJ.out k (by omega)).below hxw hblj
                      have hNq := blk_keep hNd hxq hsz1
                      have s0 := blk_cell hNq 0 (.int .i64 x0) rfl
                      have s1 := blk_cell hNq 1 (.int .i64 x1) rfl
                      have j0 := (hxq.cell (World.block_lt_of_cell? (h := j0d))).trans j0d
                      have j1 := (hxq.cell (World.block_lt_of_cell? (h := j1d))).trans j1d
                      have hblq : b < wr.heap.size := Nat.lt_of_lt_of_le hbl hxw.size
                      have hbljq : bj < wr.heap.size := Nat.lt_of_lt_of_le hblj hxw.size
                      have hB9q := blk_lt hNq
                      have hjk := HG.out.job k (by omega)
                      have hpk := Hprev.out k hkl
                      have Hh1 := Lib.hid (Hhit.out k)
                      have Hst1 : Hid (hitTo js ls i (k + 1) = (hitTo js ls i k || hitAt js ls i k)) := rfl
                      have he : ∀ p : Int × Int, (p.1, p.2) = p := fun _ => rfl
                      have Hh2 : Hid (hitAt js ls i k = hitB (r, m) ((js.getD k (0, 0)).1, (js.getD k (0, 0)).2) (x0, x1) ((ls.getD k (0, 0)).1, (ls.getD k (0, 0)).2)) := Hh1.out
                      clear Hh1 he
                      generalize (ls.getD k (0, 0)).1 = y0 at *
                      generalize (ls.getD k (0, 0)).2 = y1 at *
                      generalize (js.getD k (0, 0)).1 = rk at *
                      generalize (js.getD k (0, 0)).2 = mk at *
                      have hw1 : IntKind.i64.wrap (y1 + mk) = y1 + mk := IntWalk.i64_in _ (by omega)
                      have hw2 : IntKind.i64.wrap (x1 + m) = x1 + m := IntWalk.i64_in _ (by omega)
                      have Hcol := Lib.hid (fun w => collide_any r m rk mk x0 x1 y0 y1 w hw1 hw2)
                      have hal2 := (Below.refl wr.heap.size wr).alloc (Nat.le_refl _) (.cells #[.int .i64 y0, .int .i64 y1] 79)
                      have hM := blk_new wr #[.int .i64 y0, .int .i64 y1] 79
                      have k0 : (wr.alloc (.cells #[.int .i64 y0, .int .i64 y1] 79)).drew.cell? ⟨wr.heap.size, 0, none⟩ = some (.int .i64 y0) := blk_cell hM 0 _ rfl
                      have k1 : (wr.alloc (.cells #[.int .i64 y0, .int .i64 y1] 79)).drew.cell? ⟨wr.heap.size, 1, none⟩ = some (.int .i64 y1) := blk_cell hM 1 _ rfl
                      have up : ∀ (q o : Nat) (v : Value), q < wr.heap.size → wr.cell? ⟨q, o, none⟩ = some v → (wr.alloc (.cells #[.int .i64 y0, .int .i64 y1] 79)).drew.cell? ⟨q, o, none⟩ = some v := fun q o v hq h => (hal2.cell (p := ⟨q, o, none⟩) hq).trans h
                      have HUP := Lib.hid up
                      clear hw1 hw2 up
                      go_wp2_with fail
                      go_region_held3 (fun w' => Below wr.heap.size wr w' ∧ w'.cell? ⟨bj, offj + i * 2, none⟩ = some (.int .i64 r) ∧ w'.cell? ⟨bj, offj + i * 2 + 1, none⟩ = some (.int .i64 m) ∧ w'.cell? ⟨bj, offj + k * 2, none⟩ = some (.int .i64 rk) ∧ w'.cell? ⟨bj, offj + k * 2 + 1, none⟩ = some (.int .i64 mk) ∧ w'.cell? ⟨B9, 0, none⟩ = some (.int .i64 x0) ∧ w'.cell? ⟨B9, 1, none⟩ = some (.int .i64 x1) ∧ w'.cell? ⟨wr.heap.size, 0, none⟩ = some (.int .i64 y0) ∧ w'.cell? ⟨wr.heap.size, 1, none⟩ = some (.int .i64 y1))
                        (first | exact ⟨hal2.drew, HUP.out _ _ _ hbljq j0, HUP.out _ _ _ hbljq j1, HUP.out _ _ _ hbljq f0, HUP.out _ _ _ hbljq f1, HUP.out _ _ _ hB9q s0, HUP.out _ _ _ hB9q s1, k0, k1⟩ | assumption | (refine keepA8 (Nat.le_refl _) hbB ?_; assumption))
                        (first | (go_at_call 61; refine (Hcol.out _).mono ?_; rintro e wB ⟨rfl, hbB⟩))
                      rename_i hS2
                      have hy := hS2.1
                      clear hS2 hbB
                      cases hh : hitB (r, m) (rk, mk) (x0, x1) (y0, y1) with
                      | true =>
                        have Hv : Hid (planErr js ovens ls = 8) := by
                          have h8 : hitTo js ls i i = true := hitTo_mono (k := k + 1) (by rw [Hst1.out, Hh2.out, hh]; simp) (by omega)
                          have h : slotErr js ovens ls i = 8 := by rw [Hent2.out, if_pos h8]
                          show planErr js ovens ls = 8
                          rw [hstay.out (by rw [h]; decide), h]
                        go_wp2_with fail
                        go_ret
                        exact ⟨by rw [Hv.out]; rfl, hxw.trans (hy.mono hxw.size)⟩
                      | false =>
                        have Hn : Hid (hitTo js ls i (k + 1) = false) := by show _ = _; rw [Hst1.out, Hh2.out, hh, hHt.out]; rfl
                        go_wp2_with fail
                        exact ⟨⟨k + 1, by omega, by go_num, Hn.out, hxq.trans (hy.mono hxq.size)⟩, meas_up hkl⟩
                    · obtain rfl : k = i := by omega
                      have Hv : Hid (firstErr (slotErr js ovens ls) (k + 1) = 0) := by
                        show _ = _
                        rw [hst.out, Hent2.out, hHt.out, if_neg (by decide)]
                      go_wp2_with fail
                      exact ⟨⟨k + 1, by omega, by go_num, Hv.out, hxw⟩, meas_up hlt⟩
        · obtain rfl : i = ls.length := by omega
          have Hf : Hid (planErr js ovens ls = 0) := by show planErr js ovens ls = 0; rw [Hr.out, hF.out]
          clear hF
          go_wp2_with fail
          go_ret
          exact ⟨by rw [Hf.out]; rfl, hbel⟩
    · have t1 : ((ls.length : Int) != (js.length : Int)) = true := by simp; omega
      have Hr : Hid (planErr js ovens ls = 4) := by show _ = _; unfold planErr; rw [if_neg (fun h => h h0), if_pos h1]
      clear h0 h1
      go_enter Try.func31, Try.ntmps31
      go_wp2_with fail
      refine (checkJobs_any js ovens _ _ HJ.out).mono ?_
      rintro e w1 ⟨rfl, hb1⟩
      generalize jobsErr js ovens = je at *
      go_wp2_with fail
      go_ret
      exact ⟨by rw [Hr.out]; rfl, hb1⟩
  · have t0 : (jobsErr js ovens != 0) = true := by simp [h0]
    have Hr : Hid (planErr js ovens ls = jobsErr js ovens) := by show _ = _; unfold planErr; rw [if_pos h0]
    clear h0
    go_enter Try.func31, Try.ntmps31
    go_wp2_with fail
    refine (checkJobs_any js ovens _ _ HJ.out).mono ?_
    rintro e w1 ⟨rfl, hb1⟩
    generalize jobsErr js ovens = je at *
    go_wp2_with fail
    go_ret
    exact ⟨by rw [Hr.out]; rfl, hb1⟩

end Go.Proofs.Ytdjdnfjgklaneaa

/- THE WALK OF THE REFERENCE's CheckPlan. -/
namespace Go.Proofs.Ytdjdnfjgklaneaa
open Go.RowKit

/-- Two spans share a minute when the jobs hit. -/
theorem hit_both {a b x y : Int × Int} : hitB a b x y = (decide (y.1 = x.1) && decide (bothI x.2 (x.2 + a.2) y.2 (y.2 + b.2) > 0)) := by
  unfold hitB bothI
  rw [Bool.eq_iff_iff]
  simp
  omega

set_option maxRecDepth 100000 in
set_option maxHeartbeats 8000000 in
theorem qcheckPlan_any (js : List (Int × Int)) (ovens : Int) (ls : List (Int × Int)) (vj vl : Value) (w : World) (hj : PairsOf w vj js) (hl : PairsOf w vl ls) :
    Calls Try.prog 32 #[vj, .int .i64 ovens, vl] w (RetInt (planErr js ovens ls) w) := by
  have HJ := Lib.hid hj
  obtain ⟨aoj, capj, rfl, hJ⟩ := hj
  obtain ⟨aol, capl, rfl, hL⟩ := hl
  have HJE := Lib.hid hJ
  have HLE := Lib.hid hL
  clear hJ hL
  by_cases h0 : jobsErr js ovens = 0
  · have t0 : (jobsErr js ovens != 0) = false := by simp [h0]
    have HG := Lib.hid (jobs_ok h0)
    have hlen := HG.out.len
    have H0 := Lib.hid h0
    by_cases h1 : ls.length = js.length
    · have t1 : ((ls.length : Int) != (js.length : Int)) = false := by simp [h1]
      have Hr : Hid (planErr js ovens ls = firstErr (slotErr js ovens ls) ls.length) := by show _ = _; unfold planErr; rw [if_neg (fun h => h h0), if_neg (fun h => h h1)]
      have hls : ls.length ≤ 64 := by omega
      have H1 := Lib.hid h1
      clear h0 h1
      go_enter Try.func32, Try.ntmps32
      go_wp2_with fail
      refine (qcheckJobs_any js ovens _ _ HJ.out).mono ?_
      rintro e w1 ⟨rfl, hb1⟩
      generalize jobsErr js ovens = je at *
      go_wp2_with fail
      go_loopw [8] (fun iv wr => ∃ (i : Nat), i ≤ ls.length ∧ iv = .int .i64 i ∧ Hid (firstErr (slotErr js ovens ls) i = 0) ∧ Below w.heap.size w wr)
        (fun iv _ => ls.length - (intOf iv).toNat)
      case atStart => exact ⟨0, Nat.zero_le _, rfl, rfl, hb1⟩
      case round =>
        clear hb1
        obtain ⟨i, hi, rfl, hF, hbel⟩ := hrel
        by_cases hlt : i < ls.length
        · obtain ⟨b, off, rfl, hbl, hLL⟩ := HLE.out (by omega)
          have hltj : i < js.length := by rw [← H1.out]; exact hlt
          obtain ⟨bj, offj, rfl, hblj, hJJ⟩ := HJE.out (by omega)
          obtain ⟨g0, g1⟩ := (hLL i hlt).below hbel hbl
          obtain ⟨k0, k1⟩ := (hJJ i hltj).below hbel hblj
          have hst := Lib.hid (firstErr_step hF.out)
          have hstay : Hid (slotErr js ovens ls i ≠ 0 → planErr js ovens ls = slotErr js ovens ls i) := fun h => by
            rw [Hr.out, ← hst.out]
            exact firstErr_stay (by rw [hst.out]; exact h) hlt
          have hlt' : (i : Int) < ls.length := by omega
          have hltj' : (i : Int) < js.length := by omega
          have hge' : (0 : Int) ≤ i := by omega
          have hbl2 : b < wr.heap.size := Nat.lt_of_lt_of_le hbl hbel.size
          have hblj2 : bj < wr.heap.size := Nat.lt_of_lt_of_le hblj hbel.size
          have hjob := HG.out.job i hltj
          have Hprev : Hid (∀ k, k < i → 0 ≤ (ls.getD k (0, 0)).2 ∧ (ls.getD k (0, 0)).2 ≤ 1073741824) := fun k hk => slotErr_range (firstErr_all hF.out k hk)
          have Hent : Hid (slotErr js ovens ls i = if (ls.getD i (0, 0)).1 < 0 ∨ ovens ≤ (ls.getD i (0, 0)).1 ∨ timeB (ls.getD i (0, 0)).2 = false then 1 else if (ls.getD i (0, 0)).2 < (js.getD i (0, 0)).1 then 7 else if hitTo js ls i i = true then 8 else 0) := rfl
          have Hhit : Hid (∀ k, hitAt js ls i k = hitB ((js.getD i (0, 0)).1, (js.getD i (0, 0)).2) (js.getD k (0, 0)) ((ls.getD i (0, 0)).1, (ls.getD i (0, 0)).2) (ls.getD k (0, 0))) := fun k => rfl
          have HLL := Lib.hid hLL
          have HJJ := Lib.hid hJJ
          clear hLL hJJ
          generalize (ls.getD i (0, 0)).1 = x0 at *
          generalize (ls.getD i (0, 0)).2 = x1 at *
          generalize (js.getD i (0, 0)).1 = r at *
          generalize (js.getD i (0, 0)).2 = m at *
          have bad1 : (x0 < 0 ∨ ovens ≤ x0 ∨ timeB x1 = false) → Hid (planErr js ovens ls = 1) := fun hb => by
            have h : slotErr js ovens ls i = 1 := by rw [Hent.out, if_pos hb]
            show planErr js ovens ls = 1
            rw [hstay.out (by rw [h]; decide), h]
          by_cases c0 : x0 < 0
          · have t4 : decide (x0 < 0) = true := decide_eq_true c0
            have Hv := bad1 (.inl c0)
            clear c0 bad1
            go_wp2_with fail
            go_ret
            exact ⟨by rw [Hv.out]; rfl, hbel⟩
          · have t4 : decide (x0 < 0) = false := decide_eq_false c0
            by_cases c1 : ovens ≤ x0
            · have t5 : decide (x0 ≥ ovens) = true := decide_eq_true c1
              have Hv := bad1 (.inr (.inl c1))
              clear c0 c1 bad1
              go_wp2_with fail
              go_ret
              exact ⟨by rw [Hv.out]; rfl, hbel⟩
            · have t5 : decide (x0 ≥ ovens) = false := decide_eq_false c1
              cases htb : timeB x1 with
              | false =>
                have Hv := bad1 (.inr (.inr htb))
                clear c0 c1 bad1
                go_wp2_with fail
                refine (qtime_any x1 _).mono ?_
                rintro e w2 ⟨rfl, rfl⟩
                rw [htb]
                go_wp2_with fail
                go_ret
                exact ⟨by rw [Hv.out]; rfl, hbel⟩
              | true =>
                have hx1 := timeB_spec htb
                by_cases c2 : x1 < r
                · have t6 : decide (x1 < r) = true := decide_eq_true c2
                  have Hv : Hid (planErr js ovens ls = 7) := by
                    have h : slotErr js ovens ls i = 7 := by rw [Hent.out, if_neg (by rw [htb]; simp; omega), if_pos c2]
                    show planErr js ovens ls = 7
                    rw [hstay.out (by rw [h]; decide), h]
                  clear c0 c1 c2 bad1
                  go_wp2_with fail
                  refine (qtime_any x1 _).mono ?_
                  rintro e w2 ⟨rfl, rfl⟩
                  rw [htb]
                  go_wp2_with fail
                  go_region
                  go_wp2_with fail
                  go_ret
                  exact ⟨by rw [Hv.out]; rfl, hbel.drew⟩
                · have t6 : decide (x1 < r) = false := decide_eq_false c2
                  have Hent2 : Hid (slotErr js ovens ls i = if hitTo js ls i i = true then 8 else 0) := by show _ = _; rw [Hent.out, if_neg (by rw [htb]; simp; omega), if_neg c2]
                  clear c0 c1 c2 bad1 Hent
                  go_wp2_with fail
                  refine (qtime_any x1 _).mono ?_
                  rintro e w2 ⟨rfl, rfl⟩
                  rw [htb]
                  go_wp2_with fail
                  go_region
                  go_wp2_with fail
                  have hbd := hbel.drew
                  have g0d : wr.drew.cell? ⟨b, off + i * 2, none⟩ = some (.int .i64 x0) := g0
                  have g1d : wr.drew.cell? ⟨b, off + i * 2 + 1, none⟩ = some (.int .i64 x1) := g1
                  have k1d : wr.drew.cell? ⟨bj, offj + i * 2 + 1, none⟩ = some (.int .i64 m) := k1
                  have hb2d : b < wr.drew.heap.size := hbl2
                  have hbj2d : bj < wr.drew.heap.size := hblj2
                  have hxm : IntKind.i64.wrap (x1 + m) = x1 + m := IntWalk.i64_in _ (by omega)
                  clear g0 g1 k0 k1 hbel hbl2 hblj2
                  generalize wr.drew = W0 at *
                  go_region
                  have hbd2 := (hbd.alloc hbd.size (.cells #[.int .i64 x1, .int .i64 (x1 + m)] 112)).drew
                  have hal := (Below.refl W0.heap.size W0).alloc (Nat.le_refl _) (.cells #[.int .i64 x1, .int .i64 (x1 + m)] 112)
                  have hNd : (W0.alloc (.cells #[.int .i64 x1, .int .i64 (x1 + m)] 112)).drew.heap[W0.heap.size]? = some (.cells #[.int .i64 x1, .int .i64 (x1 + m)] 112 (0, 0)) := blk_new W0 #[.int .i64 x1, .int .i64 (x1 + m)] 112
                  have o0d : (W0.alloc (.cells #[.int .i64 x1, .int .i64 (x1 + m)] 112)).drew.cell? ⟨b, off + i * 2, none⟩ = some (.int .i64 x0) := (hal.cell (p := ⟨b, off + i * 2, none⟩) hb2d).trans g0d
                  have hszB : W0.heap.size < (W0.alloc (.cells #[.int .i64 x1, .int .i64 (x1 + m)] 112)).drew.heap.size := by show W0.heap.size < (W0.alloc _).heap.size; simp
                  clear g0d g1d k1d hal hb2d hbj2d hbd
                  generalize W0.heap.size = B9 at *
                  generalize (W0.alloc (.cells #[.int .i64 x1, .int .i64 (x1 + m)] 112)).drew = W1 at *
                  go_wp2_with fail
                  go_loopw [10] (fun kv wq => ∃ (k : Nat), k ≤ i ∧ kv = .int .i64 k ∧ Hid (hitTo js ls i k = false) ∧ Below W1.heap.size W1 wq) (fun kv _ => i - (intOf kv).toNat)
                  case atStart => exact ⟨0, Nat.zero_le _, rfl, rfl, Below.refl _ _⟩
                  case round =>
                    obtain ⟨k, hk, rfl, hHt, hxq⟩ := hrel
                    have hxw := hbd2.trans (hxq.mono hbd2.size)
                    by_cases hkl : k < i
                    · have hkl' : (k : Int) < i := by omega
                      have hkg' : (0 : Int) ≤ k := by omega
                      have hkj' : (k : Int) < js.length := by omega
                      have hks' : (k : Int) < ls.length := by omega
                      obtain ⟨e0, e1⟩ := (HLL.out k (by omega)).below hxw hbl
                      obtain ⟨f0, f1⟩ := (HJJ.out k (by omega)).below hxw hblj
                      have hNq := blk_keep hNd hxq hszB
                      have s0 := blk_cell hNq 0 (.int .i64 x1) rfl
                      have s1 := blk_cell hNq 1 (.int .i64 (x1 + m)) rfl
                      have j0 := (hxq.cell (World.block_lt_of_cell? (h := o0d))).trans o0d
                      have hblq : b < wr.heap.size := Nat.lt_of_lt_of_le hbl hxw.size
                      have hbljq : bj < wr.heap.size := Nat.lt_of_lt_of_le hblj hxw.size
                      have hB9q := blk_lt hNq
                      have hjk := HG.out.job k (by omega)
                      have hpk := Hprev.out k hkl
                      have Hh1 := Lib.hid (Hhit.out k)
                      have Hst1 : Hid (hitTo js ls i (k + 1) = (hitTo js ls i k || hitAt js ls i k)) := rfl
                      have Hh2 : Hid (hitAt js ls i k = hitB (r, m) ((js.getD k (0, 0)).1, (js.getD k (0, 0)).2) (x0, x1) ((ls.getD k (0, 0)).1, (ls.getD k (0, 0)).2)) := Hh1.out
                      clear Hh1
                      generalize (ls.getD k (0, 0)).1 = y0 at *
                      generalize (ls.getD k (0, 0)).2 = y1 at *
                      generalize (js.getD k (0, 0)).1 = rk at *
                      generalize (js.getD k (0, 0)).2 = mk at *
                      have Hh3 : Hid (hitAt js ls i k = (decide (y0 = x0) && decide (bothI x1 (x1 + m) y1 (y1 + mk) > 0))) := by show _ = _; rw [Hh2.out, hit_both]
                      have no : hitAt js ls i k = false → Hid (hitTo js ls i (k + 1) = false) := fun h => by show _ = _; rw [Hst1.out, h, hHt.out]; rfl
                      clear Hh2
                      by_cases hoe : y0 = x0
                      · have toe : (y0 == x0) = true := beq_iff_eq.2 hoe
                        have doe : decide (y0 = x0) = true := decide_eq_true hoe
                        have hw1 : IntKind.i64.wrap (y1 + mk) = y1 + mk := IntWalk.i64_in _ (by omega)
                        have hw2 : IntKind.i64.wrap (min (x1 + m) (y1 + mk) - max x1 y1) = min (x1 + m) (y1 + mk) - max x1 y1 := IntWalk.i64_in _ (by omega)
                        have Hbo := Lib.hid (fun w => both_any x1 (x1 + m) y1 (y1 + mk) w hw2)
                        have Hh4 : Hid (hitAt js ls i k = decide (bothI x1 (x1 + m) y1 (y1 + mk) > 0)) := by show _ = _; rw [Hh3.out, doe]; simp
                        clear hw2 Hh3 doe hoe
                        generalize x1 + m = xm at *
                        go_wp2_with fail
                        go_region_held3 (fun w' => Below wr.heap.size wr w' ∧ w'.cell? ⟨b, off + i * 2, none⟩ = some (.int .i64 x0) ∧ w'.cell? ⟨b, off + k * 2, none⟩ = some (.int .i64 y0) ∧ w'.cell? ⟨b, off + k * 2 + 1, none⟩ = some (.int .i64 y1) ∧ w'.cell? ⟨bj, offj + k * 2 + 1, none⟩ = some (.int .i64 mk) ∧ w'.cell? ⟨B9, 0, none⟩ = some (.int .i64 x1) ∧ w'.cell? ⟨B9, 1, none⟩ = some (.int .i64 xm))
                          (first | exact ⟨(Below.refl _ _).drew, j0, e0, e1, f1, s0, s1⟩ | assumption | (refine keepA6 (Nat.le_refl _) hbB ?_; assumption))
                          (first | (go_at_call 62; refine (Hbo.out _).mono ?_; rintro e wB ⟨rfl, hbB⟩))
                        rename_i hS2
                        have hy := hS2.1
                        clear hS2 hbB
                        generalize bothI x1 xm y1 (y1 + mk) = bv at *
                        by_cases hbv : bv > 0
                        · have tbv : decide (bv > 0) = true := decide_eq_true hbv
                          have Hv : Hid (planErr js ovens ls = 8) := by
                            have h8 : hitTo js ls i i = true := hitTo_mono (k := k + 1) (by rw [Hst1.out, Hh4.out, tbv]; simp) (by omega)
                            have h : slotErr js ovens ls i = 8 := by rw [Hent2.out, if_pos h8]
                            show planErr js ovens ls = 8
                            rw [hstay.out (by rw [h]; decide), h]
                          clear hbv
                          rw [tbv]
                          go_wp2_with fail
                          go_ret
                          exact ⟨by rw [Hv.out]; rfl, hxw.trans (hy.mono hxw.size)⟩
                        · have tbv : decide (bv > 0) = false := decide_eq_false hbv
                          have Hn := no (by rw [Hh4.out, tbv])
                          clear hbv no
                          rw [tbv]
                          go_wp2_with fail
                          exact ⟨⟨k + 1, by omega, by go_num, Hn.out, hxq.trans (hy.mono hxq.size)⟩, meas_up hkl⟩
                      · have toe : (y0 == x0) = false := beq_eq_false_iff_ne.2 hoe
                        have doe : decide (y0 = x0) = false := decide_eq_false hoe
                        have Hn := no (by rw [Hh3.out, doe]; rfl)
                        clear hoe no doe Hh3
                        go_wp2_with fail
                        go_region
                        go_wp2_with fail
                        exact ⟨⟨k + 1, by omega, by go_num, Hn.out, hxq.drew⟩, meas_up hkl⟩
                    · obtain rfl : k = i := by omega
                      have Hv : Hid (firstErr (slotErr js ovens ls) (k + 1) = 0) := by
                        show _ = _
                        rw [hst.out, Hent2.out, hHt.out, if_neg (by decide)]
                      go_wp2_with fail
                      exact ⟨⟨k + 1, by omega, by go_num, Hv.out, hxw⟩, meas_up hlt⟩
        · obtain rfl : i = ls.length := by omega
          have Hf : Hid (planErr js ovens ls = 0) := by show planErr js ovens ls = 0; rw [Hr.out, hF.out]
          clear hF
          go_wp2_with fail
          go_ret
          exact ⟨by rw [Hf.out]; rfl, hbel⟩
    · have t1 : ((ls.length : Int) != (js.length : Int)) = true := by simp; omega
      have Hr : Hid (planErr js ovens ls = 4) := by show _ = _; unfold planErr; rw [if_neg (fun h => h h0), if_pos h1]
      clear h0 h1
      go_enter Try.func32, Try.ntmps32
      go_wp2_with fail
      refine (qcheckJobs_any js ovens _ _ HJ.out).mono ?_
      rintro e w1 ⟨rfl, hb1⟩
      generalize jobsErr js ovens = je at *
      go_wp2_with fail
      go_ret
      exact ⟨by rw [Hr.out]; rfl, hb1⟩
  · have t0 : (jobsErr js ovens != 0) = true := by simp [h0]
    have Hr : Hid (planErr js ovens ls = jobsErr js ovens) := by show _ = _; unfold planErr; rw [if_pos h0]
    clear h0
    go_enter Try.func32, Try.ntmps32
    go_wp2_with fail
    refine (qcheckJobs_any js ovens _ _ HJ.out).mono ?_
    rintro e w1 ⟨rfl, hb1⟩
    generalize jobsErr js ovens = je at *
    go_wp2_with fail
    go_ret
    exact ⟨by rw [Hr.out]; rfl, hb1⟩

end Go.Proofs.Ytdjdnfjgklaneaa

/- THE WALKS OF Length, OF THE PROGRAM AND OF THE REFERENCE. -/
namespace Go.Proofs.Ytdjdnfjgklaneaa
open Go.RowKit

/-- The end of the first k jobs. -/
def endTo (js ls : List (Int × Int)) : Nat → Int
  | 0 => 0
  | k + 1 => max (endTo js ls k) ((ls.getD k (0, 0)).2 + (js.getD k (0, 0)).2)
def lenVal (js : List (Int × Int)) (ovens : Int) (ls : List (Int × Int)) : Int := if planErr js ovens ls = 0 then endTo js ls ls.length else 0
theorem plan_ok {js : List (Int × Int)} {ovens : Int} {ls : List (Int × Int)} (h : planErr js ovens ls = 0) : GoodJobs js ovens ∧ ls.length = js.length ∧ ∀ i, i < ls.length → 0 ≤ (ls.getD i (0, 0)).2 ∧ (ls.getD i (0, 0)).2 ≤ 1073741824 := by
  unfold planErr at h
  split at h
  · omega
  · rename_i h1
    split at h
    · omega
    · rename_i h2
      exact ⟨jobs_ok (by omega), by omega, fun i hi => slotErr_range (firstErr_all h i hi)⟩

set_option maxRecDepth 100000 in
set_option maxHeartbeats 4000000 in
theorem length_any (js : List (Int × Int)) (ovens : Int) (ls : List (Int × Int)) (vj vl : Value) (w : World) (hj : PairsOf w vj js) (hl : PairsOf w vl ls) (hcap : CapOk vl) :
    Calls Try.prog 29 #[vj, .int .i64 ovens, vl] w (RetIE (lenVal js ovens ls) (planErr js ovens ls) w) := by
  have HJ := Lib.hid hj
  have HL := Lib.hid hl
  have HC := Lib.hid hcap
  obtain ⟨aoj, capj, rfl, hJ⟩ := hj
  obtain ⟨aol, capl, rfl, hL⟩ := hl
  have HJE := Lib.hid hJ
  have HLE := Lib.hid hL
  clear hJ hL hcap
  by_cases h0 : planErr js ovens ls = 0
  · have t0 : (planErr js ovens ls != 0) = false := by simp [h0]
    have Hv : Hid (lenVal js ovens ls = endTo js ls ls.length) := by show _ = _; unfold lenVal; rw [if_pos h0]
    obtain ⟨hg, he, hr⟩ := plan_ok h0
    have HG := Lib.hid hg
    have HR := Lib.hid hr
    have H1 := Lib.hid he
    have hlen := hg.len
    have H0 := Lib.hid h0
    clear h0 hg hr he
    go_enter Try.func29, Try.ntmps29
    go_wp2_with fail
    refine (checkPlan_any js ovens ls _ _ _ HJ.out HL.out HC.out).mono ?_
    rintro e w1 ⟨rfl, hb1⟩
    generalize planErr js ovens ls = pe at *
    go_wp2_with fail
    go_loopw [9, 21] (fun bv iv wr => ∃ (i : Nat), i ≤ ls.length ∧ iv = .int .i64 i ∧ bv = .int .i64 (endTo js ls i) ∧ Below w.heap.size w wr)
      (fun _ iv _ => ls.length - (intOf iv).toNat)
    case atStart => exact ⟨0, Nat.zero_le _, rfl, rfl, hb1⟩
    case round =>
      clear hb1
      obtain ⟨i, hi, rfl, rfl, hbel⟩ := hrel
      by_cases hlt : i < ls.length
      · obtain ⟨b, off, rfl, hbl, hLL⟩ := HLE.out (by omega)
        have hltj : i < js.length := by rw [← H1.out]; exact hlt
        obtain ⟨bj, offj, rfl, hblj, hJJ⟩ := HJE.out (by omega)
        obtain ⟨g0, g1⟩ := (hLL i hlt).below hbel hbl
        obtain ⟨k0, k1⟩ := (hJJ i hltj).below hbel hblj
        have hlt' : (i : Int) < ls.length := by omega
        have hltj' : (i : Int) < js.length := by omega
        have hge' : (0 : Int) ≤ i := by omega
        have hbl2 : b < wr.heap.size := Nat.lt_of_lt_of_le hbl hbel.size
        have hblj2 : bj < wr.heap.size := Nat.lt_of_lt_of_le hblj hbel.size
        have hjob := HG.out.job i hltj
        have hpi := HR.out i hlt
        have Hst : Hid (endTo js ls (i + 1) = max (endTo js ls i) ((ls.getD i (0, 0)).2 + (js.getD i (0, 0)).2)) := rfl
        clear hLL hJJ
        generalize (ls.getD i (0, 0)).1 = x0 at *
        generalize (ls.getD i (0, 0)).2 = x1 at *
        generalize (js.getD i (0, 0)).1 = r at *
        generalize (js.getD i (0, 0)).2 = m at *
        generalize endTo js ls i = acc at *
        have hws : IntKind.i64.wrap (x1 + m) = x1 + m := IntWalk.i64_in _ (by omega)
        have hxa := hbel.alloc hbel.size (.cells #[.int .i64 x0, .int .i64 x1] 79)
        have hal := (Below.refl wr.heap.size wr).alloc (Nat.le_refl _) (.cells #[.int .i64 x0, .int .i64 x1] 79)
        have hN := blk_new wr #[.int .i64 x0, .int .i64 x1] 79
        have s1 : (wr.alloc (.cells #[.int .i64 x0, .int .i64 x1] 79)).cell? ⟨wr.heap.size, 1, none⟩ = some (.int .i64 x1) := blk_cell hN 1 _ rfl
        have j1 := (hal.cell (p := ⟨bj, offj + i * 2 + 1, none⟩) hblj2).trans k1
        have hsz : bj < (wr.alloc (.cells #[.int .i64 x0, .int .i64 x1] 79)).heap.size := by simp; omega
        clear hN
        go_wp2_with fail
        go_region
        go_wp2_with fail
        exact ⟨⟨i + 1, by omega, by go_num, by rw [Hst.out], hxa.drew⟩, meas_up hlt⟩
      · obtain rfl : i = ls.length := by omega
        go_wp2_with fail
        go_ret2
        exact ⟨by rw [Hv.out, H0.out]; rfl, hbel⟩
  · have t0 : (planErr js ovens ls != 0) = true := by simp [h0]
    have Hv : Hid (lenVal js ovens ls = 0) := by show _ = _; unfold lenVal; rw [if_neg h0]
    clear h0
    go_enter Try.func29, Try.ntmps29
    go_wp2_with fail
    refine (checkPlan_any js ovens ls _ _ _ HJ.out HL.out HC.out).mono ?_
    rintro e w1 ⟨rfl, hb1⟩
    generalize planErr js ovens ls = pe at *
    go_wp2_with fail
    go_ret2
    exact ⟨by rw [Hv.out]; rfl, hb1⟩

set_option maxRecDepth 100000 in
set_option maxHeartbeats 4000000 in
theorem qlength_any (js : List (Int × Int)) (ovens : Int) (ls : List (Int × Int)) (vj vl : Value) (w : World) (hj : PairsOf w vj js) (hl : PairsOf w vl ls) :
    Calls Try.prog 30 #[vj, .int .i64 ovens, vl] w (RetIE (lenVal js ovens ls) (planErr js ovens ls) w) := by
  have HJ := Lib.hid hj
  have HL := Lib.hid hl
  obtain ⟨aoj, capj, rfl, hJ⟩ := hj
  obtain ⟨aol, capl, rfl, hL⟩ := hl
  have HJE := Lib.hid hJ
  have HLE := Lib.hid hL
  clear hJ hL
  by_cases h0 : planErr js ovens ls = 0
  · have t0 : (planErr js ovens ls != 0) = false := by simp [h0]
    have Hv : Hid (lenVal js ovens ls = endTo js ls ls.length) := by show _ = _; unfold lenVal; rw [if_pos h0]
    obtain ⟨hg, he, hr⟩ := plan_ok h0
    have HG := Lib.hid hg
    have HR := Lib.hid hr
    have H1 := Lib.hid he
    have hlen := hg.len
    have H0 := Lib.hid h0
    clear h0 hg hr he
    go_enter Try.func30, Try.ntmps30
    go_wp2_with fail
    refine (qcheckPlan_any js ovens ls _ _ _ HJ.out HL.out).mono ?_
    rintro e w1 ⟨rfl, hb1⟩
    generalize planErr js ovens ls = pe at *
    go_wp2_with fail
    go_loopw [9, 10] (fun bv iv wr => ∃ (i : Nat), i ≤ ls.length ∧ iv = .int .i64 i ∧ bv = .int .i64 (endTo js ls i) ∧ Below w.heap.size w wr)
      (fun _ iv _ => ls.length - (intOf iv).toNat)
    case atStart => exact ⟨0, Nat.zero_le _, rfl, rfl, hb1⟩
    case round =>
      clear hb1
      obtain ⟨i, hi, rfl, rfl, hbel⟩ := hrel
      by_cases hlt : i < ls.length
      · obtain ⟨b, off, rfl, hbl, hLL⟩ := HLE.out (by omega)
        have hltj : i < js.length := by rw [← H1.out]; exact hlt
        obtain ⟨bj, offj, rfl, hblj, hJJ⟩ := HJE.out (by omega)
        obtain ⟨g0, g1⟩ := (hLL i hlt).below hbel hbl
        obtain ⟨k0, k1⟩ := (hJJ i hltj).below hbel hblj
        have hlt' : (i : Int) < ls.length := by omega
        have hltj' : (i : Int) < js.length := by omega
        have hge' : (0 : Int) ≤ i := by omega
        have hbl2 : b < wr.heap.size := Nat.lt_of_lt_of_le hbl hbel.size
        have hblj2 : bj < wr.heap.size := Nat.lt_of_lt_of_le hblj hbel.size
        have hjob := HG.out.job i hltj
        have hpi := HR.out i hlt
        have Hst : Hid (endTo js ls (i + 1) = max (endTo js ls i) ((ls.getD i (0, 0)).2 + (js.getD i (0, 0)).2)) := rfl
        clear hLL hJJ
        generalize (ls.getD i (0, 0)).1 = x0 at *
        generalize (ls.getD i (0, 0)).2 = x1 at *
        generalize (js.getD i (0, 0)).1 = r at *
        generalize (js.getD i (0, 0)).2 = m at *
        generalize endTo js ls i = acc at *
        have hws : IntKind.i64.wrap (x1 + m) = x1 + m := IntWalk.i64_in _ (by omega)
        go_wp2_with fail
        go_region
        go_wp2_with fail
        exact ⟨⟨i + 1, by omega, by go_num, by rw [Hst.out], hbel.drew⟩, meas_up hlt⟩
      · obtain rfl : i = ls.length := by omega
        go_wp2_with fail
        go_ret2
        exact ⟨by rw [Hv.out, H0.out]; rfl, hbel⟩
  · have t0 : (planErr js ovens ls != 0) = true := by simp [h0]
    have Hv : Hid (lenVal js ovens ls = 0) := by show _ = _; unfold lenVal; rw [if_neg h0]
    clear h0
    go_enter Try.func30, Try.ntmps30
    go_wp2_with fail
    refine (qcheckPlan_any js ovens ls _ _ _ HJ.out HL.out).mono ?_
    rintro e w1 ⟨rfl, hb1⟩
    generalize planErr js ovens ls = pe at *
    go_wp2_with fail
    go_ret2
    exact ⟨by rw [Hv.out]; rfl, hb1⟩

end Go.Proofs.Ytdjdnfjgklaneaa

/- THE WALK OF law06.StorePlans. -/
namespace Go.Proofs.Ytdjdnfjgklaneaa
open Go.RowKit

set_option maxRecDepth 100000 in
set_option maxHeartbeats 8000000 in
theorem storePlans_any (js : List (Int × Int)) (ovens : Int) (ls : List (Int × Int)) (vj vl : Value) (w : World) (hj : PairsOf w vj js) (hl : PairsOf w vl ls) (hcap : CapOk vl) :
    Calls Try.prog 7 #[vj, .int .i64 ovens, vl] w (RetBool true w) := by
  have HJ := Lib.hid hj
  have HL := Lib.hid hl
  have HC := Lib.hid hcap
  obtain ⟨aoj, capj, rfl, _⟩ := hj
  obtain ⟨aol, capl, rfl, hL⟩ := hl
  have HLE := Lib.hid hL
  clear hL hcap
  by_cases c1 : 70 < js.length
  · have t1 : decide ((js.length : Int) > 70) = true := by simp; omega
    clear c1
    go_enter Try.func7, Try.ntmps7
    go_wp2_with fail
    refine (awake_any _).mono ?_
    rintro e w1 ⟨rfl, hb1⟩
    go_wp2_with fail
    go_ret
    exact ⟨rfl, hb1⟩
  · have t1 : decide ((js.length : Int) > 70) = false := by simp; omega
    by_cases c2 : 70 < ls.length
    · have t2 : decide ((ls.length : Int) > 70) = true := by simp; omega
      clear c1 c2
      go_enter Try.func7, Try.ntmps7
      go_wp2_with fail
      refine (awake_any _).mono ?_
      rintro e w1 ⟨rfl, hb1⟩
      go_wp2_with fail
      go_ret
      exact ⟨rfl, hb1⟩
    · have t2 : decide ((ls.length : Int) > 70) = false := by simp; omega
      have hlj : js.length ≤ 70 := by omega
      have hll : ls.length ≤ 70 := by omega
      obtain ⟨i0, hi0, hz0, hz1, hz2⟩ := info_parts info_qslot
      have hzd := zd2
      clear c1 c2
      go_enter Try.func7, Try.ntmps7
      go_wp2_with fail
      go_loopw [7, 25] (fun mv iv wr => ∃ (i : Nat), i ≤ ls.length ∧ iv = .int .i64 i ∧ LRow wr w.heap.size 78 2 mv i (pairCells (ls.take i)) ∧ Below w.heap.size w wr)
        (fun _ iv _ => ls.length - (intOf iv).toNat)
      case atStart => exact ⟨0, Nat.zero_le _, rfl, LRow.nil _ _ _ _, Below.refl _ _⟩
      case round =>
        obtain ⟨i, hi, rfl, hL, hbel⟩ := hrel
        by_cases hlt : i < ls.length
        · obtain ⟨b, off, rfl, hbl, hLL⟩ := HLE.out (by omega)
          obtain ⟨g0, g1⟩ := (hLL i hlt).below hbel hbl
          have hlt' : (i : Int) < ls.length := by omega
          have hge' : (0 : Int) ≤ i := by omega
          have hbl2 : b < wr.heap.size := Nat.lt_of_lt_of_le hbl hbel.size
          have Htk := Lib.hid (pairCells_take ls i hlt)
          clear hLL
          generalize (ls.getD i (0, 0)).1 = r at *
          generalize (ls.getD i (0, 0)).2 = m at *
          have hx1 := (Below.refl wr.heap.size wr).alloc (Nat.le_refl _) (.cells #[.int .i64 r, .int .i64 m] 79)
          have hx2 := hx1.alloc hx1.size (.cells #[.int .i64 r, .int .i64 m] 78)
          have hcn := cell_new2 (wr.alloc (.cells #[.int .i64 r, .int .i64 m] 79)) (.int .i64 r) (.int .i64 m) 78
          rw [World.size_alloc] at hcn
          have HCN := Lib.hid hcn
          have HL2 := Lib.hid (hL.below hx2)
          clear hcn hL hx1
          go_wp2_with (at_builtin; refine wpList_append_lrow _ rfl (.tmp 29) (.tmp 31) 68 rfl w.heap.size 78 i0 _ 2 16 Try.underlying68 hi0 hz0 hz1 hz2 rfl (by decide) hzd _ _ _ rfl HL2.out ⟨wr.heap.size + 1, 0, none⟩ 1 1 [.int .i64 r, .int .i64 m] rfl rfl HCN.out (one2 _ _) (nd2 _ _) (by omega) (by unfold maxLen; omega) (by omega) (by simp; have := hbel.size; omega) ?_)
          intro g cap' w3 hL3 hgr hat
          have hx3 : Below w.heap.size w w3 := (hbel.trans (hx2.mono hbel.size)).grown hgr (by simp; have := hbel.size; omega) (ownBlock_base HL2.out.1)
          go_wp2_with fail
          exact ⟨⟨i + 1, by omega, by go_num, by rw [Htk.out]; exact hL3, hx3⟩, meas_up hlt⟩
        · obtain rfl : i = ls.length := by omega
          rw [List.take_length] at hL
          have hP := PairsOf.ofRow hL
          have HP := Lib.hid hP
          obtain ⟨aop, capp, rfl, _⟩ := hP
          clear hL
          go_wp2_with fail
          refine (length_any js ovens ls _ _ _ (HJ.out.below hbel) (HL.out.below hbel) HC.out).mono ?_
          rintro e w1 ⟨rfl, hb1⟩
          have hx1 := below_join hbel hb1
          go_wp2_with fail
          refine (jobs_any js _ _ (HJ.out.below hx1) (by omega)).mono ?_
          rintro e w2 ⟨vb, rfl, hvb, hb2⟩
          have HB := Lib.hid hvb
          obtain ⟨aob, capb, rfl, _⟩ := hvb
          have hx2 := below_join hx1 hb2
          have HP2 := Lib.hid (HP.out.below (below_join hb1 hb2))
          go_wp2_with fail
          refine (qlength_any js ovens ls _ _ _ HB.out HP2.out).mono ?_
          rintro e w3 ⟨rfl, hb3⟩
          have hx3 := below_join hx2 hb3
          go_wp2_with fail
          refine (checkPlan_any js ovens ls _ _ _ (HJ.out.below hx3) (HL.out.below hx3) HC.out).mono ?_
          rintro e w4 ⟨rfl, hb4⟩
          have hx4 := below_join hx3 hb4
          go_wp2_with fail
          refine (jobs_any js _ _ (HJ.out.below hx4) (by omega)).mono ?_
          rintro e w5 ⟨vc, rfl, hvc, hb5⟩
          have HD := Lib.hid hvc
          obtain ⟨aoc, capc, rfl, _⟩ := hvc
          have hx5 := below_join hx4 hb5
          have HP5 := Lib.hid (HP2.out.below (below_join hb3 (below_join hb4 hb5)))
          go_wp2_with fail
          refine (qcheckPlan_any js ovens ls _ _ _ HD.out HP5.out).mono ?_
          rintro e w6 ⟨rfl, hb6⟩
          have hx6 := below_join hx5 hb6
          clear hb1 hb2 hb3 hb4 hb5 hb6 hx1 hx2 hx3 hx4 hx5 HB HD HP HP2 HP5
          generalize planErr js ovens ls = E at *
          generalize lenVal js ovens ls = B at *
          have e1 : (E == E) = true := by simp
          have e2 : (B == B) = true := by simp
          go_wp2_with fail
          refine (awake_any _).mono ?_
          rintro e w7 ⟨rfl, hb7⟩
          go_wp2_with fail
          go_ret
          exact ⟨rfl, below_join hx6 hb7⟩

end Go.Proofs.Ytdjdnfjgklaneaa
